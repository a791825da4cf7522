/-
  both.PrintDeal: its closure, that writes a line.
-/
import Derived.Test.YtjcpcmiijadmcaaDoorPlainDeal3
import Derived.Test.YtjcpcmiijadmcaaDoorBuild
namespace Go.Proofs.YtjcpcmiijadmcaaDoor
open Go.RowKit

theorem enters_line : ∀ args w, (callFunc 34 args).run Tryd.prog w = .ok (.enter 34 args) w := enters_of Tryd.func34 (by kernel_rfl) rfl

theorem quote_any (s : ByteArray) (w : World) (hs : s.size ≤ 1000000) : Calls Tryd.prog 38 #[.string s] w fun e w' => e = .returned (.string (Wh.quo s)) ∧ Below w.heap.size w w' := by
  have HQ := Lib.hid (quoted_any s w hs)
  go_enter Tryd.func38, Tryd.ntmps38
  go_wp2_with (go_at_call 69; refine HQ.out.mono ?_; rintro e w' ⟨rfl, hb⟩)
  go_ret
  exact ⟨rfl, hb⟩

set_option maxHeartbeats 1000000 in
theorem line_any (xs : List ByteArray) (a : Option Addr) (c : Nat) {w0 w : World} {b : Nat} {out : List UInt8} (h : Bld w0 b out w) (hH : Holds w a (xs.map Value.string)) (h1 : xs ≠ []) (h2 : xs.length ≤ 100) (hc : xs.length ≤ c)
    (hj : (Wh.lineOf xs).length ≤ 1000000) (hl : out.length ≤ 140000000000000) :
    Calls Tryd.prog 34 #[.slice a xs.length c, .pointer (some ⟨b, 0, none⟩)] w fun e w' => e = .returned (.tuple #[]) ∧ Bld w0 b (out ++ Wh.lineOf xs) w' ∧ Lib.OthersKept 5 (some b) w w' := by
  obtain ⟨x, r, rfl⟩ : ∃ x r, xs = x :: r := by cases xs with | nil => exact absurd rfl h1 | cons x r => exact ⟨x, r, rfl⟩
  obtain ⟨bk, off, rfl, hbk, -⟩ := hH.at (k := 0) (u := .string x) rfl
  have hcells : ∀ (j : Nat) y, (x :: r)[j]? = some y → w.cell? ⟨bk, off + j, none⟩ = some (.string y) := by
    intro j y hy
    obtain ⟨bk', off', e, _, hcc⟩ := hH.at (k := j) (u := .string y) (by rw [List.getElem?_map, hy]; rfl)
    cases e
    exact hcc
  have hle : Wh.lineOf (x :: r) = Lib.join ((x :: r).map (·.data.toList)) [32] ++ [10] := rfl
  have HJ := Lib.hid (Tryd.strings_Join bk off c (x :: r) ⟨#[32]⟩ w hcells hbk (by omega) hc (by
    have : (Wh.lineOf (x :: r)).length = (Lib.join ((x :: r).map (·.data.toList)) [32]).length + 1 := by rw [hle, List.length_append]; rfl
    show (Lib.join ((x :: r).map (·.data.toList)) [32]).length ≤ _
    omega))
  have hsz : (Lib.join ((x :: r).map (·.data.toList)) [32]).length + 1 ≤ 1000000 := by
    rw [hle, List.length_append] at hj
    exact hj
  have HL : Hid (Wh.lineOf (x :: r) = Lib.join ((x :: r).map (·.data.toList)) [32] ++ [10]) := Lib.hid hle
  have HB := Lib.hid h
  clear hcells hH h hle hj
  change Hid (Calls _ _ _ _ fun e w' => e = .returned (.string ⟨(Lib.join ((x :: r).map (·.data.toList)) [32]).toArray⟩) ∧ _) at HJ
  generalize (Lib.join ((x :: r).map (·.data.toList)) [32]) = J at *
  generalize hn : (x :: r).length = n at *
  have hadd : ∀ W : World, (Op.stringOp .add ⟨J.toArray⟩ ⟨#[10]⟩).run Tryd.prog W = .ok (.string ⟨(J ++ [10]).toArray⟩) W := fun W => by
    rw [run_string_add_sum W _ _ (by simp [Lib.size_eq]; omega)]
    congr 2
  clear hn
  have hsz2 : (⟨(J ++ [10]).toArray⟩ : ByteArray).size ≤ 1000000 := by simp [Lib.size_eq]; omega
  have HD : Hid ((⟨(J ++ [10]).toArray⟩ : ByteArray).data.toList = J ++ [10]) := Lib.hid rfl
  rw [← HD.out] at HL
  clear HD
  generalize (⟨(J ++ [10]).toArray⟩ : ByteArray) = T at *
  go_enter Tryd.func34, Tryd.ntmps34
  go_wp2_with (first | (go_at_call 36; refine HJ.out.mono ?_; rintro e w' ⟨rfl, hb⟩) | (go_at_call 35; refine (writeString_any _ (HB.out.under hb) (by omega)).mono ?_; rintro e w6 ⟨rfl, hB6, hk6⟩))
  go_end0
  exact ⟨rfl, by rw [HL.out]; exact hB6, (kept_below hb).trans hk6⟩

theorem holds_newV (w : World) (vs : List Value) (t : TypeId) : Holds (w.alloc (.cells vs.toArray t)) (some ⟨w.heap.size, 0, none⟩) vs := by
  refine .inr ⟨w.heap.size, 0, rfl, by simp, fun j u hu => ?_⟩
  rw [Nat.zero_add, World.cell?_alloc_at _ _ _ _ rfl]
  simpa using hu

/-- A line of words that were just listed. -/
theorem lineNew_any (xs : List ByteArray) (t : TypeId) {w0 w : World} {b : Nat} {out : List UInt8} (h : Bld w0 b out w) (hk : Wh.okLine xs) (hl : out.length ≤ 140000000000000) :
    Calls Tryd.prog 34 #[.slice (some ⟨w.heap.size, 0, none⟩) xs.length xs.length, .pointer (some ⟨b, 0, none⟩)] (w.alloc (.cells (xs.map Value.string).toArray t)) fun e w' => e = .returned (.tuple #[]) ∧ Bld w0 b (out ++ Wh.lineOf xs) w' ∧ Lib.OthersKept 5 (some b) w w' := by
  refine (line_any xs _ xs.length (h.under (bAlloc (Below.refl _ _) _)) (holds_newV w _ t) hk.1 (by have := hk.2.1; omega) (Nat.le_refl _) (by have := hk.2.2; omega) hl).mono ?_
  rintro e w' ⟨he, hB, hK⟩
  exact ⟨he, hB, (kept_below (bAlloc (Below.refl _ _) _)).trans hK⟩
end Go.Proofs.YtjcpcmiijadmcaaDoor
