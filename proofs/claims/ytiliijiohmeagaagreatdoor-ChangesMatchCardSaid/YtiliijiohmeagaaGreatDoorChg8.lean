/-
  Decide of both; slices.Equal of two equal slices of changes; alike of them.
-/
import Derived.Test.YtiliijiohmeagaaGreatDoorChg1
import Derived.BigQuiet
import Derived.Laws.StructEq
namespace Wh
/-- P164: what is done for a path with a change of each side. -/
def decT (a b : Int) : Int := if 0 ≤ a ∧ a ≤ 3 ∧ 0 ≤ b ∧ b ≤ 3 then (([[0, 2, 2, 4], [1, 5, 5, 1], [1, 5, 5, 1], [3, 2, 2, 0]] : List (List Int)).getD a.toNat []).getD b.toNat 0 else 0
end Wh
namespace Go.Proofs.YtiliijiohmeagaaGreatDoor
open Go.RowKit

theorem dec_out {a b : Int} (h : ¬ (0 ≤ a ∧ a ≤ 3 ∧ 0 ≤ b ∧ b ≤ 3)) : Wh.decT a b = 0 := if_neg h

theorem idxA0 (w : World) : (Instr.index 166 (.agg #[.int .i64 0, .int .i64 2, .int .i64 2, .int .i64 4, .int .i64 1, .int .i64 5, .int .i64 5, .int .i64 1, .int .i64 1, .int .i64 5, .int .i64 5, .int .i64 1, .int .i64 3, .int .i64 2, .int .i64 2, .int .i64 0]) (.int .i64 0)).run Tryz.prog w = .ok (.agg #[.int .i64 0, .int .i64 2, .int .i64 2, .int .i64 4]) w := by kernel_rfl
theorem idxA1 (w : World) : (Instr.index 166 (.agg #[.int .i64 0, .int .i64 2, .int .i64 2, .int .i64 4, .int .i64 1, .int .i64 5, .int .i64 5, .int .i64 1, .int .i64 1, .int .i64 5, .int .i64 5, .int .i64 1, .int .i64 3, .int .i64 2, .int .i64 2, .int .i64 0]) (.int .i64 1)).run Tryz.prog w = .ok (.agg #[.int .i64 1, .int .i64 5, .int .i64 5, .int .i64 1]) w := by kernel_rfl
theorem idxA2 (w : World) : (Instr.index 166 (.agg #[.int .i64 0, .int .i64 2, .int .i64 2, .int .i64 4, .int .i64 1, .int .i64 5, .int .i64 5, .int .i64 1, .int .i64 1, .int .i64 5, .int .i64 5, .int .i64 1, .int .i64 3, .int .i64 2, .int .i64 2, .int .i64 0]) (.int .i64 2)).run Tryz.prog w = .ok (.agg #[.int .i64 1, .int .i64 5, .int .i64 5, .int .i64 1]) w := by kernel_rfl
theorem idxA3 (w : World) : (Instr.index 166 (.agg #[.int .i64 0, .int .i64 2, .int .i64 2, .int .i64 4, .int .i64 1, .int .i64 5, .int .i64 5, .int .i64 1, .int .i64 1, .int .i64 5, .int .i64 5, .int .i64 1, .int .i64 3, .int .i64 2, .int .i64 2, .int .i64 0]) (.int .i64 3)).run Tryz.prog w = .ok (.agg #[.int .i64 3, .int .i64 2, .int .i64 2, .int .i64 0]) w := by kernel_rfl
theorem idxB00 (w : World) : (Instr.index 165 (.agg #[.int .i64 0, .int .i64 2, .int .i64 2, .int .i64 4]) (.int .i64 0)).run Tryz.prog w = .ok (.int .i64 0) w := by kernel_rfl
theorem idxB01 (w : World) : (Instr.index 165 (.agg #[.int .i64 0, .int .i64 2, .int .i64 2, .int .i64 4]) (.int .i64 1)).run Tryz.prog w = .ok (.int .i64 2) w := by kernel_rfl
theorem idxB02 (w : World) : (Instr.index 165 (.agg #[.int .i64 0, .int .i64 2, .int .i64 2, .int .i64 4]) (.int .i64 2)).run Tryz.prog w = .ok (.int .i64 2) w := by kernel_rfl
theorem idxB03 (w : World) : (Instr.index 165 (.agg #[.int .i64 0, .int .i64 2, .int .i64 2, .int .i64 4]) (.int .i64 3)).run Tryz.prog w = .ok (.int .i64 4) w := by kernel_rfl
theorem idxB10 (w : World) : (Instr.index 165 (.agg #[.int .i64 1, .int .i64 5, .int .i64 5, .int .i64 1]) (.int .i64 0)).run Tryz.prog w = .ok (.int .i64 1) w := by kernel_rfl
theorem idxB11 (w : World) : (Instr.index 165 (.agg #[.int .i64 1, .int .i64 5, .int .i64 5, .int .i64 1]) (.int .i64 1)).run Tryz.prog w = .ok (.int .i64 5) w := by kernel_rfl
theorem idxB12 (w : World) : (Instr.index 165 (.agg #[.int .i64 1, .int .i64 5, .int .i64 5, .int .i64 1]) (.int .i64 2)).run Tryz.prog w = .ok (.int .i64 5) w := by kernel_rfl
theorem idxB13 (w : World) : (Instr.index 165 (.agg #[.int .i64 1, .int .i64 5, .int .i64 5, .int .i64 1]) (.int .i64 3)).run Tryz.prog w = .ok (.int .i64 1) w := by kernel_rfl
theorem idxB30 (w : World) : (Instr.index 165 (.agg #[.int .i64 3, .int .i64 2, .int .i64 2, .int .i64 0]) (.int .i64 0)).run Tryz.prog w = .ok (.int .i64 3) w := by kernel_rfl
theorem idxB31 (w : World) : (Instr.index 165 (.agg #[.int .i64 3, .int .i64 2, .int .i64 2, .int .i64 0]) (.int .i64 1)).run Tryz.prog w = .ok (.int .i64 2) w := by kernel_rfl
theorem idxB32 (w : World) : (Instr.index 165 (.agg #[.int .i64 3, .int .i64 2, .int .i64 2, .int .i64 0]) (.int .i64 2)).run Tryz.prog w = .ok (.int .i64 2) w := by kernel_rfl
theorem idxB33 (w : World) : (Instr.index 165 (.agg #[.int .i64 3, .int .i64 2, .int .i64 2, .int .i64 0]) (.int .i64 3)).run Tryz.prog w = .ok (.int .i64 0) w := by kernel_rfl

set_option maxHeartbeats 4000000 in
set_option maxRecDepth 100000 in
theorem refDecide_any (a b : Int) (w : World) :
    Calls Tryz.prog 17 #[.int .i64 a, .int .i64 b] w fun e w' => e = .returned (.int .i64 (Wh.decT a b)) ∧ w' = w := by
  by_cases h1 : a < 0
  · have HK := Lib.hid (dec_out (a := a) (b := b) (by omega))
    go_enter Tryz.func17, Tryz.ntmps17
    go_wp2_with fail
    go_ret
    exact ⟨ret_int HK.out.symm, rfl⟩
  by_cases h2 : 3 < a
  · have HK := Lib.hid (dec_out (a := a) (b := b) (by omega))
    go_enter Tryz.func17, Tryz.ntmps17
    go_wp2_with fail
    go_ret
    exact ⟨ret_int HK.out.symm, rfl⟩
  by_cases h3 : b < 0
  · have HK := Lib.hid (dec_out (a := a) (b := b) (by omega))
    go_enter Tryz.func17, Tryz.ntmps17
    go_wp2_with fail
    go_ret
    exact ⟨ret_int HK.out.symm, rfl⟩
  by_cases h4 : 3 < b
  · have HK := Lib.hid (dec_out (a := a) (b := b) (by omega))
    go_enter Tryz.func17, Tryz.ntmps17
    go_wp2_with fail
    go_ret
    exact ⟨ret_int HK.out.symm, rfl⟩
  rcases (by omega : a = 0 ∨ a = 1 ∨ a = 2 ∨ a = 3) with rfl | rfl | rfl | rfl <;> rcases (by omega : b = 0 ∨ b = 1 ∨ b = 2 ∨ b = 3) with rfl | rfl | rfl | rfl
  all_goals
    clear h1 h2 h3 h4
    have hidxA0 := idxA0
    have hidxA1 := idxA1
    have hidxA2 := idxA2
    have hidxA3 := idxA3
    have hidxB00 := idxB00
    have hidxB01 := idxB01
    have hidxB02 := idxB02
    have hidxB03 := idxB03
    have hidxB10 := idxB10
    have hidxB11 := idxB11
    have hidxB12 := idxB12
    have hidxB13 := idxB13
    have hidxB30 := idxB30
    have hidxB31 := idxB31
    have hidxB32 := idxB32
    have hidxB33 := idxB33
    go_enter Tryz.func17, Tryz.ntmps17
    go_wp2_with fail
    go_ret
    exact ⟨rfl, rfl⟩

abbrev chgVal (s : Wh.Change) : Value := .agg #[.int .i64 s.kind, .string s.path]
theorem neqSame (c : Wh.Change) (w : World) : (binOp .neq 97 (chgVal c) (chgVal c)).run Tryz.prog w = .ok (.bool false) w := by
  have u3 := Tryz.underlying3
  have u9 := Tryz.underlying9
  have hS : Tryz.prog.underlying 97 = some (.struct (Tryz.prog.fieldsOf 97)) := by kernel_rfl
  have hp : Tryz.prog.stoodInHeld 97 = false := by kernel_rfl
  rw [run_neq_struct, show (10000 : Nat) = 9999 + 1 from rfl, run_equalIn_agg w 9999 97 _ _ hS hp]
  simp only [Program.fieldsOf, Tryz.underlying97]
  go_simp

theorem chgRow {w : World} {a : Option Addr} {xs : List Wh.Change} (h : HoldsR w a 2 (xs.map chgCells)) {k : Nat} {x : Wh.Change} (hk : xs[k]? = some x) :
    ∃ b off, a = some ⟨b, off, none⟩ ∧ b < w.heap.size ∧ w.cell? ⟨b, off + k * 2, none⟩ = some (.int .i64 x.kind) ∧ w.cell? ⟨b, off + k * 2 + 1, none⟩ = some (.string x.path) := by
  obtain ⟨b, off, ha, hb, hc⟩ := h.at (k := k) (row := chgCells x) (by simp [hk])
  exact ⟨b, off, ha, hb, hc 0 _ rfl, hc 1 _ rfl⟩

set_option maxHeartbeats 2000000 in
theorem equalSame_any (cs : List Wh.Change) (a1 a2 : Option Addr) (c1 c2 : Nat) (w : World) (h1 : HoldsR w a1 2 (cs.map chgCells)) (h2 : HoldsR w a2 2 (cs.map chgCells)) (hl : cs.length ≤ 5864062014634) :
    Calls Tryz.prog 85 #[.slice a1 cs.length c1, .slice a2 cs.length c2] w fun e w' => e = .returned (.bool true) ∧ Below w.heap.size w w' := by
  have H1 := Lib.hid h1
  have H2 := Lib.hid h2
  have hg : Tryz.prog.eqGuardType Tryz.prog.depth 97 = false := by kernel_rfl
  clear h1 h2
  generalize hn : cs.length = N at *
  have HN := Lib.hid hn
  clear hn
  go_enter Tryz.func85, Tryz.ntmps85
  go_wp2_with fail
  go_loopg [13] N (fun g i wx => ∃ k : Nat, k + g = N ∧ i = .int .i64 k ∧ Below w.heap.size w wx)
  case atStart => exact ⟨0, by omega, rfl, Below.refl _ _⟩
  case round =>
    obtain ⟨k, hk, rfl, hb⟩ := hrel
    by_cases hlt : k < N
    · obtain ⟨g, rfl⟩ : ∃ g, gk = g + 1 := ⟨gk - 1, by omega⟩
      obtain ⟨c, hc⟩ : ∃ c, cs[k]? = some c := ⟨_, List.getElem?_eq_getElem (by rw [HN.out]; exact hlt)⟩
      obtain ⟨b1, o1, e1, hb1, p0, p1⟩ := chgRow (H1.out.under hb) hc
      obtain ⟨b2, o2, e2, hb2, q0, q1⟩ := chgRow (H2.out.under hb) hc
      subst e1 e2
      have hne := neqSame c
      have hI : (k : Int) < (N : Int) := by omega
      have hI0 : (0 : Int) ≤ (k : Int) := by omega
      clear hc
      go_wp2_with fail
      go_quiet (fail)
      go_wp2_with fail
      go_roundg g
      case measure => omega
      case rel => exact ⟨k + 1, by omega, by go_num, bDrewN hb _⟩
    · have hI : ¬ (k : Int) < (N : Int) := by omega
      go_wp2_with fail
      go_ret
      exact ⟨rfl, hb⟩

set_option maxHeartbeats 2000000 in
theorem listeqSame_any (cs : List Wh.Change) (a1 a2 : Option Addr) (c1 c2 : Nat) (w : World) (h1 : HoldsR w a1 2 (cs.map chgCells)) (h2 : HoldsR w a2 2 (cs.map chgCells)) (hl : cs.length ≤ 5864062014634) :
    Calls Tryz.prog 42 #[.slice a1 cs.length c1, .slice a2 cs.length c2] w fun e w' => e = .returned (.bool true) ∧ Below w.heap.size w w' := by
  have HE := Lib.hid (equalSame_any cs a1 a2 c1 c2 w h1 h2 hl)
  clear h1 h2
  go_enter Tryz.func42, Tryz.ntmps42
  go_wp2_with (go_at_call 85; refine HE.out.mono ?_; rintro e w2 ⟨rfl, hb2⟩)
  go_ret
  exact ⟨rfl, hb2⟩

end Go.Proofs.YtiliijiohmeagaaGreatDoor
