/-
  The law NamesJoin, walked.
-/
import Derived.Test.YtbcadgooelcnhaaDoorParts
import Derived.Test.YtbcadgooelcnhaaDoorPlainClean
namespace Go.Proofs.YtbcadgooelcnhaaDoor
open Go.RowKit

theorem enters_namesJoin1 : ∀ args w, (callFunc 40 args).run Tryd.prog w = .ok (.enter 40 args) w := enters_of Tryd.func40 (by kernel_rfl) rfl

set_option maxHeartbeats 1000000 in
theorem namesJoin1_any (s : ByteArray) (w : World) (hs : s.size ≤ 9223372036854775807) :
    Calls Tryd.prog 40 #[.string s] w fun e w' => e = .returned (.bool (!Wh.isName s.data.toList)) ∧ Below w.heap.size w w' := by
  go_enter Tryd.func40, Tryd.ntmps40
  go_wp2_with (go_at_call 41; refine (refIsName_any s _ hs).mono ?_; rintro e w' ⟨rfl, hb⟩)
  go_ret
  exact ⟨rfl, hb⟩

set_option maxHeartbeats 2000000 in
theorem namesJoin_walk (a : Option Addr) (c : Nat) (xs : List ByteArray) (w : World) (hE : Env w) (hH : Holds w a (xs.map Value.string)) (hc : xs.length ≤ c) (hN : xs.length ≤ 1048576) (hz : ∀ x ∈ xs, x.size ≤ 1048576) (ht : Wh.total xs ≤ 1048576) :
    Calls Tryd.prog 8 #[.slice a xs.length c] w fun e w' => e = .returned (.bool true) ∧ Below w.heap.size w w' := by
  have hjl := Wh.join_length 47 xs
  have HJ := Lib.hid (fun W (hb : Below w.heap.size w W) => namesJoin_any a c xs W (hH.under hb) hc (by omega) (fun x hx => by have := hz x hx; omega) (fun _ => by omega))
  have HS := Lib.hid (fun W (hb : Below w.heap.size w W) => join_any a c xs ⟨#[47]⟩ W (hH.under hb) hc (by omega) (by show (Lib.join _ [47]).length ≤ _; omega))
  have hF := Lib.hid (fun W (hb : Below w.heap.size w W) => containsFunc_str 40 (fun x => !Wh.isName x.data.toList) a c xs W enters_namesJoin1 (by omega) (hH.under hb) (fun x hx W _ => namesJoin1_any x W (by have := hz x hx; omega)))
  have hany : xs.any (fun x => !Wh.isName x.data.toList) = !xs.all (fun x => Wh.isName x.data.toList) := by rw [List.not_all_eq_any_not]
  rw [hany] at hF
  have e0 : (⟨#[47]⟩ : ByteArray).data.toList = [47] := rfl
  rw [e0] at HS
  have HE := Lib.hid hE
  clear hE hany e0 hH hz
  cases hall : xs.all (fun x => Wh.isName x.data.toList)
  · rw [hall] at hF
    have hj := Wh.join_bad hall
    rw [hj.1, hj.2] at HJ
    clear hj hall
    generalize Lib.join (xs.map (·.data.toList)) [47] = jl at *
    go_enter Tryd.func8, Tryd.ntmps8
    go_wp2_with fail
    refine (landed_any w HE.out).mono ?_
    rintro e w1 ⟨rfl, hb1⟩
    go_wp2_with fail
    refine (HS.out _ hb1).mono ?_
    rintro e w2 ⟨rfl, hb2⟩
    have hbb := bTrans hb1 hb2
    go_wp2_with fail
    refine (hF.out _ hbb).mono ?_
    rintro e w3 ⟨rfl, hb3⟩
    have hbb := bTrans hbb hb3
    go_wp2_with fail
    refine (HJ.out _ hbb).mono ?_
    rintro e w4 ⟨rfl, hb4⟩
    have hbb := bTrans hbb hb4
    go_wp2_with fail
    go_ret
    exact ⟨rfl, hbb⟩
  · rw [hall] at hF
    generalize hjl2 : Lib.join (xs.map (·.data.toList)) [47] = jl at *
    have hsz : (⟨jl.toArray⟩ : ByteArray).size = jl.length := rfl
    by_cases h1 : 1024 < jl.length
    · have hj := Wh.join_long hall (by rw [hjl2]; exact h1)
      rw [hj.1, hj.2] at HJ
      clear hj hall hjl2
      go_enter Tryd.func8, Tryd.ntmps8
      go_wp2_with fail
      refine (landed_any w HE.out).mono ?_
      rintro e w1 ⟨rfl, hb1⟩
      go_wp2_with fail
      refine (HS.out _ hb1).mono ?_
      rintro e w2 ⟨rfl, hb2⟩
      have hbb := bTrans hb1 hb2
      go_wp2_with fail
      refine (hF.out _ hbb).mono ?_
      rintro e w3 ⟨rfl, hb3⟩
      have hbb := bTrans hbb hb3
      go_wp2_with fail
      refine (HJ.out _ hbb).mono ?_
      rintro e w4 ⟨rfl, hb4⟩
      have hbb := bTrans hbb hb4
      go_wp2_with fail
      go_ret
      exact ⟨rfl, hbb⟩
    · have hj := Wh.join_good hall (by rw [hjl2]; omega)
      rw [hjl2] at hj
      rw [hj.1, hj.2] at HJ
      clear hj hall hjl2
      go_enter Tryd.func8, Tryd.ntmps8
      go_wp2_with fail
      refine (landed_any w HE.out).mono ?_
      rintro e w1 ⟨rfl, hb1⟩
      go_wp2_with fail
      refine (HS.out _ hb1).mono ?_
      rintro e w2 ⟨rfl, hb2⟩
      have hbb := bTrans hb1 hb2
      go_wp2_with fail
      refine (hF.out _ hbb).mono ?_
      rintro e w3 ⟨rfl, hb3⟩
      have hbb := bTrans hbb hb3
      go_wp2_with fail
      refine (HJ.out _ hbb).mono ?_
      rintro e w4 ⟨rfl, hb4⟩
      have hbb := bTrans hbb hb4
      go_wp2_with fail
      go_ret
      exact ⟨ret_bool (by simp), hbb⟩

theorem total_mem {xs : List ByteArray} {x : ByteArray} (h : x ∈ xs) : x.size + 1 ≤ Wh.total xs := by
  induction xs with
  | nil => cases h
  | cons y r ih =>
    have e : Wh.total (y :: r) = y.size + 1 + Wh.total r := by simp [Wh.total]
    rcases List.mem_cons.1 h with rfl | h
    · omega
    · have := ih h
      omega
theorem total_length (xs : List ByteArray) : xs.length ≤ Wh.total xs := by
  induction xs with
  | nil => simp
  | cons y r ih =>
    have e : Wh.total (y :: r) = y.size + 1 + Wh.total r := by simp [Wh.total]
    simp only [List.length_cons]
    omega

theorem namesJoin_small (a : Option Addr) (c : Nat) (xs : List ByteArray) (w : World) (hE : Env w) (hH : Holds w a (xs.map Value.string)) (hc : xs.length ≤ c) (ht : Wh.total xs ≤ 1048576) :
    Calls Tryd.prog 8 #[.slice a xs.length c] w fun e w' => e = .returned (.bool true) ∧ Below w.heap.size w w' :=
  namesJoin_walk a c xs w hE hH hc (by have := total_length xs; omega) (fun x hx => by have := total_mem hx; omega) ht
end Go.Proofs.YtbcadgooelcnhaaDoor
