/-
  The law FeaturesCheck, walked.
-/
import Derived.Test.YtjfnkkpmmebnfaaDoorNew
import Derived.Test.YtjfnkkpmmebnfaaDoorSeq
namespace Go.Proofs.YtjfnkkpmmebnfaaDoor
open Go.RowKit

set_option maxHeartbeats 1000000 in
theorem newClock5_any (w : World) :
    Calls Tryd.prog 16 #[.int .i64 5] w fun e w' => e = .returned (.pointer (some ⟨w.heap.size, 0, none⟩)) ∧ Below w.heap.size w w' := by
  go_enter Tryd.func16, Tryd.ntmps16
  go_wp2
  go_ret
  exact ⟨rfl, bAlloc (Below.refl _ _) _⟩

theorem dr3 {B : Nat} {a b : World} (h : Below B a b) : Below B a b.drew := ⟨h.os, h.tape, h.output, h.size, h.block⟩

set_option maxHeartbeats 4000000 in
set_option maxRecDepth 100000 in
theorem featuresCheck_walk (f : Wh.Feat) (hf : FeatOk f) (xs : List Wh.Fault) (a : Option Addr) (c : Nat) (clock : Bool) (w : World) (hE : Env w) (hlc : xs.length ≤ c) (hH : HoldsR w a 4 (xs.map faultCells)) :
    Calls Tryd.prog 3 #[featVal f, .slice a xs.length c, .bool clock] w fun e w' => e = .returned (.bool true) ∧ Below w.heap.size w w' := by
  have hb1 : Below w.heap.size w (w.alloc (featObj f)) := bAlloc (Below.refl _ _) _
  have HB := Lib.hid (featBox_new w f)
  have HL := Lib.hid (fun W (hb : Below w.heap.size w W) => landed_any W (hE.under hb))
  have HR := Lib.hid (fun k W ha hk => refCheckFeat_any f hf k 0 5 W ha hk)
  have HC := Lib.hid (fun W => stCheckFeat_any f hf W)
  have HN1 := Lib.hid (fun ad W (hb : Below w.heap.size w W) h0 => new_made f hf ad xs a c W hlc (hH.under hb) h0)
  have HN2 := Lib.hid (fun pc W h0 => new_bad f hf pc (.slice a xs.length c) W h0)
  have HN3 := Lib.hid (fun W h0 => new_still f hf (.slice a xs.length c) W h0)
  have HF := Lib.hid (fun W (hb : Below w.heap.size w W) => refFaults_any xs a c W hlc (hH.under hb))
  clear hE hf hH
  generalize Wh.featErr f = E at *
  generalize Wh.faultsErr xs = F at *
  have hVF : Value.agg #[.int .i64 f.has, .int .i64 f.sums, .int .i64 f.prec, .int .i64 f.maxName, .int .i64 f.maxPath, .int .i64 f.maxSize, .int .i64 f.page, .int .i64 f.partSize, .string f.forbid] = featVal f := rfl
  have HVF := Lib.hid hVF
  rw [← hVF]
  clear hVF
  unfold featObj at *
  go_enter Tryd.func3, Tryd.ntmps3
  go_upto_region 1 with fail
  generalize w.alloc _ = w1 at *
  have hVF := HVF.out
  simp only [hVF]
  have HX := Lib.hid (fun W (hb : Below w1.heap.size w1 W) => HB.out.under hb)
  clear HB
  go_wp2_with fail
  refine (HL.out _ hb1).mono ?_
  rintro e w3 ⟨rfl, hbb⟩
  go_wp2_with fail
  have hS := dr3 hbb
  clear hbb
  refine wp_region_seq (Below w1.heap.size w1) [(0, true), (1, false), (2, false), (3, true)] (by kernel_rfl) (by kernel_rfl) (by decide) (by kernel_rfl) hS ?_
  intro OPS HO
  refine seq_take (o := ⟨_, _, _, _, _, _⟩) (v := ?_) (by rw [HO.out]; rfl) (by rfl) ?_ ?_
  rotate_left 1
  · intro W hW
    obtain ⟨k0, k1, k2, k3, k4, k5, k6, k7, k8, k9⟩ := HX.out _ hW
    go_simp <;> with_reducible rfl
  try simp only [Act.put, List.setIfInBounds_toArray, List.set_cons_zero, List.set_cons_succ]
  refine seq_do (o := ⟨_, _, _, _, _, _⟩) (by rw [HO.out]; rfl) (by rfl) (fun K hK => ?_)
  go_wp2_with (go_at_call 14; refine (sumKinds_back _).mono ?_; rintro e w4 ⟨ka, rfl, hka, hkc, hb4⟩; have HKC := Lib.hid hkc; clear hkc; replace hS := bTrans hS hb4; clear hb4)
  refine hK.out _ _ hS (fun _ => ?_)
  clear hK K
  try simp only [Act.put, List.setIfInBounds_toArray, List.set_cons_zero, List.set_cons_succ]
  refine seq_do (o := ⟨_, _, _, _, _, _⟩) (by rw [HO.out]; rfl) (by rfl) (fun K hK => ?_)
  go_wp2_with (go_at_call 13; refine (HR.out _ _ hka HKC.out).mono ?_; rintro e w5 ⟨rfl, hb5⟩; replace hS := bTrans hS hb5; clear hb5)
  refine hK.out _ _ hS (fun _ => ?_)
  clear hK K hka HKC
  try simp only [Act.put, List.setIfInBounds_toArray, List.set_cons_zero, List.set_cons_succ]
  refine seq_take (o := ⟨_, _, _, _, _, _⟩) (v := ?_) (by rw [HO.out]; rfl) (by rfl) ?_ ?_
  rotate_left 1
  · (intro W _; go_simp) <;> with_reducible rfl
  try simp only [Act.put, List.setIfInBounds_toArray, List.set_cons_zero, List.set_cons_succ]
  refine seq_done ?_
  clear HO OPS
  obtain ⟨k0, k1, k2, k3, k4, k5, k6, k7, k8, k9⟩ := HX.out _ hS
  go_wp2_with fail
  refine (HC.out _).mono ?_
  rintro e w6 ⟨rfl, hb6⟩
  replace hS := bTrans hS hb6
  clear k0 k1 k2 k3 k4 k5 k6 k7 k8 k9 hb6
  cases clock
  case false =>
    obtain ⟨k0, k1, k2, k3, k4, k5, k6, k7, k8, k9⟩ := HX.out _ hS
    by_cases h0 : E = 0
    · replace HN3 := Lib.hid (fun W => HN3.out W h0)
      subst h0
      clear HN1 HN2
      go_wp2_with fail
      refine (HN3.out _).mono ?_
      rintro e w7 ⟨p, rfl, hp, hb7⟩
      cases p with
      | some ad => simp at hp
      | none =>
        clear hp
        go_wp2_with fail
        go_ret
        exact ⟨rfl, bTrans (bTrans hb1 hS) hb7⟩
    · have q : (E == 0) = false := by simp [h0]
      replace HN2 := Lib.hid (fun pc W => HN2.out pc W h0)
      clear h0 HN1 HN3
      go_wp2_with fail
      refine (HN2.out _ _).mono ?_
      rintro e w7 ⟨p, rfl, hp, hb7⟩
      cases p with
      | some ad => rw [q] at hp; simp at hp
      | none =>
        clear hp
        go_wp2_with fail
        go_ret
        exact ⟨rfl, bTrans (bTrans hb1 hS) hb7⟩
  case true =>
    clear HN3
    go_wp2_with fail
    refine (newClock5_any _).mono ?_
    rintro e w7 ⟨rfl, hb7⟩
    replace hS := bTrans hS hb7
    clear hb7
    by_cases h0 : E = 0
    · replace HN1 := Lib.hid (fun ad W hb => HN1.out ad W hb h0)
      subst h0
      clear HN2
      go_wp2_with fail
      refine (HF.out _ (bTrans hb1 hS)).mono ?_
      rintro e w8 ⟨rfl, hb8⟩
      replace hS := bTrans hS hb8
      clear hb8
      obtain ⟨k0, k1, k2, k3, k4, k5, k6, k7, k8, k9⟩ := HX.out _ hS
      go_wp2_with fail
      refine (HN1.out _ _ (bTrans hb1 hS)).mono ?_
      rintro e w9 ⟨p, rfl, hp, hb9⟩
      cases hq : (F == 0)
      · rw [hq] at hp
        cases p with
        | some ad => simp at hp
        | none =>
          clear hp
          go_wp2_with fail
          go_ret
          exact ⟨rfl, bTrans (bTrans hb1 hS) hb9⟩
      · rw [hq] at hp
        cases p with
        | none => simp at hp
        | some ad =>
          clear hp
          go_wp2_with fail
          go_ret
          exact ⟨rfl, bTrans (bTrans hb1 hS) hb9⟩
    · have q : (E == 0) = false := by simp [h0]
      replace HN2 := Lib.hid (fun pc W => HN2.out pc W h0)
      clear h0 HN1
      obtain ⟨k0, k1, k2, k3, k4, k5, k6, k7, k8, k9⟩ := HX.out _ hS
      go_wp2_with fail
      refine (HN2.out _ _).mono ?_
      rintro e w9 ⟨p, rfl, hp, hb9⟩
      cases p with
      | some ad => rw [q] at hp; simp at hp
      | none =>
        clear hp
        go_wp2_with fail
        go_ret
        exact ⟨rfl, bTrans (bTrans hb1 hS) hb9⟩
end Go.Proofs.YtjfnkkpmmebnfaaDoor
