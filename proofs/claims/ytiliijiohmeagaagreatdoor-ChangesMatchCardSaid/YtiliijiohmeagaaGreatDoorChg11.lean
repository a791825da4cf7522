/-
  The law ChangesMatch, walked.
-/
import Derived.Test.YtiliijiohmeagaaGreatDoorChg6
import Derived.Test.YtiliijiohmeagaaGreatDoorChg9
import Derived.Test.YtiliijiohmeagaaGreatDoorChg10
import Derived.Test.YtiliijiohmeagaaGreatDoorPaths
namespace Wh
theorem said_len (k : Int) (p : ByteArray) : (said k p).length ≤ 1 := by unfold said; split <;> simp
theorem mergeC_len (y : Int) : ∀ (g : Nat) (o n : List Mark), (mergeC y g o n).length ≤ g
  | 0, _, _ => Nat.le_refl _
  | g + 1, [], [] => Nat.zero_le _
  | g + 1, [], b :: nb => by
    have := mergeC_len y g [] nb
    have := said_len 1 b.path
    simp only [mergeC, List.length_append]
    omega
  | g + 1, a :: oa, [] => by
    have := mergeC_len y g oa []
    have := said_len 3 a.path
    simp only [mergeC, List.length_append]
    omega
  | g + 1, a :: oa, b :: nb => by
    have h1 := mergeC_len y g oa (b :: nb)
    have h2 := mergeC_len y g (a :: oa) nb
    have h3 := mergeC_len y g oa nb
    have s1 := said_len 3 a.path
    have s2 := said_len 1 b.path
    have s3 := said_len (if differM a b y then 2 else 0) b.path
    simp only [mergeC]
    split
    · simp only [List.length_append]; omega
    · split <;> simp only [List.length_append] <;> omega
theorem chgOut_len (y : Int) (o n : List Mark) : (chgOut y o n).length ≤ o.length + n.length := by
  unfold chgOut
  split
  · exact mergeC_len y _ o n
  · exact Nat.zero_le _
end Wh
namespace Go.Proofs.YtiliijiohmeagaaGreatDoor
open Go.RowKit

set_option maxHeartbeats 4000000 in
set_option maxRecDepth 100000 in
theorem changesMatch_walk (olds nows : List Wh.Mark) (aO aN : Option Addr) (cO cN : Nat) (y p q : Int) (w : World) (hE : Env w) (hlO : olds.length ≤ 2932031007317) (hlN : nows.length ≤ 2932031007317) (hcO : olds.length ≤ cO) (hcN : nows.length ≤ cN)
    (hHO : HoldsR w aO 4 (olds.map markCells)) (hHN : HoldsR w aN 4 (nows.map markCells)) (hoO : ∀ x ∈ olds, x.path.size ≤ 9223372036854775807) (hoN : ∀ x ∈ nows, x.path.size ≤ 9223372036854775807) :
    Calls Tryz.prog 4 #[.slice aO olds.length cO, .slice aN nows.length cN, .int .i64 y, .int .i64 p, .int .i64 q] w fun e w' => e = .returned (.bool true) ∧ Below w.heap.size w w' := by
  have HL := Lib.hid (fun W (hb : Below w.heap.size w W) => landed_any W (hE.under hb))
  have HB := Lib.hid (fun W (hb : Below w.heap.size w W) => bothChanges_any olds nows aO aN cO cN y W hlO hlN hcO hcN (hHO.under hb) (hHN.under hb) hoO hoN)
  have HR := Lib.hid (fun W (hb : Below w.heap.size w W) => refChanges_any olds nows aO aN cO cN y W hlO hlN (hHO.under hb) (hHN.under hb) hoO hoN)
  have hlen : (Wh.chgOut y olds nows).length ≤ 5864062014634 := Nat.le_trans (Wh.chgOut_len y olds nows) (by omega)
  have HA := Lib.hid (fun a1 a2 c1 c2 W h1 h2 => alikeSame_any (Wh.chgOut y olds nows) a1 a2 c1 c2 W h1 h2 hlen)
  have HD1 := Lib.hid (fun W => decide_any p q W)
  have HD2 := Lib.hid (fun W => refDecide_any p q W)
  clear hE hHO hHN hoO hoN hlen hlO hlN hcO hcN
  generalize Wh.chgOut y olds nows = Out at *
  generalize Wh.chgErr y olds nows = E at *
  generalize Wh.decT p q = D at *
  generalize olds.length = LO at *
  generalize nows.length = LN at *
  go_enter Tryz.func4, Tryz.ntmps4
  go_upto_region 3 with (go_at_call 6; refine (HL.out _ (Below.refl _ _)).mono ?_; rintro e w2 ⟨rfl, hS⟩)
  go_upto_region 4 with (go_at_call 13; refine (HB.out _ hS).mono ?_; rintro e w3 ⟨a1, cap1, rfl, hh1, hb3⟩)
  replace hS := bTrans hS hb3
  have HH1 := Lib.hid hh1
  clear hh1 hb3 HB HL
  go_upto_region 5 with (go_at_call 14; refine (HR.out _ hS).mono ?_; rintro e w4 ⟨a2, cap2, rfl, hh2, hb4⟩)
  replace hS := bTrans hS hb4
  have HK := Lib.hid (HA.out a1 a2 cap1 cap2 w4 (HH1.out.under hb4) hh2)
  clear hh2 hb4 HR HA HH1
  generalize Out.length = NO at *
  go_wp2_with (first | (go_at_call 15; refine HK.out.mono ?_; rintro e w5 ⟨rfl, hb5⟩) | (go_at_call 16; refine (HD1.out _).mono ?_; rintro e w6 ⟨rfl, hb6⟩) | (go_at_call 17; refine (HD2.out _).mono ?_; rintro e w7 ⟨rfl, hw7⟩; subst w7))
  go_ret
  exact ⟨rfl, bTrans (bTrans hS hb5) hb6⟩
end Go.Proofs.YtiliijiohmeagaaGreatDoor
