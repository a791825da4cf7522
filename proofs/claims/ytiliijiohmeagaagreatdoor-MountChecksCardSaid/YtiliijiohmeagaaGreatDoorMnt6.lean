/-
  The law MountChecks, walked.
-/
import Derived.Test.YtiliijiohmeagaaGreatDoorMnt4
import Derived.Test.YtiliijiohmeagaaGreatDoorMnt5
import Derived.Test.YtiliijiohmeagaaGreatDoorPaths
namespace Go.Proofs.YtiliijiohmeagaaGreatDoor
open Go.RowKit

/-- A clock that shows 5 comes back. -/
def ClockPost (w : World) (e : Ending) (w' : World) : Prop := ∃ cb, e = .returned (.pointer (some ⟨cb, 0, none⟩)) ∧ cb < w'.heap.size ∧ w'.cell? ⟨cb, 0, none⟩ = some (.int .i64 5) ∧ Below w.heap.size w w'
theorem newClock5_post (w : World) : Calls Tryz.prog 10 #[.int .i64 5] w (ClockPost w) := by
  refine (newClock5_is w).mono ?_
  rintro e w' ⟨rfl, rfl⟩
  exact ⟨_, rfl, by simp, by rw [World.cell?_alloc_at _ _ _ _ rfl]; rfl, bAlloc (Below.refl _ _) _⟩

set_option maxHeartbeats 8000000 in
set_option maxRecDepth 100000 in
theorem mountChecks_walk (f : Wh.Feat) (hf : FeatOk f) (o : Wh.MOpt) (s c : Bool) (w : World) (hE : Env w) :
    Calls Tryz.prog 3 #[featVal f, mntVal o, .bool s, .bool c] w fun e w' => e = .returned (.bool true) ∧ Below w.heap.size w w' := by
  have hb1 : Below w.heap.size w ((w.alloc (featObj f)).alloc (mntObj o)) := bAlloc (bAlloc (Below.refl _ _) _) _
  have HB := Lib.hid ((featBox_new w f).under (bAlloc (Below.refl _ _) (mntObj o)))
  have HO := Lib.hid (mntBox_new (w.alloc (featObj f)) o)
  have hs : (w.alloc (featObj f)).heap.size = w.heap.size + 1 := by simp
  rw [hs] at HO
  clear hs
  have HL := Lib.hid (fun W (hb : Below w.heap.size w W) => landed_any W (hE.under hb))
  have HC1 := Lib.hid (fun W => mntIn_check o W)
  have HC2 := Lib.hid (fun W => refMntIn_check o W)
  have HR := Lib.hid (fun W => rightFeat_any f hf W)
  have HN := Lib.hid (fun h0 cb W h1 h2 => newPair_any f hf h0 cb W h1 h2)
  have HM1 := Lib.hid (fun pc W => mNew_none o pc W)
  have HM2 := Lib.hid (fun m W => mNew_still o m W)
  have HM3 := Lib.hid (fun m ad W hF => mNew_some o f m ad W hF)
  have h8 : (bits BinOp.and IntKind.i64 f.has 80 == 0) = has80 f := rfl
  have HE3 : Hid (mNewErr o f = if Wh.mntErr o = 0 then (if has80 f then 12 else 0) else Wh.mntErr o) := Lib.hid rfl
  clear hE hf
  generalize mNewErr o f = E3 at *
  generalize Wh.mntErr o = E0 at *
  generalize has80 f = b8 at *
  generalize Wh.featErr f = E1 at *
  unfold featVal mntVal featObj mntObj at *
  go_enter Tryz.func3, Tryz.ntmps3
  go_upto_region 1 with fail
  generalize (w.alloc _).alloc _ = w1 at *
  have HX := Lib.hid (fun W (hb : Below w1.heap.size w1 W) => HB.out.under hb)
  have HY := Lib.hid (fun W (hb : Below w1.heap.size w1 W) => HO.out.under hb)
  clear HB HO
  go_upto_region 3 with (go_at_call 6; refine (HL.out _ hb1).mono ?_; rintro e w2 ⟨rfl, hS⟩)
  clear HL
  obtain ⟨k0, k1, k2, k3, k4, k5, k6, k7⟩ := HY.out _ hS
  go_upto_region 4 with (go_at_call 7; refine (HC2.out _).mono ?_; rintro e w3 ⟨rfl, hb3⟩)
  replace hS := bTrans hS hb3
  clear k0 k1 k2 k3 k4 k5 k6 k7 hb3 HC2
  obtain ⟨k0, k1, k2, k3, k4, k5, k6, k7⟩ := HY.out _ hS
  go_upto_region 6 with (go_at_call 8; refine (HC1.out _).mono ?_; rintro e w4 ⟨rfl, hb4⟩)
  replace hS := bTrans hS hb4
  clear k0 k1 k2 k3 k4 k5 k6 k7 hb4 HC1
  obtain ⟨n0, n1, n2, n3, n4, n5, n6, n7, n8, n9⟩ := HX.out _ hS
  by_cases h1 : E1 = 0
  case neg =>
    have q : (E1 == 0) = false := by simp [h1]
    clear h1
    go_wp2_with (go_at_call 9; refine (HR.out _).mono ?_; rintro e w5 ⟨rfl, hb5⟩)
    go_ret
    exact ⟨rfl, bTrans hb1 (bTrans hS hb5)⟩
  replace HN := Lib.hid (HN.out h1)
  subst h1
  go_upto_region 9 with (first | (go_at_call 9; refine (HR.out _).mono ?_; rintro e w5 ⟨rfl, hb5⟩) | (go_at_call 10; refine (newClock5_post _).mono ?_; rintro e w6 ⟨cb, rfl, hlt6, hc6, hb6⟩))
  replace hS := bTrans hS hb5
  replace hS := bTrans hS hb6
  clear n0 n1 n2 n3 n4 n5 n6 n7 n8 n9 hb5 HR hb6
  have HNP := Lib.hid (HN.out cb w6 hlt6 hc6)
  clear hlt6 hc6 HN
  obtain ⟨n0, n1, n2, n3, n4, n5, n6, n7, n8, n9⟩ := HX.out _ hS
  go_upto_region 10 with (go_at_call 11; refine HNP.out.mono ?_; rintro e w7 ⟨p, m, rfl, hp1, hp2, hp3, hb7⟩)
  have HF := Lib.hid hp3
  replace hS := bTrans hS hb7
  clear n0 n1 n2 n3 n4 n5 n6 n7 n8 n9 hb7 HNP hp3
  obtain ⟨n0, n1, n2, n3, n4, n5, n6, n7, n8, n9⟩ := HX.out _ hS
  obtain ⟨k0, k1, k2, k3, k4, k5, k6, k7⟩ := HY.out _ hS
  clear n2 n3 n4 n5 n6 n7 n8 n9 HX HY
  cases s
  case false =>
    have HK := Lib.hid (fun pc => HM1.out pc w7)
    clear HM1 HM2 HM3 HE3 h8
    cases c
    all_goals
      go_wp2_with (go_at_call 12; refine (HK.out _).mono ?_; rintro e w8 ⟨ad, rfl, hp, hb8⟩)
      cases ad with
      | some ad => simp at hp
      | none =>
        clear hp
        go_wp2_with fail
        go_ret
        exact ⟨rfl, bTrans hb1 (bTrans hS hb8)⟩
  case true =>
    cases c
    case false =>
      have HK := Lib.hid (HM2.out m w7)
      clear HM1 HM2 HM3 HE3 h8
      go_wp2_with (go_at_call 12; refine HK.out.mono ?_; rintro e w8 ⟨ad, rfl, hp, hb8⟩)
      cases ad with
      | some ad => simp at hp
      | none =>
        clear hp
        go_wp2_with fail
        go_ret
        exact ⟨rfl, bTrans hb1 (bTrans hS hb8)⟩
    case true =>
      have HK := Lib.hid (HM3.out m ⟨cb, 0, none⟩ w7 HF.out)
      clear HM1 HM2 HM3
      by_cases h0 : E0 = 0
      · subst h0
        cases b8
        · have e3 : E3 = 0 := HE3.out
          subst e3
          clear HE3
          go_wp2_with (go_at_call 12; refine HK.out.mono ?_; rintro e w8 ⟨ad, rfl, hp, hb8⟩)
          cases ad with
          | none => simp at hp
          | some ad =>
            clear hp
            go_wp2_with fail
            go_ret
            exact ⟨rfl, bTrans hb1 (bTrans hS hb8)⟩
        · have e3 : E3 = 12 := HE3.out
          subst e3
          clear HE3
          go_wp2_with (go_at_call 12; refine HK.out.mono ?_; rintro e w8 ⟨ad, rfl, hp, hb8⟩)
          cases ad with
          | some ad => simp at hp
          | none =>
            clear hp
            go_wp2_with fail
            go_ret
            exact ⟨rfl, bTrans hb1 (bTrans hS hb8)⟩
      · have e3 : E3 = E0 := by rw [HE3.out, if_neg h0]
        subst e3
        have q : (E3 == 0) = false := by simp [h0]
        clear HE3 h0 h8
        go_wp2_with (go_at_call 12; refine HK.out.mono ?_; rintro e w8 ⟨ad, rfl, hp, hb8⟩)
        rw [q] at hp
        cases ad with
        | some ad => simp at hp
        | none =>
          clear hp
          go_wp2_with fail
          go_ret
          exact ⟨rfl, bTrans hb1 (bTrans hS hb8)⟩
end Go.Proofs.YtiliijiohmeagaaGreatDoor
