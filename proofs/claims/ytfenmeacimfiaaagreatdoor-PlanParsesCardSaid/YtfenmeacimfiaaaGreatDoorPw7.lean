/-
  A step's and a refusal's error: plan.checkStep, the reference's stepError and refusalError.
-/
import Derived.Test.YtfenmeacimfiaaaGreatDoorPw6
import Derived.Test.YtfenmeacimfiaaaGreatDoorRefPaths
namespace Go.Proofs.YtfenmeacimfiaaaGreatDoor
open Go.RowKit

def stepErrV (s : PStep) : Int :=
  if Wh.isPath s.path.data.toList = false ∨ Wh.isPath s.dst.data.toList = false ∨ s.path.data.toList = [] ∨ (s.l.has.1 = true ∧ s.dst.data.toList = []) then 1
  else if s.size < 0 ∨ s.time < 0 then 7 else 0
def refErrV (x : PRef) : Int := if Wh.isPath x.path.data.toList = false then 1 else if x.err = 2 ∨ x.err = 8 ∨ x.err = 5 ∨ x.err = 13 then 0 else 5
def GoodStep (s : PStep) : Prop := s.l.fits ∧ Wh.inI s.size ∧ Wh.inI s.time ∧ s.path.size ≤ 2000000 ∧ s.dst.size ≤ 2000000
def GoodRef (x : PRef) : Prop := Wh.inI x.err ∧ x.path.size ≤ 2000000

theorem checkP (s : ByteArray) (w : World) (hE : Env w) (hs : s.size ≤ 2000000) (b : Bool) (h : Wh.isPath s.data.toList = b) : Calls Tryz.prog 21 #[.string s] w fun e w' => e = .returned (.int .i64 (if b then 0 else 1)) ∧ Below w.heap.size w w' := by
  have := check_any s w hE (by omega)
  unfold Wh.pathErr at this
  rw [h] at this
  exact this

set_option maxHeartbeats 1000000 in
theorem known_any (k : Nat) (w : World) (h1 : 1 ≤ k) (h2 : k ≤ 10) : Calls Tryz.prog 146 #[.int .i64 k] w fun e w' => e = .returned (.bool true) ∧ w' = w := by
  go_enter Tryz.func146, Tryz.ntmps146
  go_wp2_with fail
  go_ret
  exact ⟨ret_bool (by simp; omega), rfl⟩

theorem isEmpty_data (s : ByteArray) : s.toList.isEmpty = s.data.toList.isEmpty := by rw [Lib.toList_data]
theorem errV_one {s : PStep} (h : Wh.isPath s.path.data.toList = false ∨ Wh.isPath s.dst.data.toList = false ∨ s.path.data.toList = [] ∨ (s.l.has.1 = true ∧ s.dst.data.toList = [])) : stepErrV s = 1 := if_pos h
theorem errV_else {s : PStep} (h1 : Wh.isPath s.path.data.toList = true) (h2 : Wh.isPath s.dst.data.toList = true) (h3 : s.path.data.toList ≠ []) (h4 : ¬ (s.l.has.1 = true ∧ s.dst.data.toList = [])) : stepErrV s = if s.size < 0 ∨ s.time < 0 then 7 else 0 :=
  if_neg (by rw [h1, h2]; rintro (h | h | h | h); exact absurd h (by decide); exact absurd h (by decide); exact h3 h; exact h4 h)
theorem sevenV {a b : Int} (h : a < 0 ∨ b < 0) : (7 : Int) = if a < 0 ∨ b < 0 then 7 else 0 := (if_pos h).symm
theorem noneV {a b : Int} (h : ¬ a < 0) (k : ¬ b < 0) : (0 : Int) = if a < 0 ∨ b < 0 then 7 else 0 := (if_neg (by omega)).symm

set_option maxHeartbeats 1500000 in
set_option maxRecDepth 100000 in
theorem checkStep_any (s : PStep) (w : World) (hE : Env w) (hg : GoodStep s) :
    Calls Tryz.prog 76 #[.agg (stepArr s)] w fun e w' => e = .returned (.int .i64 (stepErrV s)) ∧ Below w.heap.size w w' := by
  obtain ⟨k, path, dst, size, time⟩ := s
  obtain ⟨⟨k1, k2, k3, k4, k5⟩, ⟨z0, z1⟩, ⟨t0, t1⟩, p0, p1⟩ := hg
  dsimp only [PStep.l, Wh.StepL.has] at k1 k2 k3 k4 k5 z0 z1 t0 t1 p0 p1
  simp only [stepArr]
  have K3 := Lib.hid k3
  have K4 := Lib.hid k4
  have K5 := Lib.hid k5
  clear k3 k4 k5
  have HX := Lib.hid (BoxIs.new w #[.int .i64 k, .string path, .string dst, .int .i64 size, .int .i64 time] stepTy)
  have hb1 := bAlloc (Below.refl w.heap.size w) (.cells #[.int .i64 k, .string path, .string dst, .int .i64 size, .int .i64 time] stepTy)
  have HB1 := Lib.hid hb1
  have HE1 := Lib.hid (hE.under hb1)
  have HK := Lib.hid (fun W => known_any k W k1 k2)
  have HU := Lib.hid (fun W => uses_any k W k2)
  have HPe := Lib.hid (isEmpty_data path)
  have HDe := Lib.hid (isEmpty_data dst)
  clear hb1 hE
  go_enter Tryz.func76, Tryz.ntmps76
  go_upto_region 1 with fail
  generalize w.alloc _ = w1 at *
  have c0 := HX.out.cell (j := 0) rfl
  have c1 := HX.out.cell (j := 1) rfl
  have c2 := HX.out.cell (j := 2) rfl
  go_upto_region 4 with (first | (go_at_call 146; refine (HK.out _).mono ?_; rintro e w2 ⟨rfl, hw2⟩; subst w2) | (go_at_call 144; refine (HU.out _).mono ?_; rintro e w2 ⟨rfl, hw2⟩; subst w2))
  clear HK HU
  cases hip : Wh.isPath path.data.toList
  · have HC := Lib.hid (checkP path w1 HE1.out (by omega) _ hip)
    have HR := Lib.hid (errV_one (s := ⟨k, path, dst, size, time⟩) (.inl hip))
    clear hip
    go_wp2_with (go_at_call 21; with_reducible refine HC.out.mono ?_; rintro e w2 ⟨rfl, hb2⟩; have HX2 := Lib.hid (HX.out.under hb2); have HB2 := Lib.hid (bTrans HB1.out hb2); have HE2 := Lib.hid (HE1.out.under hb2); clear hb2; have d1 := HX2.out.cell (j := 1) rfl; have d2 := HX2.out.cell (j := 2) rfl; have d3 := HX2.out.cell (j := 3) rfl; have d4 := HX2.out.cell (j := 4) rfl)
    go_ret
    exact ⟨ret_int HR.out.symm, HB2.out⟩
  have HC := Lib.hid (checkP path w1 HE1.out (by omega) _ hip)
  cases hid : Wh.isPath dst.data.toList
  · have HD := Lib.hid (fun W hE => checkP dst W hE (by omega) _ hid)
    have HR := Lib.hid (errV_one (s := ⟨k, path, dst, size, time⟩) (.inr (.inl hid)))
    clear hip hid
    go_wp2_with (first | (go_at_call 21; with_reducible refine HC.out.mono ?_; rintro e w2 ⟨rfl, hb2⟩; have HX2 := Lib.hid (HX.out.under hb2); have HB2 := Lib.hid (bTrans HB1.out hb2); have HE2 := Lib.hid (HE1.out.under hb2); clear hb2; have d1 := HX2.out.cell (j := 1) rfl; have d2 := HX2.out.cell (j := 2) rfl; have d3 := HX2.out.cell (j := 3) rfl; have d4 := HX2.out.cell (j := 4) rfl) | (go_at_call 21; with_reducible refine (HD.out _ HE2.out).mono ?_; rintro e w3 ⟨rfl, hb3⟩; have HX3 := Lib.hid (HX2.out.under hb3); have HB3 := Lib.hid (bTrans HB2.out hb3); clear hb3; have e1 := HX3.out.cell (j := 1) rfl; have e2 := HX3.out.cell (j := 2) rfl; have e3 := HX3.out.cell (j := 3) rfl; have e4 := HX3.out.cell (j := 4) rfl))
    go_ret
    exact ⟨ret_int HR.out.symm, HB3.out⟩
  have HD := Lib.hid (fun W hE => checkP dst W hE (by omega) _ hid)
  cases he : path.data.toList.isEmpty
  case true =>
    have HR := Lib.hid (errV_one (s := ⟨k, path, dst, size, time⟩) (.inr (.inr (.inl (List.isEmpty_iff.1 he)))))
    have hpe := HPe.out
    rw [he] at hpe
    clear hip hid he
    go_wp2_with (first | (go_at_call 21; with_reducible refine HC.out.mono ?_; rintro e w2 ⟨rfl, hb2⟩; have HX2 := Lib.hid (HX.out.under hb2); have HB2 := Lib.hid (bTrans HB1.out hb2); have HE2 := Lib.hid (HE1.out.under hb2); clear hb2; have d1 := HX2.out.cell (j := 1) rfl; have d2 := HX2.out.cell (j := 2) rfl; have d3 := HX2.out.cell (j := 3) rfl; have d4 := HX2.out.cell (j := 4) rfl) | (go_at_call 21; with_reducible refine (HD.out _ HE2.out).mono ?_; rintro e w3 ⟨rfl, hb3⟩; have HX3 := Lib.hid (HX2.out.under hb3); have HB3 := Lib.hid (bTrans HB2.out hb3); clear hb3; have e1 := HX3.out.cell (j := 1) rfl; have e2 := HX3.out.cell (j := 2) rfl; have e3 := HX3.out.cell (j := 3) rfl; have e4 := HX3.out.cell (j := 4) rfl))
    go_ret
    exact ⟨ret_int HR.out.symm, HB3.out⟩
  case false =>
    have HP : Hid (path.data.toList ≠ []) := Lib.hid (fun e => by rw [e] at he; cases he)
    have hpe := HPe.out
    rw [he] at hpe
    clear he
    have HS := Lib.hid (fun h4 => errV_else (s := ⟨k, path, dst, size, time⟩) hip hid HP.out h4)
    dsimp only [PStep.l, Wh.StepL.has] at HS
    clear hip hid
    cases x1 : (k == 2 || k == 3) <;> cases x2 : (k == 4 || k == 5) <;> cases x3 : (k == 6)
    case' true.true.true | true.true.false => exfalso; simp at x1 x2; omega
    case' true.false.true => exfalso; simp at x1 x3; omega
    case' false.true.true => exfalso; simp at x2 x3; omega
    case true.false.false =>
      cases hq : dst.data.toList.isEmpty
      · have hde := HDe.out
        rw [hq] at hde
        have HR := Lib.hid (HS.out (fun h => by rw [List.isEmpty_iff.2 h.2] at hq; cases hq))
        try dsimp only at HR
        obtain rfl : size = 0 := K4.out x2
        obtain rfl : time = 0 := K5.out (by rw [x2, x3]; rfl)
        have HR2 : Hid (stepErrV ⟨k, path, dst, 0, 0⟩ = 0) := Lib.hid (HR.out.trans (noneV (by decide) (by decide)).symm)
        clear HR HS hq x1 x2 x3
        simp only [Bool.or_false, Bool.false_or]
        go_wp2_with (first | (go_at_call 21; with_reducible refine HC.out.mono ?_; rintro e w2 ⟨rfl, hb2⟩; have HX2 := Lib.hid (HX.out.under hb2); have HB2 := Lib.hid (bTrans HB1.out hb2); have HE2 := Lib.hid (HE1.out.under hb2); clear hb2; have d1 := HX2.out.cell (j := 1) rfl; have d2 := HX2.out.cell (j := 2) rfl; have d3 := HX2.out.cell (j := 3) rfl; have d4 := HX2.out.cell (j := 4) rfl) | (go_at_call 21; with_reducible refine (HD.out _ HE2.out).mono ?_; rintro e w3 ⟨rfl, hb3⟩; have HX3 := Lib.hid (HX2.out.under hb3); have HB3 := Lib.hid (bTrans HB2.out hb3); clear hb3; have e1 := HX3.out.cell (j := 1) rfl; have e2 := HX3.out.cell (j := 2) rfl; have e3 := HX3.out.cell (j := 3) rfl; have e4 := HX3.out.cell (j := 4) rfl))
        go_ret
        exact ⟨ret_int HR2.out.symm, HB3.out⟩
      · have hde := HDe.out
        rw [hq] at hde
        have HR := Lib.hid (errV_one (s := ⟨k, path, dst, size, time⟩) (.inr (.inr (.inr ⟨x1, List.isEmpty_iff.1 hq⟩))))
        clear HS hq x1 x2 x3
        simp only [Bool.or_false, Bool.false_or]
        go_wp2_with (first | (go_at_call 21; with_reducible refine HC.out.mono ?_; rintro e w2 ⟨rfl, hb2⟩; have HX2 := Lib.hid (HX.out.under hb2); have HB2 := Lib.hid (bTrans HB1.out hb2); have HE2 := Lib.hid (HE1.out.under hb2); clear hb2; have d1 := HX2.out.cell (j := 1) rfl; have d2 := HX2.out.cell (j := 2) rfl; have d3 := HX2.out.cell (j := 3) rfl; have d4 := HX2.out.cell (j := 4) rfl) | (go_at_call 21; with_reducible refine (HD.out _ HE2.out).mono ?_; rintro e w3 ⟨rfl, hb3⟩; have HX3 := Lib.hid (HX2.out.under hb3); have HB3 := Lib.hid (bTrans HB2.out hb3); clear hb3; have e1 := HX3.out.cell (j := 1) rfl; have e2 := HX3.out.cell (j := 2) rfl; have e3 := HX3.out.cell (j := 3) rfl; have e4 := HX3.out.cell (j := 4) rfl))
        go_ret
        exact ⟨ret_int HR.out.symm, HB3.out⟩
    case false.true.false =>
      have hdn : dst.data.toList = [] := K3.out x1
      have hde := HDe.out
      rw [hdn] at hde
      have HR := Lib.hid (HS.out (fun h => by rw [x1] at h; exact absurd h.1 (by decide)))
      try dsimp only at HR
      clear HS hdn x1 x2 x3
      simp only [Bool.or_false, Bool.true_or]
      by_cases hs : size < 0
      · go_wp2_with (first | (go_at_call 21; with_reducible refine HC.out.mono ?_; rintro e w2 ⟨rfl, hb2⟩; have HX2 := Lib.hid (HX.out.under hb2); have HB2 := Lib.hid (bTrans HB1.out hb2); have HE2 := Lib.hid (HE1.out.under hb2); clear hb2; have d1 := HX2.out.cell (j := 1) rfl; have d2 := HX2.out.cell (j := 2) rfl; have d3 := HX2.out.cell (j := 3) rfl; have d4 := HX2.out.cell (j := 4) rfl) | (go_at_call 21; with_reducible refine (HD.out _ HE2.out).mono ?_; rintro e w3 ⟨rfl, hb3⟩; have HX3 := Lib.hid (HX2.out.under hb3); have HB3 := Lib.hid (bTrans HB2.out hb3); clear hb3; have e1 := HX3.out.cell (j := 1) rfl; have e2 := HX3.out.cell (j := 2) rfl; have e3 := HX3.out.cell (j := 3) rfl; have e4 := HX3.out.cell (j := 4) rfl))
        go_ret
        exact ⟨ret_int (HR.out.trans (sevenV (.inl hs)).symm).symm, HB3.out⟩
      by_cases ht : time < 0
      · go_wp2_with (first | (go_at_call 21; with_reducible refine HC.out.mono ?_; rintro e w2 ⟨rfl, hb2⟩; have HX2 := Lib.hid (HX.out.under hb2); have HB2 := Lib.hid (bTrans HB1.out hb2); have HE2 := Lib.hid (HE1.out.under hb2); clear hb2; have d1 := HX2.out.cell (j := 1) rfl; have d2 := HX2.out.cell (j := 2) rfl; have d3 := HX2.out.cell (j := 3) rfl; have d4 := HX2.out.cell (j := 4) rfl) | (go_at_call 21; with_reducible refine (HD.out _ HE2.out).mono ?_; rintro e w3 ⟨rfl, hb3⟩; have HX3 := Lib.hid (HX2.out.under hb3); have HB3 := Lib.hid (bTrans HB2.out hb3); clear hb3; have e1 := HX3.out.cell (j := 1) rfl; have e2 := HX3.out.cell (j := 2) rfl; have e3 := HX3.out.cell (j := 3) rfl; have e4 := HX3.out.cell (j := 4) rfl))
        go_ret
        exact ⟨ret_int (HR.out.trans (sevenV (.inr ht)).symm).symm, HB3.out⟩
      go_wp2_with (first | (go_at_call 21; with_reducible refine HC.out.mono ?_; rintro e w2 ⟨rfl, hb2⟩; have HX2 := Lib.hid (HX.out.under hb2); have HB2 := Lib.hid (bTrans HB1.out hb2); have HE2 := Lib.hid (HE1.out.under hb2); clear hb2; have d1 := HX2.out.cell (j := 1) rfl; have d2 := HX2.out.cell (j := 2) rfl; have d3 := HX2.out.cell (j := 3) rfl; have d4 := HX2.out.cell (j := 4) rfl) | (go_at_call 21; with_reducible refine (HD.out _ HE2.out).mono ?_; rintro e w3 ⟨rfl, hb3⟩; have HX3 := Lib.hid (HX2.out.under hb3); have HB3 := Lib.hid (bTrans HB2.out hb3); clear hb3; have e1 := HX3.out.cell (j := 1) rfl; have e2 := HX3.out.cell (j := 2) rfl; have e3 := HX3.out.cell (j := 3) rfl; have e4 := HX3.out.cell (j := 4) rfl))
      go_ret
      exact ⟨ret_int (HR.out.trans (noneV (by omega) (by omega)).symm).symm, HB3.out⟩
    case false.false.true =>
      have hdn : dst.data.toList = [] := K3.out x1
      have hde := HDe.out
      rw [hdn] at hde
      obtain rfl : size = 0 := K4.out x2
      have HR := Lib.hid (HS.out (fun h => by rw [x1] at h; exact absurd h.1 (by decide)))
      try dsimp only at HR
      clear HS hdn x1 x2 x3
      simp only [Bool.false_or]
      by_cases ht : time < 0
      · go_wp2_with (first | (go_at_call 21; with_reducible refine HC.out.mono ?_; rintro e w2 ⟨rfl, hb2⟩; have HX2 := Lib.hid (HX.out.under hb2); have HB2 := Lib.hid (bTrans HB1.out hb2); have HE2 := Lib.hid (HE1.out.under hb2); clear hb2; have d1 := HX2.out.cell (j := 1) rfl; have d2 := HX2.out.cell (j := 2) rfl; have d3 := HX2.out.cell (j := 3) rfl; have d4 := HX2.out.cell (j := 4) rfl) | (go_at_call 21; with_reducible refine (HD.out _ HE2.out).mono ?_; rintro e w3 ⟨rfl, hb3⟩; have HX3 := Lib.hid (HX2.out.under hb3); have HB3 := Lib.hid (bTrans HB2.out hb3); clear hb3; have e1 := HX3.out.cell (j := 1) rfl; have e2 := HX3.out.cell (j := 2) rfl; have e3 := HX3.out.cell (j := 3) rfl; have e4 := HX3.out.cell (j := 4) rfl))
        go_ret
        exact ⟨ret_int (HR.out.trans (sevenV (.inr ht)).symm).symm, HB3.out⟩
      go_wp2_with (first | (go_at_call 21; with_reducible refine HC.out.mono ?_; rintro e w2 ⟨rfl, hb2⟩; have HX2 := Lib.hid (HX.out.under hb2); have HB2 := Lib.hid (bTrans HB1.out hb2); have HE2 := Lib.hid (HE1.out.under hb2); clear hb2; have d1 := HX2.out.cell (j := 1) rfl; have d2 := HX2.out.cell (j := 2) rfl; have d3 := HX2.out.cell (j := 3) rfl; have d4 := HX2.out.cell (j := 4) rfl) | (go_at_call 21; with_reducible refine (HD.out _ HE2.out).mono ?_; rintro e w3 ⟨rfl, hb3⟩; have HX3 := Lib.hid (HX2.out.under hb3); have HB3 := Lib.hid (bTrans HB2.out hb3); clear hb3; have e1 := HX3.out.cell (j := 1) rfl; have e2 := HX3.out.cell (j := 2) rfl; have e3 := HX3.out.cell (j := 3) rfl; have e4 := HX3.out.cell (j := 4) rfl))
      go_ret
      exact ⟨ret_int (HR.out.trans (noneV (by decide) (by omega)).symm).symm, HB3.out⟩
    case false.false.false =>
      have hdn : dst.data.toList = [] := K3.out x1
      have hde := HDe.out
      rw [hdn] at hde
      obtain rfl : size = 0 := K4.out x2
      obtain rfl : time = 0 := K5.out (by rw [x2, x3]; rfl)
      have HR := Lib.hid (HS.out (fun h => by rw [x1] at h; exact absurd h.1 (by decide)))
      try dsimp only at HR
      have HR2 : Hid (stepErrV ⟨k, path, dst, 0, 0⟩ = 0) := Lib.hid (HR.out.trans (noneV (by decide) (by decide)).symm)
      clear HR HS hdn x1 x2 x3
      simp only [Bool.or_false]
      go_wp2_with (first | (go_at_call 21; with_reducible refine HC.out.mono ?_; rintro e w2 ⟨rfl, hb2⟩; have HX2 := Lib.hid (HX.out.under hb2); have HB2 := Lib.hid (bTrans HB1.out hb2); have HE2 := Lib.hid (HE1.out.under hb2); clear hb2; have d1 := HX2.out.cell (j := 1) rfl; have d2 := HX2.out.cell (j := 2) rfl; have d3 := HX2.out.cell (j := 3) rfl; have d4 := HX2.out.cell (j := 4) rfl) | (go_at_call 21; with_reducible refine (HD.out _ HE2.out).mono ?_; rintro e w3 ⟨rfl, hb3⟩; have HX3 := Lib.hid (HX2.out.under hb3); have HB3 := Lib.hid (bTrans HB2.out hb3); clear hb3; have e1 := HX3.out.cell (j := 1) rfl; have e2 := HX3.out.cell (j := 2) rfl; have e3 := HX3.out.cell (j := 3) rfl; have e4 := HX3.out.cell (j := 4) rfl))
      go_ret
      exact ⟨ret_int HR2.out.symm, HB3.out⟩
end Go.Proofs.YtfenmeacimfiaaaGreatDoor
