/-
  The reference's stepError and refusalError.
-/
import Derived.Test.YtfenmeacimfiaaaGreatDoorPw7
namespace Go.Proofs.YtfenmeacimfiaaaGreatDoor
open Go.RowKit

set_option maxHeartbeats 2000000 in
set_option maxRecDepth 100000 in
theorem stepError_1 (path dst : ByteArray) (size time : Int) (w : World) (hE : Env w) (hg : GoodStep ⟨1, path, dst, size, time⟩) :
    Calls Tryz.prog 82 #[.agg #[.int .i64 1, .string path, .string dst, .int .i64 size, .int .i64 time]] w fun e w' => e = .returned (.int .i64 (stepErrV ⟨1, path, dst, size, time⟩)) ∧ Below w.heap.size w w' := by
  obtain ⟨⟨k1, k2, k3, k4, k5⟩, ⟨z0, z1⟩, ⟨t0, t1⟩, p0, p1⟩ := hg
  have K3 := Lib.hid k3
  have K4 := Lib.hid k4
  have K5 := Lib.hid k5
  clear k1 k2 k3 k4 k5
  dsimp only at z0 z1 t0 t1 p0 p1
  have HX := Lib.hid (BoxIs.new w #[.int .i64 1, .string path, .string dst, .int .i64 size, .int .i64 time] stepTy)
  have hb1 := bAlloc (Below.refl w.heap.size w) (.cells #[.int .i64 1, .string path, .string dst, .int .i64 size, .int .i64 time] stepTy)
  have HB1 := Lib.hid hb1
  have HE1 := Lib.hid (hE.under hb1)
  have HPe := Lib.hid (isEmpty_data path)
  have HDe := Lib.hid (isEmpty_data dst)
  clear hb1 hE
  go_enter Tryz.func82, Tryz.ntmps82
  go_upto_region 1 with fail
  generalize w.alloc _ = w1 at *
  have c0 := HX.out.cell (j := 0) rfl
  have c1 := HX.out.cell (j := 1) rfl
  have c2 := HX.out.cell (j := 2) rfl
  cases he : path.data.toList.isEmpty
  case true =>
    have HR := Lib.hid (errV_one (s := ⟨1, path, dst, size, time⟩) (.inr (.inr (.inl (List.isEmpty_iff.1 he)))))
    have hpe := HPe.out
    rw [he] at hpe
    clear he
    go_wp2_with fail
    go_ret
    exact ⟨ret_int HR.out.symm, HB1.out⟩
  case false =>
  have HP : Hid (path.data.toList ≠ []) := Lib.hid (fun e => by rw [e] at he; cases he)
  have hpe := HPe.out
  rw [he] at hpe
  clear he
  have HC := Lib.hid (refIsPath_any path w1 HE1.out (by omega))
  cases hip : Wh.isPath path.data.toList
  · rw [hip] at HC
    have HR := Lib.hid (errV_one (s := ⟨1, path, dst, size, time⟩) (.inl hip))
    clear hip
    go_wp2_with (go_at_call 148; with_reducible refine HC.out.mono ?_; rintro e w2 ⟨rfl, hb2⟩; have HX2 := Lib.hid (HX.out.under hb2); have HB2 := Lib.hid (bTrans HB1.out hb2); have HE2 := Lib.hid (HE1.out.under hb2); clear hb2; have d0 := HX2.out.cell (j := 0) rfl; have d1 := HX2.out.cell (j := 1) rfl; have d2 := HX2.out.cell (j := 2) rfl; have d3 := HX2.out.cell (j := 3) rfl; have d4 := HX2.out.cell (j := 4) rfl)
    go_ret
    exact ⟨ret_int HR.out.symm, HB2.out⟩
  rw [hip] at HC
  have HD := Lib.hid (fun W hE => refIsPath_any dst W hE (by omega))
  cases hid : Wh.isPath dst.data.toList
  · rw [hid] at HD
    have HR := Lib.hid (errV_one (s := ⟨1, path, dst, size, time⟩) (.inr (.inl hid)))
    clear hip hid
    go_wp2_with (first | (go_at_call 148; with_reducible refine HC.out.mono ?_; rintro e w2 ⟨rfl, hb2⟩; have HX2 := Lib.hid (HX.out.under hb2); have HB2 := Lib.hid (bTrans HB1.out hb2); have HE2 := Lib.hid (HE1.out.under hb2); clear hb2; have d0 := HX2.out.cell (j := 0) rfl; have d1 := HX2.out.cell (j := 1) rfl; have d2 := HX2.out.cell (j := 2) rfl; have d3 := HX2.out.cell (j := 3) rfl; have d4 := HX2.out.cell (j := 4) rfl) | (go_at_call 148; with_reducible refine (HD.out _ HE2.out).mono ?_; rintro e w3 ⟨rfl, hb3⟩; have HX3 := Lib.hid (HX2.out.under hb3); have HB3 := Lib.hid (bTrans HB2.out hb3); clear hb3; have e0 := HX3.out.cell (j := 0) rfl; have e1 := HX3.out.cell (j := 1) rfl; have e2 := HX3.out.cell (j := 2) rfl; have e3 := HX3.out.cell (j := 3) rfl; have e4 := HX3.out.cell (j := 4) rfl))
    go_ret
    exact ⟨ret_int HR.out.symm, HB3.out⟩
  rw [hid] at HD
  have HS := Lib.hid (fun h4 => errV_else (s := ⟨1, path, dst, size, time⟩) hip hid HP.out h4)
  clear hip hid
  obtain rfl : size = 0 := K4.out rfl
  obtain rfl : time = 0 := K5.out rfl
  have hdn : dst.data.toList = [] := K3.out rfl
  have hde := HDe.out
  rw [hdn] at hde
  have HR := Lib.hid (HS.out (fun h => absurd h.1 (by show ¬ (false = true); decide)))
  clear hdn HS
  go_wp2_with (first | (go_at_call 148; with_reducible refine HC.out.mono ?_; rintro e w2 ⟨rfl, hb2⟩; have HX2 := Lib.hid (HX.out.under hb2); have HB2 := Lib.hid (bTrans HB1.out hb2); have HE2 := Lib.hid (HE1.out.under hb2); clear hb2; have d0 := HX2.out.cell (j := 0) rfl; have d1 := HX2.out.cell (j := 1) rfl; have d2 := HX2.out.cell (j := 2) rfl; have d3 := HX2.out.cell (j := 3) rfl; have d4 := HX2.out.cell (j := 4) rfl) | (go_at_call 148; with_reducible refine (HD.out _ HE2.out).mono ?_; rintro e w3 ⟨rfl, hb3⟩; have HX3 := Lib.hid (HX2.out.under hb3); have HB3 := Lib.hid (bTrans HB2.out hb3); clear hb3; have e0 := HX3.out.cell (j := 0) rfl; have e1 := HX3.out.cell (j := 1) rfl; have e2 := HX3.out.cell (j := 2) rfl; have e3 := HX3.out.cell (j := 3) rfl; have e4 := HX3.out.cell (j := 4) rfl))
  go_ret
  exact ⟨ret_int (HR.out.trans (noneV (by first | decide | omega) (by first | decide | omega)).symm).symm, HB3.out⟩

set_option maxHeartbeats 2000000 in
set_option maxRecDepth 100000 in
theorem stepError_2 (path dst : ByteArray) (size time : Int) (w : World) (hE : Env w) (hg : GoodStep ⟨2, path, dst, size, time⟩) :
    Calls Tryz.prog 82 #[.agg #[.int .i64 2, .string path, .string dst, .int .i64 size, .int .i64 time]] w fun e w' => e = .returned (.int .i64 (stepErrV ⟨2, path, dst, size, time⟩)) ∧ Below w.heap.size w w' := by
  obtain ⟨⟨k1, k2, k3, k4, k5⟩, ⟨z0, z1⟩, ⟨t0, t1⟩, p0, p1⟩ := hg
  have K3 := Lib.hid k3
  have K4 := Lib.hid k4
  have K5 := Lib.hid k5
  clear k1 k2 k3 k4 k5
  dsimp only at z0 z1 t0 t1 p0 p1
  have HX := Lib.hid (BoxIs.new w #[.int .i64 2, .string path, .string dst, .int .i64 size, .int .i64 time] stepTy)
  have hb1 := bAlloc (Below.refl w.heap.size w) (.cells #[.int .i64 2, .string path, .string dst, .int .i64 size, .int .i64 time] stepTy)
  have HB1 := Lib.hid hb1
  have HE1 := Lib.hid (hE.under hb1)
  have HPe := Lib.hid (isEmpty_data path)
  have HDe := Lib.hid (isEmpty_data dst)
  clear hb1 hE
  go_enter Tryz.func82, Tryz.ntmps82
  go_upto_region 1 with fail
  generalize w.alloc _ = w1 at *
  have c0 := HX.out.cell (j := 0) rfl
  have c1 := HX.out.cell (j := 1) rfl
  have c2 := HX.out.cell (j := 2) rfl
  cases he : path.data.toList.isEmpty
  case true =>
    have HR := Lib.hid (errV_one (s := ⟨2, path, dst, size, time⟩) (.inr (.inr (.inl (List.isEmpty_iff.1 he)))))
    have hpe := HPe.out
    rw [he] at hpe
    clear he
    go_wp2_with fail
    go_ret
    exact ⟨ret_int HR.out.symm, HB1.out⟩
  case false =>
  have HP : Hid (path.data.toList ≠ []) := Lib.hid (fun e => by rw [e] at he; cases he)
  have hpe := HPe.out
  rw [he] at hpe
  clear he
  have HC := Lib.hid (refIsPath_any path w1 HE1.out (by omega))
  cases hip : Wh.isPath path.data.toList
  · rw [hip] at HC
    have HR := Lib.hid (errV_one (s := ⟨2, path, dst, size, time⟩) (.inl hip))
    clear hip
    go_wp2_with (go_at_call 148; with_reducible refine HC.out.mono ?_; rintro e w2 ⟨rfl, hb2⟩; have HX2 := Lib.hid (HX.out.under hb2); have HB2 := Lib.hid (bTrans HB1.out hb2); have HE2 := Lib.hid (HE1.out.under hb2); clear hb2; have d0 := HX2.out.cell (j := 0) rfl; have d1 := HX2.out.cell (j := 1) rfl; have d2 := HX2.out.cell (j := 2) rfl; have d3 := HX2.out.cell (j := 3) rfl; have d4 := HX2.out.cell (j := 4) rfl)
    go_ret
    exact ⟨ret_int HR.out.symm, HB2.out⟩
  rw [hip] at HC
  have HD := Lib.hid (fun W hE => refIsPath_any dst W hE (by omega))
  cases hid : Wh.isPath dst.data.toList
  · rw [hid] at HD
    have HR := Lib.hid (errV_one (s := ⟨2, path, dst, size, time⟩) (.inr (.inl hid)))
    clear hip hid
    go_wp2_with (first | (go_at_call 148; with_reducible refine HC.out.mono ?_; rintro e w2 ⟨rfl, hb2⟩; have HX2 := Lib.hid (HX.out.under hb2); have HB2 := Lib.hid (bTrans HB1.out hb2); have HE2 := Lib.hid (HE1.out.under hb2); clear hb2; have d0 := HX2.out.cell (j := 0) rfl; have d1 := HX2.out.cell (j := 1) rfl; have d2 := HX2.out.cell (j := 2) rfl; have d3 := HX2.out.cell (j := 3) rfl; have d4 := HX2.out.cell (j := 4) rfl) | (go_at_call 148; with_reducible refine (HD.out _ HE2.out).mono ?_; rintro e w3 ⟨rfl, hb3⟩; have HX3 := Lib.hid (HX2.out.under hb3); have HB3 := Lib.hid (bTrans HB2.out hb3); clear hb3; have e0 := HX3.out.cell (j := 0) rfl; have e1 := HX3.out.cell (j := 1) rfl; have e2 := HX3.out.cell (j := 2) rfl; have e3 := HX3.out.cell (j := 3) rfl; have e4 := HX3.out.cell (j := 4) rfl))
    go_ret
    exact ⟨ret_int HR.out.symm, HB3.out⟩
  rw [hid] at HD
  have HS := Lib.hid (fun h4 => errV_else (s := ⟨2, path, dst, size, time⟩) hip hid HP.out h4)
  clear hip hid
  obtain rfl : size = 0 := K4.out rfl
  obtain rfl : time = 0 := K5.out rfl
  cases hq : dst.data.toList.isEmpty
  · have hde := HDe.out
    rw [hq] at hde
    have HR := Lib.hid (HS.out (fun h => by rw [List.isEmpty_iff.2 h.2] at hq; cases hq))
    have HR2 : Hid (stepErrV ⟨2, path, dst, 0, 0⟩ = 0) := Lib.hid (HR.out.trans (noneV (a := 0) (b := 0) (by decide) (by decide)).symm)
    clear hq HR HS
    go_wp2_with (first | (go_at_call 148; with_reducible refine HC.out.mono ?_; rintro e w2 ⟨rfl, hb2⟩; have HX2 := Lib.hid (HX.out.under hb2); have HB2 := Lib.hid (bTrans HB1.out hb2); have HE2 := Lib.hid (HE1.out.under hb2); clear hb2; have d0 := HX2.out.cell (j := 0) rfl; have d1 := HX2.out.cell (j := 1) rfl; have d2 := HX2.out.cell (j := 2) rfl; have d3 := HX2.out.cell (j := 3) rfl; have d4 := HX2.out.cell (j := 4) rfl) | (go_at_call 148; with_reducible refine (HD.out _ HE2.out).mono ?_; rintro e w3 ⟨rfl, hb3⟩; have HX3 := Lib.hid (HX2.out.under hb3); have HB3 := Lib.hid (bTrans HB2.out hb3); clear hb3; have e0 := HX3.out.cell (j := 0) rfl; have e1 := HX3.out.cell (j := 1) rfl; have e2 := HX3.out.cell (j := 2) rfl; have e3 := HX3.out.cell (j := 3) rfl; have e4 := HX3.out.cell (j := 4) rfl))
    go_ret
    exact ⟨ret_int HR2.out.symm, HB3.out⟩
  · have hde := HDe.out
    rw [hq] at hde
    have HR := Lib.hid (errV_one (s := ⟨2, path, dst, 0, 0⟩) (.inr (.inr (.inr ⟨rfl, List.isEmpty_iff.1 hq⟩))))
    clear hq HS
    go_wp2_with (first | (go_at_call 148; with_reducible refine HC.out.mono ?_; rintro e w2 ⟨rfl, hb2⟩; have HX2 := Lib.hid (HX.out.under hb2); have HB2 := Lib.hid (bTrans HB1.out hb2); have HE2 := Lib.hid (HE1.out.under hb2); clear hb2; have d0 := HX2.out.cell (j := 0) rfl; have d1 := HX2.out.cell (j := 1) rfl; have d2 := HX2.out.cell (j := 2) rfl; have d3 := HX2.out.cell (j := 3) rfl; have d4 := HX2.out.cell (j := 4) rfl) | (go_at_call 148; with_reducible refine (HD.out _ HE2.out).mono ?_; rintro e w3 ⟨rfl, hb3⟩; have HX3 := Lib.hid (HX2.out.under hb3); have HB3 := Lib.hid (bTrans HB2.out hb3); clear hb3; have e0 := HX3.out.cell (j := 0) rfl; have e1 := HX3.out.cell (j := 1) rfl; have e2 := HX3.out.cell (j := 2) rfl; have e3 := HX3.out.cell (j := 3) rfl; have e4 := HX3.out.cell (j := 4) rfl))
    go_ret
    exact ⟨ret_int HR.out.symm, HB3.out⟩

set_option maxHeartbeats 2000000 in
set_option maxRecDepth 100000 in
theorem stepError_3 (path dst : ByteArray) (size time : Int) (w : World) (hE : Env w) (hg : GoodStep ⟨3, path, dst, size, time⟩) :
    Calls Tryz.prog 82 #[.agg #[.int .i64 3, .string path, .string dst, .int .i64 size, .int .i64 time]] w fun e w' => e = .returned (.int .i64 (stepErrV ⟨3, path, dst, size, time⟩)) ∧ Below w.heap.size w w' := by
  obtain ⟨⟨k1, k2, k3, k4, k5⟩, ⟨z0, z1⟩, ⟨t0, t1⟩, p0, p1⟩ := hg
  have K3 := Lib.hid k3
  have K4 := Lib.hid k4
  have K5 := Lib.hid k5
  clear k1 k2 k3 k4 k5
  dsimp only at z0 z1 t0 t1 p0 p1
  have HX := Lib.hid (BoxIs.new w #[.int .i64 3, .string path, .string dst, .int .i64 size, .int .i64 time] stepTy)
  have hb1 := bAlloc (Below.refl w.heap.size w) (.cells #[.int .i64 3, .string path, .string dst, .int .i64 size, .int .i64 time] stepTy)
  have HB1 := Lib.hid hb1
  have HE1 := Lib.hid (hE.under hb1)
  have HPe := Lib.hid (isEmpty_data path)
  have HDe := Lib.hid (isEmpty_data dst)
  clear hb1 hE
  go_enter Tryz.func82, Tryz.ntmps82
  go_upto_region 1 with fail
  generalize w.alloc _ = w1 at *
  have c0 := HX.out.cell (j := 0) rfl
  have c1 := HX.out.cell (j := 1) rfl
  have c2 := HX.out.cell (j := 2) rfl
  cases he : path.data.toList.isEmpty
  case true =>
    have HR := Lib.hid (errV_one (s := ⟨3, path, dst, size, time⟩) (.inr (.inr (.inl (List.isEmpty_iff.1 he)))))
    have hpe := HPe.out
    rw [he] at hpe
    clear he
    go_wp2_with fail
    go_ret
    exact ⟨ret_int HR.out.symm, HB1.out⟩
  case false =>
  have HP : Hid (path.data.toList ≠ []) := Lib.hid (fun e => by rw [e] at he; cases he)
  have hpe := HPe.out
  rw [he] at hpe
  clear he
  have HC := Lib.hid (refIsPath_any path w1 HE1.out (by omega))
  cases hip : Wh.isPath path.data.toList
  · rw [hip] at HC
    have HR := Lib.hid (errV_one (s := ⟨3, path, dst, size, time⟩) (.inl hip))
    clear hip
    go_wp2_with (go_at_call 148; with_reducible refine HC.out.mono ?_; rintro e w2 ⟨rfl, hb2⟩; have HX2 := Lib.hid (HX.out.under hb2); have HB2 := Lib.hid (bTrans HB1.out hb2); have HE2 := Lib.hid (HE1.out.under hb2); clear hb2; have d0 := HX2.out.cell (j := 0) rfl; have d1 := HX2.out.cell (j := 1) rfl; have d2 := HX2.out.cell (j := 2) rfl; have d3 := HX2.out.cell (j := 3) rfl; have d4 := HX2.out.cell (j := 4) rfl)
    go_ret
    exact ⟨ret_int HR.out.symm, HB2.out⟩
  rw [hip] at HC
  have HD := Lib.hid (fun W hE => refIsPath_any dst W hE (by omega))
  cases hid : Wh.isPath dst.data.toList
  · rw [hid] at HD
    have HR := Lib.hid (errV_one (s := ⟨3, path, dst, size, time⟩) (.inr (.inl hid)))
    clear hip hid
    go_wp2_with (first | (go_at_call 148; with_reducible refine HC.out.mono ?_; rintro e w2 ⟨rfl, hb2⟩; have HX2 := Lib.hid (HX.out.under hb2); have HB2 := Lib.hid (bTrans HB1.out hb2); have HE2 := Lib.hid (HE1.out.under hb2); clear hb2; have d0 := HX2.out.cell (j := 0) rfl; have d1 := HX2.out.cell (j := 1) rfl; have d2 := HX2.out.cell (j := 2) rfl; have d3 := HX2.out.cell (j := 3) rfl; have d4 := HX2.out.cell (j := 4) rfl) | (go_at_call 148; with_reducible refine (HD.out _ HE2.out).mono ?_; rintro e w3 ⟨rfl, hb3⟩; have HX3 := Lib.hid (HX2.out.under hb3); have HB3 := Lib.hid (bTrans HB2.out hb3); clear hb3; have e0 := HX3.out.cell (j := 0) rfl; have e1 := HX3.out.cell (j := 1) rfl; have e2 := HX3.out.cell (j := 2) rfl; have e3 := HX3.out.cell (j := 3) rfl; have e4 := HX3.out.cell (j := 4) rfl))
    go_ret
    exact ⟨ret_int HR.out.symm, HB3.out⟩
  rw [hid] at HD
  have HS := Lib.hid (fun h4 => errV_else (s := ⟨3, path, dst, size, time⟩) hip hid HP.out h4)
  clear hip hid
  obtain rfl : size = 0 := K4.out rfl
  obtain rfl : time = 0 := K5.out rfl
  cases hq : dst.data.toList.isEmpty
  · have hde := HDe.out
    rw [hq] at hde
    have HR := Lib.hid (HS.out (fun h => by rw [List.isEmpty_iff.2 h.2] at hq; cases hq))
    have HR2 : Hid (stepErrV ⟨3, path, dst, 0, 0⟩ = 0) := Lib.hid (HR.out.trans (noneV (a := 0) (b := 0) (by decide) (by decide)).symm)
    clear hq HR HS
    go_wp2_with (first | (go_at_call 148; with_reducible refine HC.out.mono ?_; rintro e w2 ⟨rfl, hb2⟩; have HX2 := Lib.hid (HX.out.under hb2); have HB2 := Lib.hid (bTrans HB1.out hb2); have HE2 := Lib.hid (HE1.out.under hb2); clear hb2; have d0 := HX2.out.cell (j := 0) rfl; have d1 := HX2.out.cell (j := 1) rfl; have d2 := HX2.out.cell (j := 2) rfl; have d3 := HX2.out.cell (j := 3) rfl; have d4 := HX2.out.cell (j := 4) rfl) | (go_at_call 148; with_reducible refine (HD.out _ HE2.out).mono ?_; rintro e w3 ⟨rfl, hb3⟩; have HX3 := Lib.hid (HX2.out.under hb3); have HB3 := Lib.hid (bTrans HB2.out hb3); clear hb3; have e0 := HX3.out.cell (j := 0) rfl; have e1 := HX3.out.cell (j := 1) rfl; have e2 := HX3.out.cell (j := 2) rfl; have e3 := HX3.out.cell (j := 3) rfl; have e4 := HX3.out.cell (j := 4) rfl))
    go_ret
    exact ⟨ret_int HR2.out.symm, HB3.out⟩
  · have hde := HDe.out
    rw [hq] at hde
    have HR := Lib.hid (errV_one (s := ⟨3, path, dst, 0, 0⟩) (.inr (.inr (.inr ⟨rfl, List.isEmpty_iff.1 hq⟩))))
    clear hq HS
    go_wp2_with (first | (go_at_call 148; with_reducible refine HC.out.mono ?_; rintro e w2 ⟨rfl, hb2⟩; have HX2 := Lib.hid (HX.out.under hb2); have HB2 := Lib.hid (bTrans HB1.out hb2); have HE2 := Lib.hid (HE1.out.under hb2); clear hb2; have d0 := HX2.out.cell (j := 0) rfl; have d1 := HX2.out.cell (j := 1) rfl; have d2 := HX2.out.cell (j := 2) rfl; have d3 := HX2.out.cell (j := 3) rfl; have d4 := HX2.out.cell (j := 4) rfl) | (go_at_call 148; with_reducible refine (HD.out _ HE2.out).mono ?_; rintro e w3 ⟨rfl, hb3⟩; have HX3 := Lib.hid (HX2.out.under hb3); have HB3 := Lib.hid (bTrans HB2.out hb3); clear hb3; have e0 := HX3.out.cell (j := 0) rfl; have e1 := HX3.out.cell (j := 1) rfl; have e2 := HX3.out.cell (j := 2) rfl; have e3 := HX3.out.cell (j := 3) rfl; have e4 := HX3.out.cell (j := 4) rfl))
    go_ret
    exact ⟨ret_int HR.out.symm, HB3.out⟩

set_option maxHeartbeats 2000000 in
set_option maxRecDepth 100000 in
theorem stepError_4 (path dst : ByteArray) (size time : Int) (w : World) (hE : Env w) (hg : GoodStep ⟨4, path, dst, size, time⟩) :
    Calls Tryz.prog 82 #[.agg #[.int .i64 4, .string path, .string dst, .int .i64 size, .int .i64 time]] w fun e w' => e = .returned (.int .i64 (stepErrV ⟨4, path, dst, size, time⟩)) ∧ Below w.heap.size w w' := by
  obtain ⟨⟨k1, k2, k3, k4, k5⟩, ⟨z0, z1⟩, ⟨t0, t1⟩, p0, p1⟩ := hg
  have K3 := Lib.hid k3
  have K4 := Lib.hid k4
  have K5 := Lib.hid k5
  clear k1 k2 k3 k4 k5
  dsimp only at z0 z1 t0 t1 p0 p1
  have HX := Lib.hid (BoxIs.new w #[.int .i64 4, .string path, .string dst, .int .i64 size, .int .i64 time] stepTy)
  have hb1 := bAlloc (Below.refl w.heap.size w) (.cells #[.int .i64 4, .string path, .string dst, .int .i64 size, .int .i64 time] stepTy)
  have HB1 := Lib.hid hb1
  have HE1 := Lib.hid (hE.under hb1)
  have HPe := Lib.hid (isEmpty_data path)
  have HDe := Lib.hid (isEmpty_data dst)
  clear hb1 hE
  go_enter Tryz.func82, Tryz.ntmps82
  go_upto_region 1 with fail
  generalize w.alloc _ = w1 at *
  have c0 := HX.out.cell (j := 0) rfl
  have c1 := HX.out.cell (j := 1) rfl
  have c2 := HX.out.cell (j := 2) rfl
  cases he : path.data.toList.isEmpty
  case true =>
    have HR := Lib.hid (errV_one (s := ⟨4, path, dst, size, time⟩) (.inr (.inr (.inl (List.isEmpty_iff.1 he)))))
    have hpe := HPe.out
    rw [he] at hpe
    clear he
    go_wp2_with fail
    go_ret
    exact ⟨ret_int HR.out.symm, HB1.out⟩
  case false =>
  have HP : Hid (path.data.toList ≠ []) := Lib.hid (fun e => by rw [e] at he; cases he)
  have hpe := HPe.out
  rw [he] at hpe
  clear he
  have HC := Lib.hid (refIsPath_any path w1 HE1.out (by omega))
  cases hip : Wh.isPath path.data.toList
  · rw [hip] at HC
    have HR := Lib.hid (errV_one (s := ⟨4, path, dst, size, time⟩) (.inl hip))
    clear hip
    go_wp2_with (go_at_call 148; with_reducible refine HC.out.mono ?_; rintro e w2 ⟨rfl, hb2⟩; have HX2 := Lib.hid (HX.out.under hb2); have HB2 := Lib.hid (bTrans HB1.out hb2); have HE2 := Lib.hid (HE1.out.under hb2); clear hb2; have d0 := HX2.out.cell (j := 0) rfl; have d1 := HX2.out.cell (j := 1) rfl; have d2 := HX2.out.cell (j := 2) rfl; have d3 := HX2.out.cell (j := 3) rfl; have d4 := HX2.out.cell (j := 4) rfl)
    go_ret
    exact ⟨ret_int HR.out.symm, HB2.out⟩
  rw [hip] at HC
  have HD := Lib.hid (fun W hE => refIsPath_any dst W hE (by omega))
  cases hid : Wh.isPath dst.data.toList
  · rw [hid] at HD
    have HR := Lib.hid (errV_one (s := ⟨4, path, dst, size, time⟩) (.inr (.inl hid)))
    clear hip hid
    go_wp2_with (first | (go_at_call 148; with_reducible refine HC.out.mono ?_; rintro e w2 ⟨rfl, hb2⟩; have HX2 := Lib.hid (HX.out.under hb2); have HB2 := Lib.hid (bTrans HB1.out hb2); have HE2 := Lib.hid (HE1.out.under hb2); clear hb2; have d0 := HX2.out.cell (j := 0) rfl; have d1 := HX2.out.cell (j := 1) rfl; have d2 := HX2.out.cell (j := 2) rfl; have d3 := HX2.out.cell (j := 3) rfl; have d4 := HX2.out.cell (j := 4) rfl) | (go_at_call 148; with_reducible refine (HD.out _ HE2.out).mono ?_; rintro e w3 ⟨rfl, hb3⟩; have HX3 := Lib.hid (HX2.out.under hb3); have HB3 := Lib.hid (bTrans HB2.out hb3); clear hb3; have e0 := HX3.out.cell (j := 0) rfl; have e1 := HX3.out.cell (j := 1) rfl; have e2 := HX3.out.cell (j := 2) rfl; have e3 := HX3.out.cell (j := 3) rfl; have e4 := HX3.out.cell (j := 4) rfl))
    go_ret
    exact ⟨ret_int HR.out.symm, HB3.out⟩
  rw [hid] at HD
  have HS := Lib.hid (fun h4 => errV_else (s := ⟨4, path, dst, size, time⟩) hip hid HP.out h4)
  clear hip hid
  have hdn : dst.data.toList = [] := K3.out rfl
  have hde := HDe.out
  rw [hdn] at hde
  have HR := Lib.hid (HS.out (fun h => absurd h.1 (by show ¬ (false = true); decide)))
  clear hdn HS
  by_cases hs : size < 0
  · go_wp2_with (first | (go_at_call 148; with_reducible refine HC.out.mono ?_; rintro e w2 ⟨rfl, hb2⟩; have HX2 := Lib.hid (HX.out.under hb2); have HB2 := Lib.hid (bTrans HB1.out hb2); have HE2 := Lib.hid (HE1.out.under hb2); clear hb2; have d0 := HX2.out.cell (j := 0) rfl; have d1 := HX2.out.cell (j := 1) rfl; have d2 := HX2.out.cell (j := 2) rfl; have d3 := HX2.out.cell (j := 3) rfl; have d4 := HX2.out.cell (j := 4) rfl) | (go_at_call 148; with_reducible refine (HD.out _ HE2.out).mono ?_; rintro e w3 ⟨rfl, hb3⟩; have HX3 := Lib.hid (HX2.out.under hb3); have HB3 := Lib.hid (bTrans HB2.out hb3); clear hb3; have e0 := HX3.out.cell (j := 0) rfl; have e1 := HX3.out.cell (j := 1) rfl; have e2 := HX3.out.cell (j := 2) rfl; have e3 := HX3.out.cell (j := 3) rfl; have e4 := HX3.out.cell (j := 4) rfl))
    go_ret
    exact ⟨ret_int (HR.out.trans (sevenV (.inl hs)).symm).symm, HB3.out⟩
  by_cases ht : time < 0
  · go_wp2_with (first | (go_at_call 148; with_reducible refine HC.out.mono ?_; rintro e w2 ⟨rfl, hb2⟩; have HX2 := Lib.hid (HX.out.under hb2); have HB2 := Lib.hid (bTrans HB1.out hb2); have HE2 := Lib.hid (HE1.out.under hb2); clear hb2; have d0 := HX2.out.cell (j := 0) rfl; have d1 := HX2.out.cell (j := 1) rfl; have d2 := HX2.out.cell (j := 2) rfl; have d3 := HX2.out.cell (j := 3) rfl; have d4 := HX2.out.cell (j := 4) rfl) | (go_at_call 148; with_reducible refine (HD.out _ HE2.out).mono ?_; rintro e w3 ⟨rfl, hb3⟩; have HX3 := Lib.hid (HX2.out.under hb3); have HB3 := Lib.hid (bTrans HB2.out hb3); clear hb3; have e0 := HX3.out.cell (j := 0) rfl; have e1 := HX3.out.cell (j := 1) rfl; have e2 := HX3.out.cell (j := 2) rfl; have e3 := HX3.out.cell (j := 3) rfl; have e4 := HX3.out.cell (j := 4) rfl))
    go_ret
    exact ⟨ret_int (HR.out.trans (sevenV (.inr ht)).symm).symm, HB3.out⟩
  go_wp2_with (first | (go_at_call 148; with_reducible refine HC.out.mono ?_; rintro e w2 ⟨rfl, hb2⟩; have HX2 := Lib.hid (HX.out.under hb2); have HB2 := Lib.hid (bTrans HB1.out hb2); have HE2 := Lib.hid (HE1.out.under hb2); clear hb2; have d0 := HX2.out.cell (j := 0) rfl; have d1 := HX2.out.cell (j := 1) rfl; have d2 := HX2.out.cell (j := 2) rfl; have d3 := HX2.out.cell (j := 3) rfl; have d4 := HX2.out.cell (j := 4) rfl) | (go_at_call 148; with_reducible refine (HD.out _ HE2.out).mono ?_; rintro e w3 ⟨rfl, hb3⟩; have HX3 := Lib.hid (HX2.out.under hb3); have HB3 := Lib.hid (bTrans HB2.out hb3); clear hb3; have e0 := HX3.out.cell (j := 0) rfl; have e1 := HX3.out.cell (j := 1) rfl; have e2 := HX3.out.cell (j := 2) rfl; have e3 := HX3.out.cell (j := 3) rfl; have e4 := HX3.out.cell (j := 4) rfl))
  go_ret
  exact ⟨ret_int (HR.out.trans (noneV (by first | decide | omega) (by first | decide | omega)).symm).symm, HB3.out⟩

set_option maxHeartbeats 2000000 in
set_option maxRecDepth 100000 in
theorem stepError_5 (path dst : ByteArray) (size time : Int) (w : World) (hE : Env w) (hg : GoodStep ⟨5, path, dst, size, time⟩) :
    Calls Tryz.prog 82 #[.agg #[.int .i64 5, .string path, .string dst, .int .i64 size, .int .i64 time]] w fun e w' => e = .returned (.int .i64 (stepErrV ⟨5, path, dst, size, time⟩)) ∧ Below w.heap.size w w' := by
  obtain ⟨⟨k1, k2, k3, k4, k5⟩, ⟨z0, z1⟩, ⟨t0, t1⟩, p0, p1⟩ := hg
  have K3 := Lib.hid k3
  have K4 := Lib.hid k4
  have K5 := Lib.hid k5
  clear k1 k2 k3 k4 k5
  dsimp only at z0 z1 t0 t1 p0 p1
  have HX := Lib.hid (BoxIs.new w #[.int .i64 5, .string path, .string dst, .int .i64 size, .int .i64 time] stepTy)
  have hb1 := bAlloc (Below.refl w.heap.size w) (.cells #[.int .i64 5, .string path, .string dst, .int .i64 size, .int .i64 time] stepTy)
  have HB1 := Lib.hid hb1
  have HE1 := Lib.hid (hE.under hb1)
  have HPe := Lib.hid (isEmpty_data path)
  have HDe := Lib.hid (isEmpty_data dst)
  clear hb1 hE
  go_enter Tryz.func82, Tryz.ntmps82
  go_upto_region 1 with fail
  generalize w.alloc _ = w1 at *
  have c0 := HX.out.cell (j := 0) rfl
  have c1 := HX.out.cell (j := 1) rfl
  have c2 := HX.out.cell (j := 2) rfl
  cases he : path.data.toList.isEmpty
  case true =>
    have HR := Lib.hid (errV_one (s := ⟨5, path, dst, size, time⟩) (.inr (.inr (.inl (List.isEmpty_iff.1 he)))))
    have hpe := HPe.out
    rw [he] at hpe
    clear he
    go_wp2_with fail
    go_ret
    exact ⟨ret_int HR.out.symm, HB1.out⟩
  case false =>
  have HP : Hid (path.data.toList ≠ []) := Lib.hid (fun e => by rw [e] at he; cases he)
  have hpe := HPe.out
  rw [he] at hpe
  clear he
  have HC := Lib.hid (refIsPath_any path w1 HE1.out (by omega))
  cases hip : Wh.isPath path.data.toList
  · rw [hip] at HC
    have HR := Lib.hid (errV_one (s := ⟨5, path, dst, size, time⟩) (.inl hip))
    clear hip
    go_wp2_with (go_at_call 148; with_reducible refine HC.out.mono ?_; rintro e w2 ⟨rfl, hb2⟩; have HX2 := Lib.hid (HX.out.under hb2); have HB2 := Lib.hid (bTrans HB1.out hb2); have HE2 := Lib.hid (HE1.out.under hb2); clear hb2; have d0 := HX2.out.cell (j := 0) rfl; have d1 := HX2.out.cell (j := 1) rfl; have d2 := HX2.out.cell (j := 2) rfl; have d3 := HX2.out.cell (j := 3) rfl; have d4 := HX2.out.cell (j := 4) rfl)
    go_ret
    exact ⟨ret_int HR.out.symm, HB2.out⟩
  rw [hip] at HC
  have HD := Lib.hid (fun W hE => refIsPath_any dst W hE (by omega))
  cases hid : Wh.isPath dst.data.toList
  · rw [hid] at HD
    have HR := Lib.hid (errV_one (s := ⟨5, path, dst, size, time⟩) (.inr (.inl hid)))
    clear hip hid
    go_wp2_with (first | (go_at_call 148; with_reducible refine HC.out.mono ?_; rintro e w2 ⟨rfl, hb2⟩; have HX2 := Lib.hid (HX.out.under hb2); have HB2 := Lib.hid (bTrans HB1.out hb2); have HE2 := Lib.hid (HE1.out.under hb2); clear hb2; have d0 := HX2.out.cell (j := 0) rfl; have d1 := HX2.out.cell (j := 1) rfl; have d2 := HX2.out.cell (j := 2) rfl; have d3 := HX2.out.cell (j := 3) rfl; have d4 := HX2.out.cell (j := 4) rfl) | (go_at_call 148; with_reducible refine (HD.out _ HE2.out).mono ?_; rintro e w3 ⟨rfl, hb3⟩; have HX3 := Lib.hid (HX2.out.under hb3); have HB3 := Lib.hid (bTrans HB2.out hb3); clear hb3; have e0 := HX3.out.cell (j := 0) rfl; have e1 := HX3.out.cell (j := 1) rfl; have e2 := HX3.out.cell (j := 2) rfl; have e3 := HX3.out.cell (j := 3) rfl; have e4 := HX3.out.cell (j := 4) rfl))
    go_ret
    exact ⟨ret_int HR.out.symm, HB3.out⟩
  rw [hid] at HD
  have HS := Lib.hid (fun h4 => errV_else (s := ⟨5, path, dst, size, time⟩) hip hid HP.out h4)
  clear hip hid
  have hdn : dst.data.toList = [] := K3.out rfl
  have hde := HDe.out
  rw [hdn] at hde
  have HR := Lib.hid (HS.out (fun h => absurd h.1 (by show ¬ (false = true); decide)))
  clear hdn HS
  by_cases hs : size < 0
  · go_wp2_with (first | (go_at_call 148; with_reducible refine HC.out.mono ?_; rintro e w2 ⟨rfl, hb2⟩; have HX2 := Lib.hid (HX.out.under hb2); have HB2 := Lib.hid (bTrans HB1.out hb2); have HE2 := Lib.hid (HE1.out.under hb2); clear hb2; have d0 := HX2.out.cell (j := 0) rfl; have d1 := HX2.out.cell (j := 1) rfl; have d2 := HX2.out.cell (j := 2) rfl; have d3 := HX2.out.cell (j := 3) rfl; have d4 := HX2.out.cell (j := 4) rfl) | (go_at_call 148; with_reducible refine (HD.out _ HE2.out).mono ?_; rintro e w3 ⟨rfl, hb3⟩; have HX3 := Lib.hid (HX2.out.under hb3); have HB3 := Lib.hid (bTrans HB2.out hb3); clear hb3; have e0 := HX3.out.cell (j := 0) rfl; have e1 := HX3.out.cell (j := 1) rfl; have e2 := HX3.out.cell (j := 2) rfl; have e3 := HX3.out.cell (j := 3) rfl; have e4 := HX3.out.cell (j := 4) rfl))
    go_ret
    exact ⟨ret_int (HR.out.trans (sevenV (.inl hs)).symm).symm, HB3.out⟩
  by_cases ht : time < 0
  · go_wp2_with (first | (go_at_call 148; with_reducible refine HC.out.mono ?_; rintro e w2 ⟨rfl, hb2⟩; have HX2 := Lib.hid (HX.out.under hb2); have HB2 := Lib.hid (bTrans HB1.out hb2); have HE2 := Lib.hid (HE1.out.under hb2); clear hb2; have d0 := HX2.out.cell (j := 0) rfl; have d1 := HX2.out.cell (j := 1) rfl; have d2 := HX2.out.cell (j := 2) rfl; have d3 := HX2.out.cell (j := 3) rfl; have d4 := HX2.out.cell (j := 4) rfl) | (go_at_call 148; with_reducible refine (HD.out _ HE2.out).mono ?_; rintro e w3 ⟨rfl, hb3⟩; have HX3 := Lib.hid (HX2.out.under hb3); have HB3 := Lib.hid (bTrans HB2.out hb3); clear hb3; have e0 := HX3.out.cell (j := 0) rfl; have e1 := HX3.out.cell (j := 1) rfl; have e2 := HX3.out.cell (j := 2) rfl; have e3 := HX3.out.cell (j := 3) rfl; have e4 := HX3.out.cell (j := 4) rfl))
    go_ret
    exact ⟨ret_int (HR.out.trans (sevenV (.inr ht)).symm).symm, HB3.out⟩
  go_wp2_with (first | (go_at_call 148; with_reducible refine HC.out.mono ?_; rintro e w2 ⟨rfl, hb2⟩; have HX2 := Lib.hid (HX.out.under hb2); have HB2 := Lib.hid (bTrans HB1.out hb2); have HE2 := Lib.hid (HE1.out.under hb2); clear hb2; have d0 := HX2.out.cell (j := 0) rfl; have d1 := HX2.out.cell (j := 1) rfl; have d2 := HX2.out.cell (j := 2) rfl; have d3 := HX2.out.cell (j := 3) rfl; have d4 := HX2.out.cell (j := 4) rfl) | (go_at_call 148; with_reducible refine (HD.out _ HE2.out).mono ?_; rintro e w3 ⟨rfl, hb3⟩; have HX3 := Lib.hid (HX2.out.under hb3); have HB3 := Lib.hid (bTrans HB2.out hb3); clear hb3; have e0 := HX3.out.cell (j := 0) rfl; have e1 := HX3.out.cell (j := 1) rfl; have e2 := HX3.out.cell (j := 2) rfl; have e3 := HX3.out.cell (j := 3) rfl; have e4 := HX3.out.cell (j := 4) rfl))
  go_ret
  exact ⟨ret_int (HR.out.trans (noneV (by first | decide | omega) (by first | decide | omega)).symm).symm, HB3.out⟩

set_option maxHeartbeats 2000000 in
set_option maxRecDepth 100000 in
theorem stepError_6 (path dst : ByteArray) (size time : Int) (w : World) (hE : Env w) (hg : GoodStep ⟨6, path, dst, size, time⟩) :
    Calls Tryz.prog 82 #[.agg #[.int .i64 6, .string path, .string dst, .int .i64 size, .int .i64 time]] w fun e w' => e = .returned (.int .i64 (stepErrV ⟨6, path, dst, size, time⟩)) ∧ Below w.heap.size w w' := by
  obtain ⟨⟨k1, k2, k3, k4, k5⟩, ⟨z0, z1⟩, ⟨t0, t1⟩, p0, p1⟩ := hg
  have K3 := Lib.hid k3
  have K4 := Lib.hid k4
  have K5 := Lib.hid k5
  clear k1 k2 k3 k4 k5
  dsimp only at z0 z1 t0 t1 p0 p1
  have HX := Lib.hid (BoxIs.new w #[.int .i64 6, .string path, .string dst, .int .i64 size, .int .i64 time] stepTy)
  have hb1 := bAlloc (Below.refl w.heap.size w) (.cells #[.int .i64 6, .string path, .string dst, .int .i64 size, .int .i64 time] stepTy)
  have HB1 := Lib.hid hb1
  have HE1 := Lib.hid (hE.under hb1)
  have HPe := Lib.hid (isEmpty_data path)
  have HDe := Lib.hid (isEmpty_data dst)
  clear hb1 hE
  go_enter Tryz.func82, Tryz.ntmps82
  go_upto_region 1 with fail
  generalize w.alloc _ = w1 at *
  have c0 := HX.out.cell (j := 0) rfl
  have c1 := HX.out.cell (j := 1) rfl
  have c2 := HX.out.cell (j := 2) rfl
  cases he : path.data.toList.isEmpty
  case true =>
    have HR := Lib.hid (errV_one (s := ⟨6, path, dst, size, time⟩) (.inr (.inr (.inl (List.isEmpty_iff.1 he)))))
    have hpe := HPe.out
    rw [he] at hpe
    clear he
    go_wp2_with fail
    go_ret
    exact ⟨ret_int HR.out.symm, HB1.out⟩
  case false =>
  have HP : Hid (path.data.toList ≠ []) := Lib.hid (fun e => by rw [e] at he; cases he)
  have hpe := HPe.out
  rw [he] at hpe
  clear he
  have HC := Lib.hid (refIsPath_any path w1 HE1.out (by omega))
  cases hip : Wh.isPath path.data.toList
  · rw [hip] at HC
    have HR := Lib.hid (errV_one (s := ⟨6, path, dst, size, time⟩) (.inl hip))
    clear hip
    go_wp2_with (go_at_call 148; with_reducible refine HC.out.mono ?_; rintro e w2 ⟨rfl, hb2⟩; have HX2 := Lib.hid (HX.out.under hb2); have HB2 := Lib.hid (bTrans HB1.out hb2); have HE2 := Lib.hid (HE1.out.under hb2); clear hb2; have d0 := HX2.out.cell (j := 0) rfl; have d1 := HX2.out.cell (j := 1) rfl; have d2 := HX2.out.cell (j := 2) rfl; have d3 := HX2.out.cell (j := 3) rfl; have d4 := HX2.out.cell (j := 4) rfl)
    go_ret
    exact ⟨ret_int HR.out.symm, HB2.out⟩
  rw [hip] at HC
  have HD := Lib.hid (fun W hE => refIsPath_any dst W hE (by omega))
  cases hid : Wh.isPath dst.data.toList
  · rw [hid] at HD
    have HR := Lib.hid (errV_one (s := ⟨6, path, dst, size, time⟩) (.inr (.inl hid)))
    clear hip hid
    go_wp2_with (first | (go_at_call 148; with_reducible refine HC.out.mono ?_; rintro e w2 ⟨rfl, hb2⟩; have HX2 := Lib.hid (HX.out.under hb2); have HB2 := Lib.hid (bTrans HB1.out hb2); have HE2 := Lib.hid (HE1.out.under hb2); clear hb2; have d0 := HX2.out.cell (j := 0) rfl; have d1 := HX2.out.cell (j := 1) rfl; have d2 := HX2.out.cell (j := 2) rfl; have d3 := HX2.out.cell (j := 3) rfl; have d4 := HX2.out.cell (j := 4) rfl) | (go_at_call 148; with_reducible refine (HD.out _ HE2.out).mono ?_; rintro e w3 ⟨rfl, hb3⟩; have HX3 := Lib.hid (HX2.out.under hb3); have HB3 := Lib.hid (bTrans HB2.out hb3); clear hb3; have e0 := HX3.out.cell (j := 0) rfl; have e1 := HX3.out.cell (j := 1) rfl; have e2 := HX3.out.cell (j := 2) rfl; have e3 := HX3.out.cell (j := 3) rfl; have e4 := HX3.out.cell (j := 4) rfl))
    go_ret
    exact ⟨ret_int HR.out.symm, HB3.out⟩
  rw [hid] at HD
  have HS := Lib.hid (fun h4 => errV_else (s := ⟨6, path, dst, size, time⟩) hip hid HP.out h4)
  clear hip hid
  obtain rfl : size = 0 := K4.out rfl
  have hdn : dst.data.toList = [] := K3.out rfl
  have hde := HDe.out
  rw [hdn] at hde
  have HR := Lib.hid (HS.out (fun h => absurd h.1 (by show ¬ (false = true); decide)))
  clear hdn HS
  by_cases ht : time < 0
  · go_wp2_with (first | (go_at_call 148; with_reducible refine HC.out.mono ?_; rintro e w2 ⟨rfl, hb2⟩; have HX2 := Lib.hid (HX.out.under hb2); have HB2 := Lib.hid (bTrans HB1.out hb2); have HE2 := Lib.hid (HE1.out.under hb2); clear hb2; have d0 := HX2.out.cell (j := 0) rfl; have d1 := HX2.out.cell (j := 1) rfl; have d2 := HX2.out.cell (j := 2) rfl; have d3 := HX2.out.cell (j := 3) rfl; have d4 := HX2.out.cell (j := 4) rfl) | (go_at_call 148; with_reducible refine (HD.out _ HE2.out).mono ?_; rintro e w3 ⟨rfl, hb3⟩; have HX3 := Lib.hid (HX2.out.under hb3); have HB3 := Lib.hid (bTrans HB2.out hb3); clear hb3; have e0 := HX3.out.cell (j := 0) rfl; have e1 := HX3.out.cell (j := 1) rfl; have e2 := HX3.out.cell (j := 2) rfl; have e3 := HX3.out.cell (j := 3) rfl; have e4 := HX3.out.cell (j := 4) rfl))
    go_ret
    exact ⟨ret_int (HR.out.trans (sevenV (.inr ht)).symm).symm, HB3.out⟩
  go_wp2_with (first | (go_at_call 148; with_reducible refine HC.out.mono ?_; rintro e w2 ⟨rfl, hb2⟩; have HX2 := Lib.hid (HX.out.under hb2); have HB2 := Lib.hid (bTrans HB1.out hb2); have HE2 := Lib.hid (HE1.out.under hb2); clear hb2; have d0 := HX2.out.cell (j := 0) rfl; have d1 := HX2.out.cell (j := 1) rfl; have d2 := HX2.out.cell (j := 2) rfl; have d3 := HX2.out.cell (j := 3) rfl; have d4 := HX2.out.cell (j := 4) rfl) | (go_at_call 148; with_reducible refine (HD.out _ HE2.out).mono ?_; rintro e w3 ⟨rfl, hb3⟩; have HX3 := Lib.hid (HX2.out.under hb3); have HB3 := Lib.hid (bTrans HB2.out hb3); clear hb3; have e0 := HX3.out.cell (j := 0) rfl; have e1 := HX3.out.cell (j := 1) rfl; have e2 := HX3.out.cell (j := 2) rfl; have e3 := HX3.out.cell (j := 3) rfl; have e4 := HX3.out.cell (j := 4) rfl))
  go_ret
  exact ⟨ret_int (HR.out.trans (noneV (by first | decide | omega) (by first | decide | omega)).symm).symm, HB3.out⟩

set_option maxHeartbeats 2000000 in
set_option maxRecDepth 100000 in
theorem stepError_7 (path dst : ByteArray) (size time : Int) (w : World) (hE : Env w) (hg : GoodStep ⟨7, path, dst, size, time⟩) :
    Calls Tryz.prog 82 #[.agg #[.int .i64 7, .string path, .string dst, .int .i64 size, .int .i64 time]] w fun e w' => e = .returned (.int .i64 (stepErrV ⟨7, path, dst, size, time⟩)) ∧ Below w.heap.size w w' := by
  obtain ⟨⟨k1, k2, k3, k4, k5⟩, ⟨z0, z1⟩, ⟨t0, t1⟩, p0, p1⟩ := hg
  have K3 := Lib.hid k3
  have K4 := Lib.hid k4
  have K5 := Lib.hid k5
  clear k1 k2 k3 k4 k5
  dsimp only at z0 z1 t0 t1 p0 p1
  have HX := Lib.hid (BoxIs.new w #[.int .i64 7, .string path, .string dst, .int .i64 size, .int .i64 time] stepTy)
  have hb1 := bAlloc (Below.refl w.heap.size w) (.cells #[.int .i64 7, .string path, .string dst, .int .i64 size, .int .i64 time] stepTy)
  have HB1 := Lib.hid hb1
  have HE1 := Lib.hid (hE.under hb1)
  have HPe := Lib.hid (isEmpty_data path)
  have HDe := Lib.hid (isEmpty_data dst)
  clear hb1 hE
  go_enter Tryz.func82, Tryz.ntmps82
  go_upto_region 1 with fail
  generalize w.alloc _ = w1 at *
  have c0 := HX.out.cell (j := 0) rfl
  have c1 := HX.out.cell (j := 1) rfl
  have c2 := HX.out.cell (j := 2) rfl
  cases he : path.data.toList.isEmpty
  case true =>
    have HR := Lib.hid (errV_one (s := ⟨7, path, dst, size, time⟩) (.inr (.inr (.inl (List.isEmpty_iff.1 he)))))
    have hpe := HPe.out
    rw [he] at hpe
    clear he
    go_wp2_with fail
    go_ret
    exact ⟨ret_int HR.out.symm, HB1.out⟩
  case false =>
  have HP : Hid (path.data.toList ≠ []) := Lib.hid (fun e => by rw [e] at he; cases he)
  have hpe := HPe.out
  rw [he] at hpe
  clear he
  have HC := Lib.hid (refIsPath_any path w1 HE1.out (by omega))
  cases hip : Wh.isPath path.data.toList
  · rw [hip] at HC
    have HR := Lib.hid (errV_one (s := ⟨7, path, dst, size, time⟩) (.inl hip))
    clear hip
    go_wp2_with (go_at_call 148; with_reducible refine HC.out.mono ?_; rintro e w2 ⟨rfl, hb2⟩; have HX2 := Lib.hid (HX.out.under hb2); have HB2 := Lib.hid (bTrans HB1.out hb2); have HE2 := Lib.hid (HE1.out.under hb2); clear hb2; have d0 := HX2.out.cell (j := 0) rfl; have d1 := HX2.out.cell (j := 1) rfl; have d2 := HX2.out.cell (j := 2) rfl; have d3 := HX2.out.cell (j := 3) rfl; have d4 := HX2.out.cell (j := 4) rfl)
    go_ret
    exact ⟨ret_int HR.out.symm, HB2.out⟩
  rw [hip] at HC
  have HD := Lib.hid (fun W hE => refIsPath_any dst W hE (by omega))
  cases hid : Wh.isPath dst.data.toList
  · rw [hid] at HD
    have HR := Lib.hid (errV_one (s := ⟨7, path, dst, size, time⟩) (.inr (.inl hid)))
    clear hip hid
    go_wp2_with (first | (go_at_call 148; with_reducible refine HC.out.mono ?_; rintro e w2 ⟨rfl, hb2⟩; have HX2 := Lib.hid (HX.out.under hb2); have HB2 := Lib.hid (bTrans HB1.out hb2); have HE2 := Lib.hid (HE1.out.under hb2); clear hb2; have d0 := HX2.out.cell (j := 0) rfl; have d1 := HX2.out.cell (j := 1) rfl; have d2 := HX2.out.cell (j := 2) rfl; have d3 := HX2.out.cell (j := 3) rfl; have d4 := HX2.out.cell (j := 4) rfl) | (go_at_call 148; with_reducible refine (HD.out _ HE2.out).mono ?_; rintro e w3 ⟨rfl, hb3⟩; have HX3 := Lib.hid (HX2.out.under hb3); have HB3 := Lib.hid (bTrans HB2.out hb3); clear hb3; have e0 := HX3.out.cell (j := 0) rfl; have e1 := HX3.out.cell (j := 1) rfl; have e2 := HX3.out.cell (j := 2) rfl; have e3 := HX3.out.cell (j := 3) rfl; have e4 := HX3.out.cell (j := 4) rfl))
    go_ret
    exact ⟨ret_int HR.out.symm, HB3.out⟩
  rw [hid] at HD
  have HS := Lib.hid (fun h4 => errV_else (s := ⟨7, path, dst, size, time⟩) hip hid HP.out h4)
  clear hip hid
  obtain rfl : size = 0 := K4.out rfl
  obtain rfl : time = 0 := K5.out rfl
  have hdn : dst.data.toList = [] := K3.out rfl
  have hde := HDe.out
  rw [hdn] at hde
  have HR := Lib.hid (HS.out (fun h => absurd h.1 (by show ¬ (false = true); decide)))
  clear hdn HS
  go_wp2_with (first | (go_at_call 148; with_reducible refine HC.out.mono ?_; rintro e w2 ⟨rfl, hb2⟩; have HX2 := Lib.hid (HX.out.under hb2); have HB2 := Lib.hid (bTrans HB1.out hb2); have HE2 := Lib.hid (HE1.out.under hb2); clear hb2; have d0 := HX2.out.cell (j := 0) rfl; have d1 := HX2.out.cell (j := 1) rfl; have d2 := HX2.out.cell (j := 2) rfl; have d3 := HX2.out.cell (j := 3) rfl; have d4 := HX2.out.cell (j := 4) rfl) | (go_at_call 148; with_reducible refine (HD.out _ HE2.out).mono ?_; rintro e w3 ⟨rfl, hb3⟩; have HX3 := Lib.hid (HX2.out.under hb3); have HB3 := Lib.hid (bTrans HB2.out hb3); clear hb3; have e0 := HX3.out.cell (j := 0) rfl; have e1 := HX3.out.cell (j := 1) rfl; have e2 := HX3.out.cell (j := 2) rfl; have e3 := HX3.out.cell (j := 3) rfl; have e4 := HX3.out.cell (j := 4) rfl))
  go_ret
  exact ⟨ret_int (HR.out.trans (noneV (by first | decide | omega) (by first | decide | omega)).symm).symm, HB3.out⟩

set_option maxHeartbeats 2000000 in
set_option maxRecDepth 100000 in
theorem stepError_8 (path dst : ByteArray) (size time : Int) (w : World) (hE : Env w) (hg : GoodStep ⟨8, path, dst, size, time⟩) :
    Calls Tryz.prog 82 #[.agg #[.int .i64 8, .string path, .string dst, .int .i64 size, .int .i64 time]] w fun e w' => e = .returned (.int .i64 (stepErrV ⟨8, path, dst, size, time⟩)) ∧ Below w.heap.size w w' := by
  obtain ⟨⟨k1, k2, k3, k4, k5⟩, ⟨z0, z1⟩, ⟨t0, t1⟩, p0, p1⟩ := hg
  have K3 := Lib.hid k3
  have K4 := Lib.hid k4
  have K5 := Lib.hid k5
  clear k1 k2 k3 k4 k5
  dsimp only at z0 z1 t0 t1 p0 p1
  have HX := Lib.hid (BoxIs.new w #[.int .i64 8, .string path, .string dst, .int .i64 size, .int .i64 time] stepTy)
  have hb1 := bAlloc (Below.refl w.heap.size w) (.cells #[.int .i64 8, .string path, .string dst, .int .i64 size, .int .i64 time] stepTy)
  have HB1 := Lib.hid hb1
  have HE1 := Lib.hid (hE.under hb1)
  have HPe := Lib.hid (isEmpty_data path)
  have HDe := Lib.hid (isEmpty_data dst)
  clear hb1 hE
  go_enter Tryz.func82, Tryz.ntmps82
  go_upto_region 1 with fail
  generalize w.alloc _ = w1 at *
  have c0 := HX.out.cell (j := 0) rfl
  have c1 := HX.out.cell (j := 1) rfl
  have c2 := HX.out.cell (j := 2) rfl
  cases he : path.data.toList.isEmpty
  case true =>
    have HR := Lib.hid (errV_one (s := ⟨8, path, dst, size, time⟩) (.inr (.inr (.inl (List.isEmpty_iff.1 he)))))
    have hpe := HPe.out
    rw [he] at hpe
    clear he
    go_wp2_with fail
    go_ret
    exact ⟨ret_int HR.out.symm, HB1.out⟩
  case false =>
  have HP : Hid (path.data.toList ≠ []) := Lib.hid (fun e => by rw [e] at he; cases he)
  have hpe := HPe.out
  rw [he] at hpe
  clear he
  have HC := Lib.hid (refIsPath_any path w1 HE1.out (by omega))
  cases hip : Wh.isPath path.data.toList
  · rw [hip] at HC
    have HR := Lib.hid (errV_one (s := ⟨8, path, dst, size, time⟩) (.inl hip))
    clear hip
    go_wp2_with (go_at_call 148; with_reducible refine HC.out.mono ?_; rintro e w2 ⟨rfl, hb2⟩; have HX2 := Lib.hid (HX.out.under hb2); have HB2 := Lib.hid (bTrans HB1.out hb2); have HE2 := Lib.hid (HE1.out.under hb2); clear hb2; have d0 := HX2.out.cell (j := 0) rfl; have d1 := HX2.out.cell (j := 1) rfl; have d2 := HX2.out.cell (j := 2) rfl; have d3 := HX2.out.cell (j := 3) rfl; have d4 := HX2.out.cell (j := 4) rfl)
    go_ret
    exact ⟨ret_int HR.out.symm, HB2.out⟩
  rw [hip] at HC
  have HD := Lib.hid (fun W hE => refIsPath_any dst W hE (by omega))
  cases hid : Wh.isPath dst.data.toList
  · rw [hid] at HD
    have HR := Lib.hid (errV_one (s := ⟨8, path, dst, size, time⟩) (.inr (.inl hid)))
    clear hip hid
    go_wp2_with (first | (go_at_call 148; with_reducible refine HC.out.mono ?_; rintro e w2 ⟨rfl, hb2⟩; have HX2 := Lib.hid (HX.out.under hb2); have HB2 := Lib.hid (bTrans HB1.out hb2); have HE2 := Lib.hid (HE1.out.under hb2); clear hb2; have d0 := HX2.out.cell (j := 0) rfl; have d1 := HX2.out.cell (j := 1) rfl; have d2 := HX2.out.cell (j := 2) rfl; have d3 := HX2.out.cell (j := 3) rfl; have d4 := HX2.out.cell (j := 4) rfl) | (go_at_call 148; with_reducible refine (HD.out _ HE2.out).mono ?_; rintro e w3 ⟨rfl, hb3⟩; have HX3 := Lib.hid (HX2.out.under hb3); have HB3 := Lib.hid (bTrans HB2.out hb3); clear hb3; have e0 := HX3.out.cell (j := 0) rfl; have e1 := HX3.out.cell (j := 1) rfl; have e2 := HX3.out.cell (j := 2) rfl; have e3 := HX3.out.cell (j := 3) rfl; have e4 := HX3.out.cell (j := 4) rfl))
    go_ret
    exact ⟨ret_int HR.out.symm, HB3.out⟩
  rw [hid] at HD
  have HS := Lib.hid (fun h4 => errV_else (s := ⟨8, path, dst, size, time⟩) hip hid HP.out h4)
  clear hip hid
  obtain rfl : size = 0 := K4.out rfl
  obtain rfl : time = 0 := K5.out rfl
  have hdn : dst.data.toList = [] := K3.out rfl
  have hde := HDe.out
  rw [hdn] at hde
  have HR := Lib.hid (HS.out (fun h => absurd h.1 (by show ¬ (false = true); decide)))
  clear hdn HS
  go_wp2_with (first | (go_at_call 148; with_reducible refine HC.out.mono ?_; rintro e w2 ⟨rfl, hb2⟩; have HX2 := Lib.hid (HX.out.under hb2); have HB2 := Lib.hid (bTrans HB1.out hb2); have HE2 := Lib.hid (HE1.out.under hb2); clear hb2; have d0 := HX2.out.cell (j := 0) rfl; have d1 := HX2.out.cell (j := 1) rfl; have d2 := HX2.out.cell (j := 2) rfl; have d3 := HX2.out.cell (j := 3) rfl; have d4 := HX2.out.cell (j := 4) rfl) | (go_at_call 148; with_reducible refine (HD.out _ HE2.out).mono ?_; rintro e w3 ⟨rfl, hb3⟩; have HX3 := Lib.hid (HX2.out.under hb3); have HB3 := Lib.hid (bTrans HB2.out hb3); clear hb3; have e0 := HX3.out.cell (j := 0) rfl; have e1 := HX3.out.cell (j := 1) rfl; have e2 := HX3.out.cell (j := 2) rfl; have e3 := HX3.out.cell (j := 3) rfl; have e4 := HX3.out.cell (j := 4) rfl))
  go_ret
  exact ⟨ret_int (HR.out.trans (noneV (by first | decide | omega) (by first | decide | omega)).symm).symm, HB3.out⟩

set_option maxHeartbeats 2000000 in
set_option maxRecDepth 100000 in
theorem stepError_9 (path dst : ByteArray) (size time : Int) (w : World) (hE : Env w) (hg : GoodStep ⟨9, path, dst, size, time⟩) :
    Calls Tryz.prog 82 #[.agg #[.int .i64 9, .string path, .string dst, .int .i64 size, .int .i64 time]] w fun e w' => e = .returned (.int .i64 (stepErrV ⟨9, path, dst, size, time⟩)) ∧ Below w.heap.size w w' := by
  obtain ⟨⟨k1, k2, k3, k4, k5⟩, ⟨z0, z1⟩, ⟨t0, t1⟩, p0, p1⟩ := hg
  have K3 := Lib.hid k3
  have K4 := Lib.hid k4
  have K5 := Lib.hid k5
  clear k1 k2 k3 k4 k5
  dsimp only at z0 z1 t0 t1 p0 p1
  have HX := Lib.hid (BoxIs.new w #[.int .i64 9, .string path, .string dst, .int .i64 size, .int .i64 time] stepTy)
  have hb1 := bAlloc (Below.refl w.heap.size w) (.cells #[.int .i64 9, .string path, .string dst, .int .i64 size, .int .i64 time] stepTy)
  have HB1 := Lib.hid hb1
  have HE1 := Lib.hid (hE.under hb1)
  have HPe := Lib.hid (isEmpty_data path)
  have HDe := Lib.hid (isEmpty_data dst)
  clear hb1 hE
  go_enter Tryz.func82, Tryz.ntmps82
  go_upto_region 1 with fail
  generalize w.alloc _ = w1 at *
  have c0 := HX.out.cell (j := 0) rfl
  have c1 := HX.out.cell (j := 1) rfl
  have c2 := HX.out.cell (j := 2) rfl
  cases he : path.data.toList.isEmpty
  case true =>
    have HR := Lib.hid (errV_one (s := ⟨9, path, dst, size, time⟩) (.inr (.inr (.inl (List.isEmpty_iff.1 he)))))
    have hpe := HPe.out
    rw [he] at hpe
    clear he
    go_wp2_with fail
    go_ret
    exact ⟨ret_int HR.out.symm, HB1.out⟩
  case false =>
  have HP : Hid (path.data.toList ≠ []) := Lib.hid (fun e => by rw [e] at he; cases he)
  have hpe := HPe.out
  rw [he] at hpe
  clear he
  have HC := Lib.hid (refIsPath_any path w1 HE1.out (by omega))
  cases hip : Wh.isPath path.data.toList
  · rw [hip] at HC
    have HR := Lib.hid (errV_one (s := ⟨9, path, dst, size, time⟩) (.inl hip))
    clear hip
    go_wp2_with (go_at_call 148; with_reducible refine HC.out.mono ?_; rintro e w2 ⟨rfl, hb2⟩; have HX2 := Lib.hid (HX.out.under hb2); have HB2 := Lib.hid (bTrans HB1.out hb2); have HE2 := Lib.hid (HE1.out.under hb2); clear hb2; have d0 := HX2.out.cell (j := 0) rfl; have d1 := HX2.out.cell (j := 1) rfl; have d2 := HX2.out.cell (j := 2) rfl; have d3 := HX2.out.cell (j := 3) rfl; have d4 := HX2.out.cell (j := 4) rfl)
    go_ret
    exact ⟨ret_int HR.out.symm, HB2.out⟩
  rw [hip] at HC
  have HD := Lib.hid (fun W hE => refIsPath_any dst W hE (by omega))
  cases hid : Wh.isPath dst.data.toList
  · rw [hid] at HD
    have HR := Lib.hid (errV_one (s := ⟨9, path, dst, size, time⟩) (.inr (.inl hid)))
    clear hip hid
    go_wp2_with (first | (go_at_call 148; with_reducible refine HC.out.mono ?_; rintro e w2 ⟨rfl, hb2⟩; have HX2 := Lib.hid (HX.out.under hb2); have HB2 := Lib.hid (bTrans HB1.out hb2); have HE2 := Lib.hid (HE1.out.under hb2); clear hb2; have d0 := HX2.out.cell (j := 0) rfl; have d1 := HX2.out.cell (j := 1) rfl; have d2 := HX2.out.cell (j := 2) rfl; have d3 := HX2.out.cell (j := 3) rfl; have d4 := HX2.out.cell (j := 4) rfl) | (go_at_call 148; with_reducible refine (HD.out _ HE2.out).mono ?_; rintro e w3 ⟨rfl, hb3⟩; have HX3 := Lib.hid (HX2.out.under hb3); have HB3 := Lib.hid (bTrans HB2.out hb3); clear hb3; have e0 := HX3.out.cell (j := 0) rfl; have e1 := HX3.out.cell (j := 1) rfl; have e2 := HX3.out.cell (j := 2) rfl; have e3 := HX3.out.cell (j := 3) rfl; have e4 := HX3.out.cell (j := 4) rfl))
    go_ret
    exact ⟨ret_int HR.out.symm, HB3.out⟩
  rw [hid] at HD
  have HS := Lib.hid (fun h4 => errV_else (s := ⟨9, path, dst, size, time⟩) hip hid HP.out h4)
  clear hip hid
  obtain rfl : size = 0 := K4.out rfl
  obtain rfl : time = 0 := K5.out rfl
  have hdn : dst.data.toList = [] := K3.out rfl
  have hde := HDe.out
  rw [hdn] at hde
  have HR := Lib.hid (HS.out (fun h => absurd h.1 (by show ¬ (false = true); decide)))
  clear hdn HS
  go_wp2_with (first | (go_at_call 148; with_reducible refine HC.out.mono ?_; rintro e w2 ⟨rfl, hb2⟩; have HX2 := Lib.hid (HX.out.under hb2); have HB2 := Lib.hid (bTrans HB1.out hb2); have HE2 := Lib.hid (HE1.out.under hb2); clear hb2; have d0 := HX2.out.cell (j := 0) rfl; have d1 := HX2.out.cell (j := 1) rfl; have d2 := HX2.out.cell (j := 2) rfl; have d3 := HX2.out.cell (j := 3) rfl; have d4 := HX2.out.cell (j := 4) rfl) | (go_at_call 148; with_reducible refine (HD.out _ HE2.out).mono ?_; rintro e w3 ⟨rfl, hb3⟩; have HX3 := Lib.hid (HX2.out.under hb3); have HB3 := Lib.hid (bTrans HB2.out hb3); clear hb3; have e0 := HX3.out.cell (j := 0) rfl; have e1 := HX3.out.cell (j := 1) rfl; have e2 := HX3.out.cell (j := 2) rfl; have e3 := HX3.out.cell (j := 3) rfl; have e4 := HX3.out.cell (j := 4) rfl))
  go_ret
  exact ⟨ret_int (HR.out.trans (noneV (by first | decide | omega) (by first | decide | omega)).symm).symm, HB3.out⟩

set_option maxHeartbeats 2000000 in
set_option maxRecDepth 100000 in
theorem stepError_10 (path dst : ByteArray) (size time : Int) (w : World) (hE : Env w) (hg : GoodStep ⟨10, path, dst, size, time⟩) :
    Calls Tryz.prog 82 #[.agg #[.int .i64 10, .string path, .string dst, .int .i64 size, .int .i64 time]] w fun e w' => e = .returned (.int .i64 (stepErrV ⟨10, path, dst, size, time⟩)) ∧ Below w.heap.size w w' := by
  obtain ⟨⟨k1, k2, k3, k4, k5⟩, ⟨z0, z1⟩, ⟨t0, t1⟩, p0, p1⟩ := hg
  have K3 := Lib.hid k3
  have K4 := Lib.hid k4
  have K5 := Lib.hid k5
  clear k1 k2 k3 k4 k5
  dsimp only at z0 z1 t0 t1 p0 p1
  have HX := Lib.hid (BoxIs.new w #[.int .i64 10, .string path, .string dst, .int .i64 size, .int .i64 time] stepTy)
  have hb1 := bAlloc (Below.refl w.heap.size w) (.cells #[.int .i64 10, .string path, .string dst, .int .i64 size, .int .i64 time] stepTy)
  have HB1 := Lib.hid hb1
  have HE1 := Lib.hid (hE.under hb1)
  have HPe := Lib.hid (isEmpty_data path)
  have HDe := Lib.hid (isEmpty_data dst)
  clear hb1 hE
  go_enter Tryz.func82, Tryz.ntmps82
  go_upto_region 1 with fail
  generalize w.alloc _ = w1 at *
  have c0 := HX.out.cell (j := 0) rfl
  have c1 := HX.out.cell (j := 1) rfl
  have c2 := HX.out.cell (j := 2) rfl
  cases he : path.data.toList.isEmpty
  case true =>
    have HR := Lib.hid (errV_one (s := ⟨10, path, dst, size, time⟩) (.inr (.inr (.inl (List.isEmpty_iff.1 he)))))
    have hpe := HPe.out
    rw [he] at hpe
    clear he
    go_wp2_with fail
    go_ret
    exact ⟨ret_int HR.out.symm, HB1.out⟩
  case false =>
  have HP : Hid (path.data.toList ≠ []) := Lib.hid (fun e => by rw [e] at he; cases he)
  have hpe := HPe.out
  rw [he] at hpe
  clear he
  have HC := Lib.hid (refIsPath_any path w1 HE1.out (by omega))
  cases hip : Wh.isPath path.data.toList
  · rw [hip] at HC
    have HR := Lib.hid (errV_one (s := ⟨10, path, dst, size, time⟩) (.inl hip))
    clear hip
    go_wp2_with (go_at_call 148; with_reducible refine HC.out.mono ?_; rintro e w2 ⟨rfl, hb2⟩; have HX2 := Lib.hid (HX.out.under hb2); have HB2 := Lib.hid (bTrans HB1.out hb2); have HE2 := Lib.hid (HE1.out.under hb2); clear hb2; have d0 := HX2.out.cell (j := 0) rfl; have d1 := HX2.out.cell (j := 1) rfl; have d2 := HX2.out.cell (j := 2) rfl; have d3 := HX2.out.cell (j := 3) rfl; have d4 := HX2.out.cell (j := 4) rfl)
    go_ret
    exact ⟨ret_int HR.out.symm, HB2.out⟩
  rw [hip] at HC
  have HD := Lib.hid (fun W hE => refIsPath_any dst W hE (by omega))
  cases hid : Wh.isPath dst.data.toList
  · rw [hid] at HD
    have HR := Lib.hid (errV_one (s := ⟨10, path, dst, size, time⟩) (.inr (.inl hid)))
    clear hip hid
    go_wp2_with (first | (go_at_call 148; with_reducible refine HC.out.mono ?_; rintro e w2 ⟨rfl, hb2⟩; have HX2 := Lib.hid (HX.out.under hb2); have HB2 := Lib.hid (bTrans HB1.out hb2); have HE2 := Lib.hid (HE1.out.under hb2); clear hb2; have d0 := HX2.out.cell (j := 0) rfl; have d1 := HX2.out.cell (j := 1) rfl; have d2 := HX2.out.cell (j := 2) rfl; have d3 := HX2.out.cell (j := 3) rfl; have d4 := HX2.out.cell (j := 4) rfl) | (go_at_call 148; with_reducible refine (HD.out _ HE2.out).mono ?_; rintro e w3 ⟨rfl, hb3⟩; have HX3 := Lib.hid (HX2.out.under hb3); have HB3 := Lib.hid (bTrans HB2.out hb3); clear hb3; have e0 := HX3.out.cell (j := 0) rfl; have e1 := HX3.out.cell (j := 1) rfl; have e2 := HX3.out.cell (j := 2) rfl; have e3 := HX3.out.cell (j := 3) rfl; have e4 := HX3.out.cell (j := 4) rfl))
    go_ret
    exact ⟨ret_int HR.out.symm, HB3.out⟩
  rw [hid] at HD
  have HS := Lib.hid (fun h4 => errV_else (s := ⟨10, path, dst, size, time⟩) hip hid HP.out h4)
  clear hip hid
  obtain rfl : size = 0 := K4.out rfl
  obtain rfl : time = 0 := K5.out rfl
  have hdn : dst.data.toList = [] := K3.out rfl
  have hde := HDe.out
  rw [hdn] at hde
  have HR := Lib.hid (HS.out (fun h => absurd h.1 (by show ¬ (false = true); decide)))
  clear hdn HS
  go_wp2_with (first | (go_at_call 148; with_reducible refine HC.out.mono ?_; rintro e w2 ⟨rfl, hb2⟩; have HX2 := Lib.hid (HX.out.under hb2); have HB2 := Lib.hid (bTrans HB1.out hb2); have HE2 := Lib.hid (HE1.out.under hb2); clear hb2; have d0 := HX2.out.cell (j := 0) rfl; have d1 := HX2.out.cell (j := 1) rfl; have d2 := HX2.out.cell (j := 2) rfl; have d3 := HX2.out.cell (j := 3) rfl; have d4 := HX2.out.cell (j := 4) rfl) | (go_at_call 148; with_reducible refine (HD.out _ HE2.out).mono ?_; rintro e w3 ⟨rfl, hb3⟩; have HX3 := Lib.hid (HX2.out.under hb3); have HB3 := Lib.hid (bTrans HB2.out hb3); clear hb3; have e0 := HX3.out.cell (j := 0) rfl; have e1 := HX3.out.cell (j := 1) rfl; have e2 := HX3.out.cell (j := 2) rfl; have e3 := HX3.out.cell (j := 3) rfl; have e4 := HX3.out.cell (j := 4) rfl))
  go_ret
  exact ⟨ret_int (HR.out.trans (noneV (by first | decide | omega) (by first | decide | omega)).symm).symm, HB3.out⟩

theorem stepError_any (s : PStep) (w : World) (hE : Env w) (hg : GoodStep s) :
    Calls Tryz.prog 82 #[.agg (stepArr s)] w fun e w' => e = .returned (.int .i64 (stepErrV s)) ∧ Below w.heap.size w w' := by
  obtain ⟨k, path, dst, size, time⟩ := s
  have h1 : 1 ≤ k := hg.1.1
  have h2 : k ≤ 10 := hg.1.2.1
  match k, h1, h2 with
  | 1, _, _ => exact stepError_1 path dst size time w hE hg
  | 2, _, _ => exact stepError_2 path dst size time w hE hg
  | 3, _, _ => exact stepError_3 path dst size time w hE hg
  | 4, _, _ => exact stepError_4 path dst size time w hE hg
  | 5, _, _ => exact stepError_5 path dst size time w hE hg
  | 6, _, _ => exact stepError_6 path dst size time w hE hg
  | 7, _, _ => exact stepError_7 path dst size time w hE hg
  | 8, _, _ => exact stepError_8 path dst size time w hE hg
  | 9, _, _ => exact stepError_9 path dst size time w hE hg
  | 10, _, _ => exact stepError_10 path dst size time w hE hg

set_option maxHeartbeats 2000000 in
theorem refusalError_any (x : PRef) (w : World) (hE : Env w) (hg : GoodRef x) :
    Calls Tryz.prog 83 #[.agg #[.string x.path, .int .i64 x.err]] w fun e w' => e = .returned (.int .i64 (refErrV x)) ∧ Below w.heap.size w w' := by
  obtain ⟨path, err⟩ := x
  obtain ⟨⟨z0, z1⟩, p0⟩ := hg
  dsimp only at z0 z1 p0 ⊢
  have HX := Lib.hid (BoxIs.new w #[.string path, .int .i64 err] refTy)
  have hb1 := bAlloc (Below.refl w.heap.size w) (.cells #[.string path, .int .i64 err] refTy)
  have HB1 := Lib.hid hb1
  have HE1 := Lib.hid (hE.under hb1)
  clear hb1 hE
  have HRp : Hid (∀ b, Wh.isPath path.data.toList = b → refErrV ⟨path, err⟩ = if b = false then 1 else if err = 2 ∨ err = 8 ∨ err = 5 ∨ err = 13 then 0 else 5) := Lib.hid (by rintro b rfl; rfl)
  go_enter Tryz.func83, Tryz.ntmps83
  go_upto_region 1 with fail
  generalize w.alloc _ = w1 at *
  have c0 := HX.out.cell (j := 0) rfl
  have HC := Lib.hid (refIsPath_any path w1 HE1.out (by omega))
  cases hip : Wh.isPath path.data.toList
  · rw [hip] at HC
    have HR := Lib.hid (HRp.out _ hip)
    clear hip HRp
    go_wp2_with (go_at_call 148; with_reducible refine HC.out.mono ?_; rintro e w2 ⟨rfl, hb2⟩; have HB2 := Lib.hid (bTrans HB1.out hb2); clear hb2)
    go_ret
    exact ⟨ret_int (HR.out.trans rfl).symm, HB2.out⟩
  rw [hip] at HC
  have HR := Lib.hid (HRp.out _ hip)
  clear hip HRp
  go_upto_region 3 with (go_at_call 148; with_reducible refine HC.out.mono ?_; rintro e w2 ⟨rfl, hb2⟩; have HX2 := Lib.hid (HX.out.under hb2); have HB2 := Lib.hid (bTrans HB1.out hb2); clear hb2; have d1 := HX2.out.cell (j := 1) rfl)
  rcases (by omega : err = 2 ∨ err = 8 ∨ err = 5 ∨ err = 13 ∨ (¬ err = 2 ∧ ¬ err = 8 ∧ ¬ err = 5 ∧ ¬ err = 13)) with rfl | rfl | rfl | rfl | ⟨x1, x2, x3, x4⟩
  case' inl => have HR2 := Lib.hid (HR.out.trans (show _ = (0 : Int) from rfl))
  case' inr.inl => have HR2 := Lib.hid (HR.out.trans (show _ = (0 : Int) from rfl))
  case' inr.inr.inl => have HR2 := Lib.hid (HR.out.trans (show _ = (0 : Int) from rfl))
  case' inr.inr.inr.inl => have HR2 := Lib.hid (HR.out.trans (show _ = (0 : Int) from rfl))
  case' inr.inr.inr.inr =>
    have HR2 := Lib.hid (HR.out.trans ((if_neg (by decide)).trans (if_neg (by omega) : _ = (5 : Int))))
    have y1 : (err != 2) = true := by simpa using x1
    have y2 : (err != 8) = true := by simpa using x2
    have y3 : (err != 5) = true := by simpa using x3
    have y4 : (err != 13) = true := by simpa using x4
  all_goals
    go_wp2_with fail
    go_ret
    exact ⟨ret_int HR2.out.symm, HB2.out⟩
end Go.Proofs.YtfenmeacimfiaaaGreatDoor
