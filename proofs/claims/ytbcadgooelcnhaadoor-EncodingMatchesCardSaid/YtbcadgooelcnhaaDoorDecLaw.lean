/-
  The law DecodeMatches, walked.
-/
import Derived.Test.YtbcadgooelcnhaaDoorDecode
import Derived.Test.YtbcadgooelcnhaaDoorRefDecode
namespace Go.Proofs.YtbcadgooelcnhaaDoor
open Go.RowKit

set_option maxHeartbeats 1000000 in
set_option maxRecDepth 100000 in
theorem decode_nopath (x : Wh.Enc) (a : Option Addr) (c : Nat) (s : ByteArray) (w : World) (hE : Env w) (hX : EncOk x a w) (hs : s.size ≤ 9223372036854775807) (he : Wh.encErr x = 0) (hp : Wh.pathErr s.data.toList = 1) :
    Calls Tryd.prog 54 #[encVal x a c, .string s] w fun e w' => e = .returned (.tuple #[.string ⟨#[]⟩, .int .i64 1]) ∧ Below w.heap.size w w' := by
  have HC := Lib.hid (fun W (hb : Below w.heap.size w W) => checkEnc x a c W (hE.under hb) (hX.under hb))
  have HP := Lib.hid (fun W (hb : Below w.heap.size w W) => check_any s W (hE.under hb) hs)
  rw [hp] at HP
  rw [he] at HC
  clear hE hX he hp
  unfold encVal at *
  have hb0 : Below w.heap.size w (w.alloc (.cells #[.string x.forbid, .string x.head, .string x.tail, .slice a x.names.length c, .bool x.cs, .int .i64 x.max] 61)) := bAlloc (Below.refl _ _) _
  go_enter Tryd.func54, Tryd.ntmps54
  go_wp2_with fail
  refine (HC.out _ hb0).mono ?_
  rintro e w1 ⟨rfl, hb1⟩
  go_wp2_with fail
  refine (HP.out _ (bTrans hb0 hb1)).mono ?_
  rintro e w2 ⟨rfl, hb2⟩
  go_wp2_with fail
  go_ret2
  exact ⟨rfl, bTrans (bTrans hb0 hb1) hb2⟩

theorem pathErr_not {l : List UInt8} (h : Wh.pathErr l = 1) : Wh.isPath l = false := by
  cases hh : Wh.isPath l with
  | false => rfl
  | true => simp [Wh.pathErr, hh] at h

theorem decode_any (x : Wh.Enc) (a : Option Addr) (c : Nat) (s : ByteArray) (w : World) (hE : Env w) (hX : EncOk x a w) (hs : s.size ≤ 9223372036854775807) (he : Wh.encErr x = 0) :
    Calls Tryd.prog 54 #[encVal x a c, .string s] w fun e w' => e = .returned (.tuple #[.string (decGives x s), .int .i64 (decCode x s)]) ∧ Below w.heap.size w w' := by
  rcases Wh.pathErr_cases s.data.toList with hp | hp
  · have h := decode_nopath x a c s w hE hX hs he hp
    simpa [decGives, decCode, hp] using h
  · have h := decode_path x a c s w hE hX he hp
    simpa [decGives, decCode, hp] using h

theorem refDecode_any (x : Wh.Enc) (a : Option Addr) (c : Nat) (s : ByteArray) (w : World) (hE : Env w) (hX : EncOk x a w) (hs : s.size ≤ 9223372036854775807) :
    Calls Tryd.prog 55 #[encVal x a c, .string s] w fun e w' => e = .returned (.tuple #[.string (decGives x s), .int .i64 (decCode x s)]) ∧ Below w.heap.size w w' := by
  rcases Wh.pathErr_cases s.data.toList with hp | hp
  · have h := refDecode_bad x a c s w hE hs (pathErr_not hp)
    simpa [decGives, decCode, hp] using h
  · have h := refDecode_path x a c s w hE hX (Wh.pathErr_zero hp)
    simpa [decGives, decCode, hp] using h

set_option maxHeartbeats 4000000 in
set_option maxRecDepth 100000 in
theorem decodeMatches_walk (x : Wh.Enc) (a : Option Addr) (c : Nat) (s : ByteArray) (w : World) (hE : Env w) (hX : EncOk x a w) (hs : s.size ≤ 9223372036854775807) :
    Calls Tryd.prog 13 #[encVal x a c, .string s] w fun e w' => e = .returned (.bool true) ∧ Below w.heap.size w w' := by
  have HR := Lib.hid (fun W (hb : Below w.heap.size w W) => refCheckEnc x a c W (hE.under hb) (hX.under hb))
  have HE := Lib.hid hE
  by_cases he : Wh.encErr x = 0
  · have HA := Lib.hid (fun W (hb : Below w.heap.size w W) => decode_any x a c s W (hE.under hb) (hX.under hb) hs he)
    have HB := Lib.hid (fun W (hb : Below w.heap.size w W) => refDecode_any x a c s W (hE.under hb) (hX.under hb) hs)
    generalize decGives x s = T at *
    generalize decCode x s = E at *
    rw [he] at HR
    clear hE hX he
    unfold encVal at *
    go_enter Tryd.func13, Tryd.ntmps13
    go_wp2_with fail
    refine (landed_any _ (HE.out.alloc _)).mono ?_
    rintro e w1 ⟨rfl, hb1⟩
    have hbb := bTrans (bAlloc (Below.refl _ w) _) hb1
    have HX1 := Lib.hid ((encBox_new w 61 x a c).under hb1)
    clear hb1
    obtain ⟨k0, k1, k2, k3, k4, k5, k6⟩ := HX1.out
    go_wp2_with fail
    refine (HR.out _ hbb).mono ?_
    rintro e w2 ⟨rfl, hb2⟩
    have hbb := bTrans hbb hb2
    have HX2 := Lib.hid (HX1.out.under hb2)
    clear hb2 k0 k1 k2 k3 k4 k5 k6 HX1
    obtain ⟨k0, k1, k2, k3, k4, k5, k6⟩ := HX2.out
    go_wp2_with fail
    refine (HA.out _ hbb).mono ?_
    rintro e w4 ⟨rfl, hb4⟩
    have hbb := bTrans hbb hb4
    have HX4 := Lib.hid (HX2.out.under hb4)
    clear hb4 k0 k1 k2 k3 k4 k5 k6 HX2
    obtain ⟨k0, k1, k2, k3, k4, k5, k6⟩ := HX4.out
    go_wp2_with fail
    refine (HB.out _ hbb).mono ?_
    rintro e w5 ⟨rfl, hb5⟩
    have hbb := bTrans hbb hb5
    clear hb5 k0 k1 k2 k3 k4 k5 k6 HX4
    go_wp2_with fail
    go_ret
    exact ⟨ret_bool (by simp), hbb⟩
  · have h1 := err_ne he
    generalize Wh.encErr x = E at *
    clear hE hX he
    unfold encVal at *
    go_enter Tryd.func13, Tryd.ntmps13
    go_wp2_with fail
    refine (landed_any _ (HE.out.alloc _)).mono ?_
    rintro e w1 ⟨rfl, hb1⟩
    have hbb := bTrans (bAlloc (Below.refl _ w) _) hb1
    have HX1 := Lib.hid ((encBox_new w 61 x a c).under hb1)
    clear hb1
    obtain ⟨k0, k1, k2, k3, k4, k5, k6⟩ := HX1.out
    go_wp2_with fail
    refine (HR.out _ hbb).mono ?_
    rintro e w2 ⟨rfl, hb2⟩
    have hbb := bTrans hbb hb2
    clear hb2 k0 k1 k2 k3 k4 k5 k6 HX1
    go_wp2_with fail
    go_ret
    exact ⟨rfl, hbb⟩
end Go.Proofs.YtbcadgooelcnhaaDoor
