/-
  The law EncodingChecks, walked.
-/
import Derived.Test.YtbcadgooelcnhaaDoorRefEncCheck
namespace Go.Proofs.YtbcadgooelcnhaaDoor
open Go.RowKit

/-- An encoding that came in: what is known of its parts. -/
structure EncOk (x : Wh.Enc) (a : Option Addr) (w : World) : Prop where
  holds : Holds w a (x.names.map Value.string)
  len : x.names.length ≤ 9223372036854775807
  sizes : ∀ s ∈ x.names, s.size ≤ 9223372036854775807
  forbid : x.forbid.size ≤ 9223372036854775807
  head : x.head.size ≤ 9223372036854775807
  tail : x.tail.size ≤ 9223372036854775807
  max : -9223372036854775808 ≤ x.max ∧ x.max ≤ 9223372036854775807

theorem EncOk.under {x : Wh.Enc} {a : Option Addr} {w w' : World} (h : EncOk x a w) (hb : Below w.heap.size w w') : EncOk x a w' := { h with holds := h.holds.under hb }

theorem checkEnc (x : Wh.Enc) (a : Option Addr) (c : Nat) (w : World) (hE : Env w) (hX : EncOk x a w) :
    Calls Tryd.prog 53 #[encVal x a c] w fun e w' => e = .returned (.int .i64 (Wh.encErr x)) ∧ Below w.heap.size w w' :=
  checkEncoding_any x a c w hE hX.holds hX.len hX.sizes hX.forbid hX.head hX.tail hX.max
theorem refCheckEnc (x : Wh.Enc) (a : Option Addr) (c : Nat) (w : World) (hE : Env w) (hX : EncOk x a w) :
    Calls Tryd.prog 52 #[encVal x a c] w fun e w' => e = .returned (.int .i64 (Wh.encErr x)) ∧ Below w.heap.size w w' :=
  refCheckEncoding_any x a c w hE hX.holds hX.len hX.sizes hX.forbid hX.head hX.tail hX.max

theorem err_ne {e : Int} (h : e ≠ 0) : (e != 0) = true := by simp [h]
theorem err_ne0 {e : Int} (h : e ≠ 0) : (e == 0) = false := by simp [h]

set_option maxHeartbeats 1000000 in
set_option maxRecDepth 100000 in
theorem encode_bad (x : Wh.Enc) (a : Option Addr) (c : Nat) (s : ByteArray) (w : World) (hE : Env w) (hX : EncOk x a w) (he : Wh.encErr x ≠ 0) :
    Calls Tryd.prog 51 #[encVal x a c, .string s] w fun e w' => e = .returned (.tuple #[.string ⟨#[]⟩, .int .i64 (Wh.encErr x)]) ∧ Below w.heap.size w w' := by
  have HC := Lib.hid (fun W (hb : Below w.heap.size w W) => checkEnc x a c W (hE.under hb) (hX.under hb))
  clear hE hX
  unfold encVal at *
  have h1 := err_ne he
  generalize Wh.encErr x = E at *
  clear he
  go_enter Tryd.func51, Tryd.ntmps51
  go_wp2_with fail
  refine (HC.out _ (bAlloc (Below.refl _ _) _)).mono ?_
  rintro e w1 ⟨rfl, hb1⟩
  go_wp2_with fail
  go_ret2
  exact ⟨rfl, bTrans (bAlloc (Below.refl _ _) _) hb1⟩

set_option maxHeartbeats 1000000 in
set_option maxRecDepth 100000 in
theorem decode_bad (x : Wh.Enc) (a : Option Addr) (c : Nat) (s : ByteArray) (w : World) (hE : Env w) (hX : EncOk x a w) (he : Wh.encErr x ≠ 0) :
    Calls Tryd.prog 54 #[encVal x a c, .string s] w fun e w' => e = .returned (.tuple #[.string ⟨#[]⟩, .int .i64 (Wh.encErr x)]) ∧ Below w.heap.size w w' := by
  have HC := Lib.hid (fun W (hb : Below w.heap.size w W) => checkEnc x a c W (hE.under hb) (hX.under hb))
  clear hE hX
  unfold encVal at *
  have h1 := err_ne he
  generalize Wh.encErr x = E at *
  clear he
  go_enter Tryd.func54, Tryd.ntmps54
  go_wp2_with fail
  refine (HC.out _ (bAlloc (Below.refl _ _) _)).mono ?_
  rintro e w1 ⟨rfl, hb1⟩
  go_wp2_with fail
  go_ret2
  exact ⟨rfl, bTrans (bAlloc (Below.refl _ _) _) hb1⟩

/-- A block that holds an encoding. -/
def EncBox (w : World) (b : Nat) (x : Wh.Enc) (a : Option Addr) (c : Nat) : Prop :=
  b < w.heap.size ∧ w.cell? ⟨b, 0, none⟩ = some (.string x.forbid) ∧ w.cell? ⟨b, 1, none⟩ = some (.string x.head) ∧ w.cell? ⟨b, 2, none⟩ = some (.string x.tail) ∧
    w.cell? ⟨b, 3, none⟩ = some (.slice a x.names.length c) ∧ w.cell? ⟨b, 4, none⟩ = some (.bool x.cs) ∧ w.cell? ⟨b, 5, none⟩ = some (.int .i64 x.max)

theorem EncBox.under {w w' : World} {b : Nat} {x : Wh.Enc} {a : Option Addr} {c : Nat} (h : EncBox w b x a c) (hb : Below w.heap.size w w') : EncBox w' b x a c := by
  obtain ⟨h0, h1, h2, h3, h4, h5, h6⟩ := h
  have hc := fun j => hb.cell (p := ⟨b, j, none⟩) h0
  exact ⟨Nat.lt_of_lt_of_le h0 hb.size, (hc 0).trans h1, (hc 1).trans h2, (hc 2).trans h3, (hc 3).trans h4, (hc 4).trans h5, (hc 5).trans h6⟩

theorem encBox_new (w : World) (t : TypeId) (x : Wh.Enc) (a : Option Addr) (c : Nat) :
    EncBox (w.alloc (.cells #[.string x.forbid, .string x.head, .string x.tail, .slice a x.names.length c, .bool x.cs, .int .i64 x.max] t)) w.heap.size x a c := by
  refine ⟨by simp, ?_, ?_, ?_, ?_, ?_, ?_⟩ <;> (rw [World.cell?_alloc_at _ _ _ _ rfl]; rfl)

set_option maxHeartbeats 2000000 in
set_option maxRecDepth 100000 in
theorem encodingChecks_walk (x : Wh.Enc) (a : Option Addr) (c : Nat) (s : ByteArray) (w : World) (hE : Env w) (hX : EncOk x a w) :
    Calls Tryd.prog 12 #[encVal x a c, .string s] w fun e w' => e = .returned (.bool true) ∧ Below w.heap.size w w' := by
  have HC := Lib.hid (fun W (hb : Below w.heap.size w W) => checkEnc x a c W (hE.under hb) (hX.under hb))
  have HR := Lib.hid (fun W (hb : Below w.heap.size w W) => refCheckEnc x a c W (hE.under hb) (hX.under hb))
  have HE := Lib.hid hE
  by_cases he : Wh.encErr x = 0
  · rw [he] at HC HR
    clear hE hX he
    unfold encVal at *
    go_enter Tryd.func12, Tryd.ntmps12
    go_wp2_with fail
    refine (landed_any _ (HE.out.alloc _)).mono ?_
    rintro e w1 ⟨rfl, hb1⟩
    have hbb := bTrans (bAlloc (Below.refl _ w) _) hb1
    have HX1 := Lib.hid ((encBox_new w 61 x a c).under hb1)
    clear hb1
    obtain ⟨k0, k1, k2, k3, k4, k5, k6⟩ := HX1.out
    go_wp2_with fail
    refine (HR.out _ hbb).mono ?_
    rintro e w2 ⟨rfl, hb2⟩
    have hbb := bTrans hbb hb2
    have HX2 := Lib.hid (HX1.out.under hb2)
    clear hb2 k0 k1 k2 k3 k4 k5 k6 HX1
    obtain ⟨k0, k1, k2, k3, k4, k5, k6⟩ := HX2.out
    go_wp2_with fail
    refine (HC.out _ hbb).mono ?_
    rintro e w3 ⟨rfl, hb3⟩
    go_wp2_with fail
    go_ret
    exact ⟨rfl, bTrans hbb hb3⟩
  · have HA := Lib.hid (fun W (hb : Below w.heap.size w W) => encode_bad x a c s W (hE.under hb) (hX.under hb) he)
    have HB := Lib.hid (fun W (hb : Below w.heap.size w W) => decode_bad x a c s W (hE.under hb) (hX.under hb) he)
    have h1 := err_ne0 he
    generalize Wh.encErr x = E at *
    clear hE hX he
    unfold encVal at *
    go_enter Tryd.func12, Tryd.ntmps12
    go_wp2_with fail
    refine (landed_any _ (HE.out.alloc _)).mono ?_
    rintro e w1 ⟨rfl, hb1⟩
    have hbb := bTrans (bAlloc (Below.refl _ w) _) hb1
    have HX1 := Lib.hid ((encBox_new w 61 x a c).under hb1)
    clear hb1
    obtain ⟨k0, k1, k2, k3, k4, k5, k6⟩ := HX1.out
    go_wp2_with fail
    refine (HR.out _ hbb).mono ?_
    rintro e w2 ⟨rfl, hb2⟩
    have hbb := bTrans hbb hb2
    have HX2 := Lib.hid (HX1.out.under hb2)
    clear hb2 k0 k1 k2 k3 k4 k5 k6 HX1
    obtain ⟨k0, k1, k2, k3, k4, k5, k6⟩ := HX2.out
    go_wp2_with fail
    refine (HC.out _ hbb).mono ?_
    rintro e w3 ⟨rfl, hb3⟩
    have hbb := bTrans hbb hb3
    have HX3 := Lib.hid (HX2.out.under hb3)
    clear hb3 k0 k1 k2 k3 k4 k5 k6 HX2
    obtain ⟨k0, k1, k2, k3, k4, k5, k6⟩ := HX3.out
    go_wp2_with fail
    refine (HA.out _ hbb).mono ?_
    rintro e w4 ⟨rfl, hb4⟩
    have hbb := bTrans hbb hb4
    have HX4 := Lib.hid (HX3.out.under hb4)
    clear hb4 k0 k1 k2 k3 k4 k5 k6 HX3
    obtain ⟨k0, k1, k2, k3, k4, k5, k6⟩ := HX4.out
    go_wp2_with fail
    refine (HB.out _ hbb).mono ?_
    rintro e w5 ⟨rfl, hb5⟩
    have hbb := bTrans hbb hb5
    clear hb5 k0 k1 k2 k3 k4 k5 k6 HX4
    go_wp2_with fail
    go_ret
    exact ⟨ret_bool (by simp), hbb⟩
end Go.Proofs.YtbcadgooelcnhaaDoor
