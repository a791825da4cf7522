/-
  names.hasByte, letter, digit; the reference's alnum.
-/
import Derived.Test.YtikegddlbelfaaaGreatDoorFold
import Derived.Test.YtikegddlbelfaaaGreatDoorPlainEnc
namespace Go.Proofs.YtikegddlbelfaaaGreatDoor
open Go.RowKit

set_option maxHeartbeats 1000000 in
theorem hasByte_any (s : ByteArray) (c : UInt8) (w : World) :
    Calls Tryz.prog 21 #[.string s, .int .u8 c.toNat] w fun e w' => e = .returned (.bool (s.data.toList.contains c)) ∧ w' = w := by
  have HC := Lib.hid (Lib.contains_iff_indexByte s.data.toList c)
  have hback : ((c.toNat : Int)).toNat.toUInt8 = c := by simp
  have HI := fun W => Tryz.strings_IndexByte s c.toNat W
  rw [hback] at HI
  have HI := Lib.hid HI
  clear hback
  go_enter Tryz.func21, Tryz.ntmps21
  go_wp2_with (go_at_call 54; refine (HI.out _).mono ?_; rintro e w' ⟨rfl, rfl⟩)
  go_ret
  exact ⟨ret_bool (by rw [HC.out]), rfl⟩

set_option maxHeartbeats 1000000 in
theorem letter_any (c : UInt8) (w : World) :
    Calls Tryz.prog 22 #[.int .u8 c.toNat] w fun e w' => e = .returned (.bool (Wh.letter c)) ∧ w' = w := by
  have hL := Lib.hid (Wh.letter_small c)
  have hs := (Wh.small c).toNat_lt
  by_cases h1 : 97 ≤ (Wh.small c).toNat
  · go_enter Tryz.func22, Tryz.ntmps22
    go_wp2_with (go_at_call 55; refine (small_any c _).mono ?_; rintro e w' ⟨rfl, rfl⟩)
    go_ret
    exact ⟨ret_bool (by rw [hL.out, Bool.eq_iff_iff]; simp; try omega), rfl⟩
  · go_enter Tryz.func22, Tryz.ntmps22
    go_wp2_with (go_at_call 55; refine (small_any c _).mono ?_; rintro e w' ⟨rfl, rfl⟩)
    go_ret
    exact ⟨ret_bool (by rw [hL.out, Bool.eq_iff_iff]; simp; try omega), rfl⟩

set_option maxHeartbeats 1000000 in
theorem digit_any (c : UInt8) (w : World) :
    Calls Tryz.prog 23 #[.int .u8 c.toNat] w fun e w' => e = .returned (.bool (Wh.digit c)) ∧ w' = w := by
  have hs := c.toNat_lt
  by_cases h1 : 48 ≤ c.toNat
  · go_enter Tryz.func23, Tryz.ntmps23
    go_wp2
    go_ret
    exact ⟨ret_bool (by unfold Wh.digit; rw [Bool.eq_iff_iff]; simp; try omega), rfl⟩
  · go_enter Tryz.func23, Tryz.ntmps23
    go_wp2
    go_ret
    exact ⟨ret_bool (by unfold Wh.digit; rw [Bool.eq_iff_iff]; simp; try omega), rfl⟩

end Go.Proofs.YtikegddlbelfaaaGreatDoor
