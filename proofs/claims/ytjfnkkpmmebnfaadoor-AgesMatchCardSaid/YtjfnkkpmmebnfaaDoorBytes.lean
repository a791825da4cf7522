/-
  names.hasByte, letter, digit; the reference's alnum.
-/
import Derived.Test.YtjfnkkpmmebnfaaDoorFold
import Derived.Test.YtjfnkkpmmebnfaaDoorPlainEnc
namespace Go.Proofs.YtjfnkkpmmebnfaaDoor
open Go.RowKit

set_option maxHeartbeats 1000000 in
theorem hasByte_any (s : ByteArray) (c : UInt8) (w : World) :
    Calls Tryd.prog 188 #[.string s, .int .u8 c.toNat] w fun e w' => e = .returned (.bool (s.data.toList.contains c)) ∧ w' = w := by
  have HC := Lib.hid (Lib.contains_iff_indexByte s.data.toList c)
  have hback : ((c.toNat : Int)).toNat.toUInt8 = c := by simp
  have HI := fun W => Tryd.strings_IndexByte s c.toNat W
  rw [hback] at HI
  have HI := Lib.hid HI
  clear hback
  go_enter Tryd.func188, Tryd.ntmps188
  go_wp2_with (go_at_call 48; refine (HI.out _).mono ?_; rintro e w' ⟨rfl, rfl⟩)
  go_ret
  exact ⟨ret_bool (by rw [HC.out]), rfl⟩

set_option maxHeartbeats 1000000 in
theorem letter_any (c : UInt8) (w : World) :
    Calls Tryd.prog 88 #[.int .u8 c.toNat] w fun e w' => e = .returned (.bool (Wh.letter c)) ∧ w' = w := by
  have hL := Lib.hid (Wh.letter_small c)
  have hs := (Wh.small c).toNat_lt
  by_cases h1 : 97 ≤ (Wh.small c).toNat
  · go_enter Tryd.func88, Tryd.ntmps88
    go_wp2_with (go_at_call 137; refine (small_any c _).mono ?_; rintro e w' ⟨rfl, rfl⟩)
    go_ret
    exact ⟨ret_bool (by rw [hL.out, Bool.eq_iff_iff]; simp; try omega), rfl⟩
  · go_enter Tryd.func88, Tryd.ntmps88
    go_wp2_with (go_at_call 137; refine (small_any c _).mono ?_; rintro e w' ⟨rfl, rfl⟩)
    go_ret
    exact ⟨ret_bool (by rw [hL.out, Bool.eq_iff_iff]; simp; try omega), rfl⟩

set_option maxHeartbeats 1000000 in
theorem digit_any (c : UInt8) (w : World) :
    Calls Tryd.prog 136 #[.int .u8 c.toNat] w fun e w' => e = .returned (.bool (Wh.digit c)) ∧ w' = w := by
  have hs := c.toNat_lt
  by_cases h1 : 48 ≤ c.toNat
  · go_enter Tryd.func136, Tryd.ntmps136
    go_wp2
    go_ret
    exact ⟨ret_bool (by unfold Wh.digit; rw [Bool.eq_iff_iff]; simp; try omega), rfl⟩
  · go_enter Tryd.func136, Tryd.ntmps136
    go_wp2
    go_ret
    exact ⟨ret_bool (by unfold Wh.digit; rw [Bool.eq_iff_iff]; simp; try omega), rfl⟩

set_option maxHeartbeats 1000000 in
theorem alnum_any (c : UInt8) (w : World) :
    Calls Tryd.prog 47 #[.int .u8 c.toNat] w fun e w' => e = .returned (.bool (Wh.digit c || Wh.letter c)) ∧ w' = w := by
  have hs := c.toNat_lt
  have hL := Lib.hid (Wh.letter_eq c)
  go_enter Tryd.func47, Tryd.ntmps47
  go_wp2
  all_goals go_ret
  all_goals refine ⟨ret_bool ?_, rfl⟩
  all_goals rw [hL.out]
  all_goals unfold Wh.digit
  all_goals rw [Bool.eq_iff_iff]
  all_goals simp
  all_goals omega
end Go.Proofs.YtjfnkkpmmebnfaaDoor
