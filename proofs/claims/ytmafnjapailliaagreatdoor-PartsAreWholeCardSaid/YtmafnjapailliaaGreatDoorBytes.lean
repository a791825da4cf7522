/-
  names.hasByte, letter, digit; the reference's alnum.
-/
import Derived.Test.YtmafnjapailliaaGreatDoorFold
import Derived.Test.YtmafnjapailliaaGreatDoorPlainEnc
namespace Go.Proofs.YtmafnjapailliaaGreatDoor
open Go.RowKit

set_option maxHeartbeats 1000000 in
theorem alnum_any (c : UInt8) (w : World) :
    Calls Tryz.prog 71 #[.int .u8 c.toNat] w fun e w' => e = .returned (.bool (Wh.digit c || Wh.letter c)) ∧ w' = w := by
  have hs := c.toNat_lt
  have hL := Lib.hid (Wh.letter_eq c)
  go_enter Tryz.func71, Tryz.ntmps71
  go_wp2
  all_goals go_ret
  all_goals refine ⟨ret_bool ?_, rfl⟩
  all_goals rw [hL.out]
  all_goals unfold Wh.digit
  all_goals rw [Bool.eq_iff_iff]
  all_goals simp
  all_goals omega
end Go.Proofs.YtmafnjapailliaaGreatDoor
