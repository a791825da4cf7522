/-
  names.hasByte, letter, digit; the reference's alnum.
-/
import Derived.Test.YtfenmeacimfiaaaGreatDoorFold
import Derived.Test.YtfenmeacimfiaaaGreatDoorPlainEnc
namespace Go.Proofs.YtfenmeacimfiaaaGreatDoor
open Go.RowKit

set_option maxHeartbeats 1000000 in
theorem hasByte_any (s : ByteArray) (c : UInt8) (w : World) :
    Calls Tryz.prog 131 #[.string s, .int .u8 c.toNat] w fun e w' => e = .returned (.bool (s.data.toList.contains c)) ∧ w' = w := by
  have HC := Lib.hid (Lib.contains_iff_indexByte s.data.toList c)
  have hback : ((c.toNat : Int)).toNat.toUInt8 = c := by simp
  have HI := fun W => Tryz.strings_IndexByte s c.toNat W
  rw [hback] at HI
  have HI := Lib.hid HI
  clear hback
  go_enter Tryz.func131, Tryz.ntmps131
  go_wp2_with (go_at_call 113; refine (HI.out _).mono ?_; rintro e w' ⟨rfl, rfl⟩)
  go_ret
  exact ⟨ret_bool (by rw [HC.out]), rfl⟩

end Go.Proofs.YtfenmeacimfiaaaGreatDoor
