/-
  names.hasByte, letter, digit; the reference's alnum.
-/
import Derived.Test.YtnpcbcnclncniaaDoorFold
import Derived.Test.YtnpcbcnclncniaaDoorPlainEnc
namespace Go.Proofs.YtnpcbcnclncniaaDoor
open Go.RowKit

set_option maxHeartbeats 1000000 in
theorem hasByte_any (s : ByteArray) (c : UInt8) (w : World) :
    Calls Tryd.prog 90 #[.string s, .int .u8 c.toNat] w fun e w' => e = .returned (.bool (s.data.toList.contains c)) ∧ w' = w := by
  have HC := Lib.hid (Lib.contains_iff_indexByte s.data.toList c)
  have hback : ((c.toNat : Int)).toNat.toUInt8 = c := by simp
  have HI := fun W => Tryd.strings_IndexByte s c.toNat W
  rw [hback] at HI
  have HI := Lib.hid HI
  clear hback
  go_enter Tryd.func90, Tryd.ntmps90
  go_wp2_with (go_at_call 45; refine (HI.out _).mono ?_; rintro e w' ⟨rfl, rfl⟩)
  go_ret
  exact ⟨ret_bool (by rw [HC.out]), rfl⟩

end Go.Proofs.YtnpcbcnclncniaaDoor
