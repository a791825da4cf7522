/-
  both.Decide.
-/
import Derived.Test.YtiliijiohmeagaaGreatDoorChg8
namespace Go.Proofs.YtiliijiohmeagaaGreatDoor
open Go.RowKit

set_option maxHeartbeats 4000000 in
theorem decide_any (a b : Int) (w : World) :
    Calls Tryz.prog 16 #[.int .i64 a, .int .i64 b] w fun e w' => e = .returned (.int .i64 (Wh.decT a b)) ∧ Below w.heap.size w w' := by
  by_cases h1 : a < 0
  · have HK := Lib.hid (dec_out (a := a) (b := b) (by omega))
    go_enter Tryz.func16, Tryz.ntmps16
    go_wp2_with fail
    go_ret
    exact ⟨ret_int HK.out.symm, Below.refl _ _⟩
  by_cases h2 : 3 < a
  · have HK := Lib.hid (dec_out (a := a) (b := b) (by omega))
    go_enter Tryz.func16, Tryz.ntmps16
    go_wp2_with fail
    go_ret
    exact ⟨ret_int HK.out.symm, Below.refl _ _⟩
  by_cases h3 : b < 0
  · have HK := Lib.hid (dec_out (a := a) (b := b) (by omega))
    go_enter Tryz.func16, Tryz.ntmps16
    go_wp2_with fail
    go_ret
    exact ⟨ret_int HK.out.symm, Below.refl _ _⟩
  by_cases h4 : 3 < b
  · have HK := Lib.hid (dec_out (a := a) (b := b) (by omega))
    go_enter Tryz.func16, Tryz.ntmps16
    go_wp2_with fail
    go_ret
    exact ⟨ret_int HK.out.symm, Below.refl _ _⟩
  rcases (by omega : a = 0 ∨ a = 1 ∨ a = 2 ∨ a = 3) with rfl | rfl | rfl | rfl <;> rcases (by omega : b = 0 ∨ b = 1 ∨ b = 2 ∨ b = 3) with rfl | rfl | rfl | rfl
  all_goals
    clear h1 h2 h3 h4
    go_enter Tryz.func16, Tryz.ntmps16
    go_wp2_with fail
    go_ret
    exact ⟨rfl, bAlloc (Below.refl _ _) _⟩

end Go.Proofs.YtiliijiohmeagaaGreatDoor
