/-
  The reference's namesOf, walked.
-/
import Derived.Test.YtbcadgooelcnhaaDoorParts
namespace Go.Proofs.YtbcadgooelcnhaaDoor
open Go.RowKit

set_option maxHeartbeats 1000000 in
theorem refNamesOf_any (s : ByteArray) (w : World) (hE : Env w) (hs : s.size < 4294967281) :
    Calls Tryd.prog 76 #[.string s] w (StrsPost (Wh.namesOf s) w) := by
  have HE := Lib.hid hE
  clear hE
  cases h0 : s.toList.isEmpty
  · have e1 : Wh.namesOf s = Wh.pieces 47 s := Wh.namesOf_some (by rw [← Lib.toList_data]; exact h0)
    rw [e1]
    clear e1
    go_enter Tryd.func76, Tryd.ntmps76
    go_wp2_with fail
    refine (split_one 47 s _ HE.out hs).mono ?_
    rintro e w' ⟨rfl, rfl⟩
    have hh := Lib.hid (holds_new w 9 (Wh.pieces 47 s))
    go_wp2_with fail
    go_ret
    exact ⟨_, _, rfl, Nat.le_refl _, hh.out, bAlloc (Below.refl _ _) _⟩
  · have e1 : Wh.namesOf s = [] := Wh.namesOf_none (by rw [← Lib.toList_data]; exact h0)
    rw [e1]
    clear e1
    go_enter Tryd.func76, Tryd.ntmps76
    go_wp2_with fail
    go_ret
    exact ⟨none, 0, rfl, Nat.le_refl _, .inl rfl, Below.refl _ _⟩
end Go.Proofs.YtbcadgooelcnhaaDoor
