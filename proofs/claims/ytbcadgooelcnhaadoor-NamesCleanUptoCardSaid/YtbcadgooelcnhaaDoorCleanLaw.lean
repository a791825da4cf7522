/-
  The law NamesClean, walked.
-/
import Derived.Test.YtbcadgooelcnhaaDoorRefClean
import Derived.Test.YtbcadgooelcnhaaDoorPlainClean2
namespace Go.Proofs.YtbcadgooelcnhaaDoor
open Go.RowKit

set_option maxHeartbeats 2000000 in
theorem namesClean_walk (s : ByteArray) (w : World) (hE : Env w) (hs : s.size ≤ 1048576) :
    Calls Tryd.prog 9 #[.string s] w fun e w' => e = .returned (.bool true) ∧ Below w.heap.size w w' := by
  obtain ⟨c1, c2, c3⟩ := Wh.clean_again s
  have hz := Wh.path_size c3
  have H1 := Lib.hid (fun W hW => clean_any s W hW hs)
  have H2 := Lib.hid (fun W hW => refClean_any s W hW hs)
  have H3 := fun W hW => clean_any (Wh.cleanText s) W hW (by omega)
  have H4 := fun W hW => refIsPath_any (Wh.cleanText s) W hW (by omega)
  rw [c1, c2] at H3
  rw [c3] at H4
  have H3 := Lib.hid H3
  have H4 := Lib.hid H4
  clear c1 c2 c3 hz
  have HE := Lib.hid hE
  clear hE
  generalize Wh.cleanText s = S at *
  generalize Wh.cleanErr s = E at *
  go_enter Tryd.func9, Tryd.ntmps9
  go_wp2_with fail
  refine (landed_any w HE.out).mono ?_
  rintro e w1 ⟨rfl, hb1⟩
  go_wp2_with fail
  refine (H1.out _ (HE.out.under hb1)).mono ?_
  rintro e w2 ⟨rfl, hb2⟩
  have hbb := bTrans hb1 hb2
  clear hb1 hb2
  go_wp2_with fail
  refine (H2.out _ (HE.out.under hbb)).mono ?_
  rintro e w3 ⟨rfl, hb3⟩
  have hbb := bTrans hbb hb3
  clear hb3
  go_wp2_with fail
  refine (H3.out _ (HE.out.under hbb)).mono ?_
  rintro e w4 ⟨rfl, hb4⟩
  have hbb := bTrans hbb hb4
  clear hb4
  go_wp2_with fail
  refine (H4.out _ (HE.out.under hbb)).mono ?_
  rintro e w5 ⟨rfl, hb5⟩
  have hbb := bTrans hbb hb5
  clear hb5
  go_wp2_with fail
  go_ret
  exact ⟨ret_bool (by simp), hbb⟩
end Go.Proofs.YtbcadgooelcnhaaDoor
