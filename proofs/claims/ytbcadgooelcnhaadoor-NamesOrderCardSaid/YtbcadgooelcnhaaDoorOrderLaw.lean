/-
  The law NamesOrder, walked.
-/
import Derived.Test.YtbcadgooelcnhaaDoorOrder
namespace Go.Proofs.YtbcadgooelcnhaaDoor
open Go.RowKit

set_option maxHeartbeats 2000000 in
theorem namesOrder_walk (a b c : ByteArray) (w : World) (hE : Env w) (ha : a.size ≤ 9223372036854775807) (hb : b.size ≤ 9223372036854775807) (hc : c.size ≤ 9223372036854775807) :
    Calls Tryd.prog 6 #[.string a, .string b, .string c] w fun e w' => e = .returned (.bool true) ∧ Below w.heap.size w w' := by
  have HE := Lib.hid hE
  clear hE
  go_enter Tryd.func6, Tryd.ntmps6
  go_wp2_with fail
  refine (landed_any w HE.out).mono ?_
  rintro e w1 ⟨rfl, hb1⟩
  go_wp2_with fail
  refine (compare_any a b _ ha hb).mono ?_
  rintro e w2 ⟨rfl, hb2⟩
  go_wp2_with fail
  refine (compare_any b c _ hb hc).mono ?_
  rintro e w3 ⟨rfl, hb3⟩
  go_wp2_with fail
  refine (order_any a b _ ha hb).mono ?_
  rintro e w4 ⟨rfl, hb4⟩
  go_wp2_with fail
  refine (compare_any b a _ hb ha).mono ?_
  rintro e w5 ⟨rfl, hb5⟩
  have s1 := Wh.cmpL_swap a.data.toList b.data.toList
  have s2 := Wh.cmpL_zero a.data.toList b.data.toList
  have s3 := Wh.cmpL_trans a.data.toList b.data.toList c.data.toList
  have s4 := Wh.cmpL_bd a.data.toList b.data.toList
  rw [s1]
  have s5 : (Wh.cmpL a.data.toList b.data.toList == 0) = (a.toList == b.toList) := by
    rw [Lib.toList_data, Lib.toList_data, Bool.eq_iff_iff, beq_iff_eq, beq_iff_eq]
    exact s2
  have S5 := Lib.hid s5
  have S3 := Lib.hid s3
  clear s1 s2 s3 s5
  have hbb := bTrans (bTrans (bTrans (bTrans hb1 hb2) hb3) hb4) hb5
  clear hb1 hb2 hb3 hb4 hb5
  generalize Wh.cmpL a.data.toList b.data.toList = x at *
  generalize Wh.cmpL b.data.toList c.data.toList = y at *
  have s6 : (!(x == 0) == (a.toList == b.toList)) = false := by rw [S5.out]; simp
  by_cases c1 : 0 < x
  · go_wp2_with fail
    go_ret
    exact ⟨rfl, hbb⟩
  by_cases c2 : 0 < y
  · go_wp2_with fail
    go_ret
    exact ⟨rfl, hbb⟩
  · have c3 : Wh.cmpL a.data.toList c.data.toList ≤ 0 := S3.out (by omega) (by omega)
    have C3 := Lib.hid c3
    clear c3
    go_wp2_with fail
    refine (compare_any a c _ ha hc).mono ?_
    rintro e w6 ⟨rfl, hb6⟩
    go_wp2_with fail
    go_ret
    exact ⟨ret_bool (by have := C3.out; simp [this]), bTrans hbb hb6⟩
end Go.Proofs.YtbcadgooelcnhaaDoor
