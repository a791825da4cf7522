/-
  plan.SamePath, Partial, IsPartial and the reference's, walked; rightFeatures.
-/
import Derived.Test.YtbcadgooelcnhaaDoorSmall1
import Derived.Test.YtbcadgooelcnhaaDoorFold
import Derived.Deep.RegionHeld3
namespace Go.Proofs.YtbcadgooelcnhaaDoor
open Go.RowKit

/-- What same paths have in common. -/
def keyOf (f : Wh.Feat) (s : ByteArray) : ByteArray := if bits .and .i64 f.has 2 = 0 then ⟨(Wh.lower s.data.toList).toArray⟩ else s

set_option maxHeartbeats 1000000 in
set_option maxRecDepth 100000 in
theorem pathKey_any (f : Wh.Feat) (s : ByteArray) (w : World) (hs : s.size ≤ 9223372036854775807) :
    Calls Tryd.prog 72 #[featVal f, .string s] w fun e w' => e = .returned (.string (keyOf f s)) ∧ Below w.heap.size w w' := by
  have HF := Lib.hid (fun W => fold_any s W hs)
  have hK : keyOf f s = if bits .and .i64 f.has 2 = 0 then ⟨(Wh.lower s.data.toList).toArray⟩ else s := rfl
  have HB := Lib.hid (featBox_new w f)
  have hb1 : Below w.heap.size w (w.alloc (featObj f)) := bAlloc (Below.refl _ _) _
  by_cases hc : bits .and .i64 f.has 2 = 0
  · rw [if_pos hc] at hK
    have q : (bits BinOp.and IntKind.i64 f.has 2 == 0) = true := by simp [hc]
    have HK := Lib.hid hK
    clear hK hc
    generalize keyOf f s = K at *
    unfold featVal featObj at *
    go_enter Tryd.func72, Tryd.ntmps72
    go_upto_region 1 with fail
    generalize w.alloc _ = w1 at *
    obtain ⟨_, a1, _⟩ := HB.out
    go_wp2_with fail
    refine (HF.out _).mono ?_
    rintro e w' ⟨rfl, hb⟩
    go_wp2_with fail
    go_ret
    rw [HK.out]
    exact ⟨rfl, bTrans hb1 hb⟩
  · rw [if_neg hc] at hK
    have q : (bits BinOp.and IntKind.i64 f.has 2 == 0) = false := by simp [hc]
    have HK := Lib.hid hK
    clear hK hc
    generalize keyOf f s = K at *
    unfold featVal featObj at *
    go_enter Tryd.func72, Tryd.ntmps72
    go_upto_region 1 with fail
    generalize w.alloc _ = w1 at *
    obtain ⟨_, a1, _⟩ := HB.out
    go_wp2_with fail
    go_ret
    rw [HK.out]
    exact ⟨rfl, hb1⟩

/-- Are two paths the same in a store? -/
def sameP (f : Wh.Feat) (s t : ByteArray) : Bool := (keyOf f s).toList == (keyOf f t).toList

theorem bUndrew {w w' : World} {a : World} (h : Below a.heap.size a w) (h2 : w' = w.drew) : Below a.heap.size a w' := by
  subst h2
  exact ⟨h.os, h.tape, h.output, h.size, h.block⟩

set_option maxHeartbeats 2000000 in
set_option maxRecDepth 100000 in
theorem samePath_any (f : Wh.Feat) (s t : ByteArray) (w : World) (hs : s.size ≤ 9223372036854775807) (ht : t.size ≤ 9223372036854775807) :
    Calls Tryd.prog 30 #[featVal f, .string s, .string t] w fun e w' => e = .returned (.bool (sameP f s t)) ∧ Below w.heap.size w w' := by
  have H1 := Lib.hid (fun W => pathKey_any f s W hs)
  have H2 := Lib.hid (fun W => pathKey_any f t W ht)
  have HB := Lib.hid (featBox_new w f)
  have hb1 : Below w.heap.size w (w.alloc (featObj f)) := bAlloc (Below.refl _ _) _
  have hS : sameP f s t = ((keyOf f s).toList == (keyOf f t).toList) := rfl
  have HS := Lib.hid hS
  clear hS
  generalize sameP f s t = B at *
  generalize keyOf f s = K1 at *
  generalize keyOf f t = K2 at *
  unfold featVal featObj at *
  go_enter Tryd.func30, Tryd.ntmps30
  go_upto_region 1 with fail
  generalize w.alloc _ = w1 at *
  obtain ⟨k0, k1, k2, k3, k4, k5, k6, k7, k8, k9⟩ := HB.out
  have HX := Lib.hid (fun W (hb : Below w1.heap.size w1 W) => HB.out.under hb)
  go_region_held3 (fun w' => w'.cell? ⟨w.heap.size, 0, none⟩ = some (.int .i64 f.has) ∧ w'.cell? ⟨w.heap.size, 1, none⟩ = some (.int .i64 f.sums) ∧ w'.cell? ⟨w.heap.size, 2, none⟩ = some (.int .i64 f.prec) ∧ w'.cell? ⟨w.heap.size, 3, none⟩ = some (.int .i64 f.maxName) ∧ w'.cell? ⟨w.heap.size, 4, none⟩ = some (.int .i64 f.maxPath) ∧ w'.cell? ⟨w.heap.size, 5, none⟩ = some (.int .i64 f.maxSize) ∧ w'.cell? ⟨w.heap.size, 6, none⟩ = some (.int .i64 f.page) ∧ w'.cell? ⟨w.heap.size, 7, none⟩ = some (.int .i64 f.partSize) ∧ w'.cell? ⟨w.heap.size, 8, none⟩ = some (.string f.forbid))
    (first | go_keep | exact (HX.out _ hbA).2 | exact (HX.out _ (bTrans hbA (by assumption))).2)
    (first | (go_at_call_of 72 (Value.string s); refine (H1.out _).mono ?_; rintro e w2 ⟨rfl, hb2⟩; have hbA : Below w1.heap.size w1 w2 := ⟨hb2.os, hb2.tape, hb2.output, hb2.size, hb2.block⟩) | (go_at_call_of 72 (Value.string t); refine (H2.out _).mono ?_; rintro e w3 ⟨rfl, hb3⟩))
  all_goals go_wp2_with fail
  all_goals go_ret
  all_goals exact ⟨ret_bool (by rw [HS.out]), bTrans (bTrans hb1 hbA) hb3⟩
end Go.Proofs.YtbcadgooelcnhaaDoor
