/-
  The law SmallMatches, walked: the cases in which nothing is asked, and all of them together.
-/
import Derived.Test.YtbcadgooelcnhaaDoorSmall7
namespace Go.Proofs.YtbcadgooelcnhaaDoor
open Go.RowKit

set_option maxHeartbeats 2000000 in
set_option maxRecDepth 100000 in
theorem smallMatches_off (f h : Wh.Feat) (a b : Int) (s t : ByteArray) (w : World) (hE : Env w) (hf : FeatOk f) (hh : FeatOk h)
    (hoff : Wh.featErr f = 0 → Wh.featErr h = 0 → 0 ≤ a → 0 ≤ b → False) :
    Calls Tryd.prog 7 #[featVal f, featVal h, .int .i64 a, .int .i64 b, .string s, .string t] w fun e w' => e = .returned (.bool true) ∧ Below w.heap.size w w' := by
  have HRf := Lib.hid (fun W => rightFeat_any f hf W)
  have HRh := Lib.hid (fun W => rightFeat_any h hh W)
  have HE := Lib.hid hE
  have hX1 := (featBox_new w f).under (bAlloc (Below.refl _ _) (featObj h))
  have hX2 := featBox_new (w.alloc (featObj f)) h
  have hbw : Below w.heap.size w ((w.alloc (featObj f)).alloc (featObj h)) := bAlloc (bAlloc (Below.refl _ _) _) _
  have hz : (w.alloc (featObj f)).heap.size = w.heap.size + 1 := by simp
  rw [hz] at hX2
  have HL := Lib.hid (fun W (hb : Below w.heap.size w W) => landed_any W (HE.out.under hb))
  clear hz hE hf hh HE
  have HO := Lib.hid hoff
  clear hoff
  have hVF : Value.agg #[.int .i64 f.has, .int .i64 f.sums, .int .i64 f.prec, .int .i64 f.maxName, .int .i64 f.maxPath, .int .i64 f.maxSize, .int .i64 f.page, .int .i64 f.partSize, .string f.forbid] = featVal f := rfl
  have hVH : Value.agg #[.int .i64 h.has, .int .i64 h.sums, .int .i64 h.prec, .int .i64 h.maxName, .int .i64 h.maxPath, .int .i64 h.maxSize, .int .i64 h.page, .int .i64 h.partSize, .string h.forbid] = featVal h := rfl
  have HVF := Lib.hid hVF
  have HVH := Lib.hid hVH
  rw [← hVF, ← hVH]
  clear hVF hVH
  unfold featObj at *
  go_enter Tryd.func7, Tryd.ntmps7
  go_upto_region 1 with fail
  generalize (w.alloc _).alloc _ = w2 at *
  have hVF := HVF.out
  have hVH := HVH.out
  simp only [hVF, hVH]
  have HX1 := Lib.hid (fun W (hb : Below w2.heap.size w2 W) => hX1.under hb)
  have HX2 := Lib.hid (fun W (hb : Below w2.heap.size w2 W) => hX2.under hb)
  clear hX1 hX2
  go_wp2_with fail
  refine (HL.out _ hbw).mono ?_
  rintro e w3 ⟨rfl, hbb⟩
  obtain ⟨a0, a1, a2, a3, a4, a5, a6, a7, a8, a9⟩ := HX1.out _ hbb
  obtain ⟨b0, b1, b2, b3, b4, b5, b6, b7, b8, b9⟩ := HX2.out _ hbb
  go_wp2_with fail
  refine (HRf.out _).mono ?_
  rintro e w4 ⟨rfl, hb4⟩
  clear a0 a1 a2 a3 a4 a5 a6 a7 a8 a9 b0 b1 b2 b3 b4 b5 b6 b7 b8 b9
  replace hbb := bTrans hbb hb4
  clear hb4
  by_cases h1 : Wh.featErr f = 0
  · have q1 : (Wh.featErr f == 0) = true := by simp [h1]
    replace HO := Lib.hid (HO.out h1)
    clear h1
    rw [q1]
    clear q1
    obtain ⟨a0, a1, a2, a3, a4, a5, a6, a7, a8, a9⟩ := HX1.out _ hbb
    obtain ⟨b0, b1, b2, b3, b4, b5, b6, b7, b8, b9⟩ := HX2.out _ hbb
    go_wp2_with fail
    refine (HRh.out _).mono ?_
    rintro e w5 ⟨rfl, hb5⟩
    clear a0 a1 a2 a3 a4 a5 a6 a7 a8 a9 b0 b1 b2 b3 b4 b5 b6 b7 b8 b9
    replace hbb := bTrans hbb hb5
    clear hb5
    by_cases h2 : Wh.featErr h = 0
    · have q2 : (Wh.featErr h == 0) = true := by simp [h2]
      replace HO := Lib.hid (HO.out h2)
      clear h2
      rw [q2]
      clear q2
      by_cases h3 : a < 0
      · clear HO
        go_wp2_with fail
        go_ret
        exact ⟨rfl, bTrans hbw hbb⟩
      · have h4 : b < 0 := by
          have hx := HO.out (by omega)
          by_cases h5 : b < 0
          · exact h5
          · exact (hx (by omega)).elim
        clear HO
        go_wp2_with fail
        go_ret
        exact ⟨rfl, bTrans hbw hbb⟩
    · have q2 : (Wh.featErr h == 0) = false := by simp [h2]
      clear h2
      rw [q2]
      clear q2
      go_wp2_with fail
      go_ret
      exact ⟨rfl, bTrans hbw hbb⟩
  · have q1 : (Wh.featErr f == 0) = false := by simp [h1]
    clear h1
    rw [q1]
    clear q1
    go_wp2_with fail
    go_ret
    exact ⟨rfl, bTrans hbw hbb⟩

theorem smallMatches_walk (f h : Wh.Feat) (a b : Int) (s t : ByteArray) (w : World) (hE : Env w) (hf : FeatOk f) (hh : FeatOk h) (ha2 : a ≤ 9223372036854775807) (hb2 : b ≤ 9223372036854775807)
    (hs : s.size ≤ 140737488351232) (ht : t.size ≤ 9223372036854775807) :
    Calls Tryd.prog 7 #[featVal f, featVal h, .int .i64 a, .int .i64 b, .string s, .string t] w fun e w' => e = .returned (.bool true) ∧ Below w.heap.size w w' := by
  by_cases hc : Wh.featErr f = 0 ∧ Wh.featErr h = 0 ∧ 0 ≤ a ∧ 0 ≤ b
  · obtain ⟨h1, h2, ha, hb⟩ := hc
    cases hp : Wh.isPath s.data.toList
    · exact smallMatches_nopath f h a b s t w hE hf hh ha ha2 hb hb2 hs ht h1 h2 hp
    · exact smallMatches_path f h a b s t w hE hf hh ha ha2 hb hb2 hs ht h1 h2 hp
  · exact smallMatches_off f h a b s t w hE hf hh (fun h1 h2 ha hb => hc ⟨h1, h2, ha, hb⟩)
end Go.Proofs.YtbcadgooelcnhaaDoor
