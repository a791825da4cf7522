/-
  plan.uses, readStep.
-/
import Derived.Test.YtfenmeacimfiaaaGreatDoorPw3
import Derived.Test.YtfenmeacimfiaaaGreatDoorPl3
namespace Go.Proofs.YtfenmeacimfiaaaGreatDoor
open Go.RowKit

/-- A step in memory. -/
structure PStep where
  kind : Nat
  path : ByteArray
  dst : ByteArray
  size : Int
  time : Int
def PStep.l (s : PStep) : Wh.StepL := ⟨s.kind, s.path.data.toList, s.dst.data.toList, s.size, s.time⟩
def stepArr (s : PStep) : Array Value := #[.int .i64 s.kind, .string s.path, .string s.dst, .int .i64 s.size, .int .i64 s.time]

theorem BoxIs.setAt {w : World} {b : Nat} {vs : Array Value} {t : TypeId} (h : BoxIs w b vs t) (j : Nat) (x : Value) : BoxIs (w.setCell ⟨b, j, none⟩ x) b (vs.setIfInBounds j x) t := by
  unfold BoxIs at *
  simp [World.setCell, Array.getElem?_modify, h]

set_option maxHeartbeats 2000000 in
theorem uses_any (k : Nat) (w : World) (hk : k ≤ 10) :
    Calls Tryz.prog 144 #[.int .i64 k] w fun e w' => e = .returned (.tuple #[.bool (k == 2 || k == 3), .bool (k == 4 || k == 5), .bool (k == 4 || k == 5 || k == 6)]) ∧ w' = w := by
  match k, hk with
  | 0, _ | 1, _ | 2, _ | 3, _ | 4, _ | 5, _ | 6, _ | 7, _ | 8, _ | 9, _ | 10, _ =>
    go_enter Tryz.func144, Tryz.ntmps144
    go_wp2_with fail
    go_ret3
    exact ⟨rfl, rfl⟩
  | n + 11, h => omega

theorem BoxIs.other {w : World} {b g : Nat} {vs : Array Value} {t : TypeId} (h : BoxIs w b vs t) (hne : b ≠ g) (i : Nat) (v : Value) : BoxIs (w.setCell ⟨g, i, none⟩ v) b vs t := by
  unfold BoxIs
  rw [Below.heap_setCell _ _ _ _ (fun e => hne e)]
  exact h
theorem Aside.setNew {b g : Nat} {w w' : World} (h : Aside b w w') (hg : w.heap.size ≤ g) (i : Nat) (v : Value) : Aside b w (w'.setCell ⟨g, i, none⟩ v) :=
  ⟨h.os, h.tape, h.output, by simp [World.setCell]; exact h.size, fun k hk hb => (Below.heap_setCell _ _ _ _ (fun e => by have e : k = g := e; omega)).trans (h.block k hk hb)⟩
theorem inI0 : Wh.inI 0 := ⟨by decide, by decide⟩
abbrev stepTy : TypeId := 154

/-- The words of a step so far: the reader's box, the step's box, the result's box. -/
def StepAt (w : World) (b : Nat) (W : World) (rest : ByteArray) (bad : Bool) (vs : Array Value) : Prop :=
  WordsIs W b rest bad ∧ BoxIs W w.heap.size #[.int .i64 0, .string ⟨#[]⟩, .string ⟨#[]⟩, .int .i64 0, .int .i64 0] stepTy ∧ BoxIs W (w.heap.size + 1) vs stepTy ∧ Aside b w W ∧ w.heap.size + 2 ≤ W.heap.size
theorem StepAt.move {w W W' : World} {b : Nat} {rest rest' : ByteArray} {bad bad' : Bool} {vs : Array Value} (h : StepAt w b W rest bad vs) (hb : b < w.heap.size) (hw : WordsIs W' b rest' bad') (ha : Aside b W W') : StepAt w b W' rest' bad' vs :=
  ⟨hw, h.2.1.aside ha (by omega), h.2.2.1.aside ha (by omega), h.2.2.2.1.trans ha, Nat.le_trans h.2.2.2.2 ha.size⟩
theorem StepAt.store {w W : World} {b : Nat} {rest : ByteArray} {bad : Bool} {vs : Array Value} (h : StepAt w b W rest bad vs) (hb : b < w.heap.size) (j : Nat) (x : Value) : StepAt w b (W.setCell ⟨w.heap.size + 1, j, none⟩ x) rest bad (vs.setIfInBounds j x) :=
  ⟨BoxIs.other h.1 (by omega) _ _, h.2.1.other (by omega) _ _, h.2.2.1.setAt j x, h.2.2.2.1.setNew (by omega) _ _, by simp [World.setCell]; exact h.2.2.2.2⟩

theorem StepAt.fin {w W : World} {b : Nat} {rest : ByteArray} {bad : Bool} {u0 u1 u2 u3 u4 : Value} (h : StepAt w b W rest bad #[u0, u1, u2, u3, u4]) (hb : b < w.heap.size) :
    WordsIs (((((W.setCell ⟨w.heap.size, 0, none⟩ u0).setCell ⟨w.heap.size, 1, none⟩ u1).setCell ⟨w.heap.size, 2, none⟩ u2).setCell ⟨w.heap.size, 3, none⟩ u3).setCell ⟨w.heap.size, 4, none⟩ u4) b rest bad ∧
    BoxIs (((((W.setCell ⟨w.heap.size, 0, none⟩ u0).setCell ⟨w.heap.size, 1, none⟩ u1).setCell ⟨w.heap.size, 2, none⟩ u2).setCell ⟨w.heap.size, 3, none⟩ u3).setCell ⟨w.heap.size, 4, none⟩ u4) w.heap.size #[u0, u1, u2, u3, u4] stepTy ∧
    Aside b w (((((W.setCell ⟨w.heap.size, 0, none⟩ u0).setCell ⟨w.heap.size, 1, none⟩ u1).setCell ⟨w.heap.size, 2, none⟩ u2).setCell ⟨w.heap.size, 3, none⟩ u3).setCell ⟨w.heap.size, 4, none⟩ u4) := by
  have hne : b ≠ w.heap.size := by omega
  have hle := Nat.le_refl w.heap.size
  exact ⟨BoxIs.other (BoxIs.other (BoxIs.other (BoxIs.other (BoxIs.other h.1 hne _ _) hne _ _) hne _ _) hne _ _) hne _ _, ((((h.2.1.setAt 0 u0).setAt 1 u1).setAt 2 u2).setAt 3 u3).setAt 4 u4,
    ((((h.2.2.2.1.setNew hle _ _).setNew hle _ _).setNew hle _ _).setNew hle _ _).setNew hle _ _⟩

/-- What readStep returns. -/
def StepPost (b k : Nat) (rest : ByteArray) (bad : Bool) (w : World) (e : Ending) (w' : World) : Prop :=
  ∃ (s : PStep) (r : ByteArray) (bad' : Bool), e = .returned (.agg (stepArr s)) ∧ WordsIs w' b r bad' ∧ Aside b w w' ∧ s.kind = k ∧ s.l.fits ∧ Wh.inI s.size ∧ Wh.inI s.time ∧ Wh.StepR k rest.data.toList bad s.l r.data.toList bad'

set_option maxHeartbeats 4000000 in
set_option maxRecDepth 100000 in
theorem readStep_any (w0 : World) (b k : Nat) (rest : ByteArray) (bad : Bool) (w : World) (hc : Ctx w0 b w) (h : WordsIs w b rest bad) (hs : rest.size ≤ 2000000) (hk1 : 1 ≤ k) (hk : k ≤ 10) :
    Calls Tryz.prog 75 #[.pointer (some ⟨b, 0, none⟩), .int .i64 k] w (StepPost b k rest bad w) := by
  have HU := Lib.hid (fun W => uses_any k W hk)
  have HCt := Lib.hid hc
  have H := Lib.hid h
  have hbz := h.lt
  clear h hc
  go_enter Tryz.func75, Tryz.ntmps75
  go_upto_region 3 with (go_at_call 144; refine (HU.out _).mono ?_; rintro e w1 ⟨rfl, hw1⟩; subst w1)
  have HA : Hid (StepAt w b ((w.alloc (.cells #[.int .i64 0, .string ⟨#[]⟩, .string ⟨#[]⟩, .int .i64 0, .int .i64 0] stepTy)).alloc (.cells #[.int .i64 k, .string ⟨#[]⟩, .string ⟨#[]⟩, .int .i64 0, .int .i64 0] stepTy)) rest bad #[.int .i64 k, .string ⟨#[]⟩, .string ⟨#[]⟩, .int .i64 0, .int .i64 0]) := Lib.hid (by
    have hb1 := bAlloc (bAlloc (Below.refl w.heap.size w) (.cells #[.int .i64 0, .string ⟨#[]⟩, .string ⟨#[]⟩, .int .i64 0, .int .i64 0] stepTy)) (.cells #[.int .i64 k, .string ⟨#[]⟩, .string ⟨#[]⟩, .int .i64 0, .int .i64 0] stepTy)
    have h2 := BoxIs.new (w.alloc (.cells #[.int .i64 0, .string ⟨#[]⟩, .string ⟨#[]⟩, .int .i64 0, .int .i64 0] stepTy)) #[.int .i64 k, .string ⟨#[]⟩, .string ⟨#[]⟩, .int .i64 0, .int .i64 0] stepTy
    have hz : (w.alloc (.cells #[.int .i64 0, .string ⟨#[]⟩, .string ⟨#[]⟩, .int .i64 0, .int .i64 0] stepTy)).heap.size = w.heap.size + 1 := by simp
    rw [hz] at h2
    exact ⟨BoxIs.under H.out hb1, (BoxIs.new w _ _).under (bAlloc (Below.refl _ _) _), h2, Aside.of hb1, by simp⟩)
  generalize (w.alloc _).alloc _ = w1 at *
  have HN := Lib.hid (fun W r bd hc hw hs => number_any w0 b r bd W hc hw hs)
  have HP := Lib.hid (fun W r bd hc hw hs => path_any w0 b r bd W hc hw hs)
  have HX := Lib.hid (fun W r bd hw => next_any b r bd W hw)
  cases k1 : (k == 2 || k == 3) <;> cases k2 : (k == 4 || k == 5) <;> cases k3 : (k == 6)
  case' true.true.true | true.true.false => exfalso; simp at k1 k2; omega
  case' true.false.true => exfalso; simp at k1 k3; omega
  case' false.true.true => exfalso; simp at k2 k3; omega
  case false.true.false =>
    have K1 := Lib.hid k1
    have K2 := Lib.hid k2
    have K3 := Lib.hid k3
    clear k1 k2 k3
    simp only [Bool.true_or, Bool.false_or, Bool.or_false]
    go_upto_region 5 with (go_at_call 24; refine (HN.out _ rest bad (HCt.out.aside HA.out.2.2.2.1) HA.out.1 (by omega)).mono ?_; rintro e w2 ⟨v, r1, bad1, rfl, hw2, ha2, hr1, v0, v1, hq1, hq2⟩; have HQ1 : Hid (Wh.NumR rest.data.toList bad v r1.data.toList bad1) := Lib.hid ⟨hq1, fun hb u q hu => hq2 hb u q hu.1 hu.2⟩; have HB1 := Lib.hid (HA.out.move hbz hw2 ha2); clear hq1 hq2 hw2 ha2; have c2 := HB1.out.2.2.1.cell (j := 3) rfl; have f2 := Lib.frozen_of_heap HB1.out.2.2.1 3)
    have HC1 : Hid (StepAt w b (w2.setCell ⟨w.heap.size + 1, 3, none⟩ (.int .i64 v)) r1 bad1 #[.int .i64 k, .string ⟨#[]⟩, .string ⟨#[]⟩, .int .i64 v, .int .i64 0]) := Lib.hid (HB1.out.store hbz 3 (.int .i64 v))
    generalize w2.setCell _ _ = w2x at *
    clear c2 f2 HB1
    go_upto_region 7 with (go_at_call 24; refine (HN.out _ r1 bad1 (HCt.out.aside HC1.out.2.2.2.1) HC1.out.1 (by omega)).mono ?_; rintro e w4 ⟨m, r2, bad2, rfl, hw2, ha2, hr2, m0, m1, hq1, hq2⟩; have HQ2 : Hid (Wh.NumR r1.data.toList bad1 m r2.data.toList bad2) := Lib.hid ⟨hq1, fun hb u q hu => hq2 hb u q hu.1 hu.2⟩; have HB2 := Lib.hid (HC1.out.move hbz hw2 ha2); clear hq1 hq2 hw2 ha2; have c2 := HB2.out.2.2.1.cell (j := 4) rfl; have f2 := Lib.frozen_of_heap HB2.out.2.2.1 4)
    have HC2 : Hid (StepAt w b (w4.setCell ⟨w.heap.size + 1, 4, none⟩ (.int .i64 m)) r2 bad2 #[.int .i64 k, .string ⟨#[]⟩, .string ⟨#[]⟩, .int .i64 v, .int .i64 m]) := Lib.hid (HB2.out.store hbz 4 (.int .i64 m))
    generalize w4.setCell _ _ = w4x at *
    clear c2 f2 HB2
    go_upto_region 8 with (go_at_call 74; refine (HP.out _ r2 bad2 (HCt.out.aside HC2.out.2.2.2.1) HC2.out.1 (by omega)).mono ?_; rintro e w6 ⟨p, r3, bad3, rfl, hw2, ha2, hr3, hp3, hq1, hq2⟩; have HQ3 : Hid (Wh.PathR r2.data.toList bad2 p.data.toList r3.data.toList bad3) := Lib.hid ⟨hq1, hq2⟩; have HB3 := Lib.hid (HC2.out.move hbz hw2 ha2); clear hq1 hq2 hw2 ha2; have c2 := HB3.out.2.2.1.cell (j := 1) rfl; have f2 := Lib.frozen_of_heap HB3.out.2.2.1 1)
    have HC3 : Hid (StepAt w b (w6.setCell ⟨w.heap.size + 1, 1, none⟩ (.string p)) r3 bad3 #[.int .i64 k, .string p, .string ⟨#[]⟩, .int .i64 v, .int .i64 m]) := Lib.hid (HB3.out.store hbz 1 (.string p))
    generalize w6.setCell _ _ = w6x at *
    clear c2 f2 HB3
    have d0 := HC3.out.2.2.1.cell (j := 0) rfl
    have d1 := HC3.out.2.2.1.cell (j := 1) rfl
    have d2 := HC3.out.2.2.1.cell (j := 2) rfl
    have d3 := HC3.out.2.2.1.cell (j := 3) rfl
    have d4 := HC3.out.2.2.1.cell (j := 4) rfl
    have e0 := HC3.out.2.1.cell (j := 0) rfl
    have e1 := HC3.out.2.1.cell (j := 1) rfl
    have e2 := HC3.out.2.1.cell (j := 2) rfl
    have e3 := HC3.out.2.1.cell (j := 3) rfl
    have e4 := HC3.out.2.1.cell (j := 4) rfl
    have g0 := Lib.frozen_of_heap HC3.out.2.1 0
    have g1 := Lib.frozen_of_heap HC3.out.2.1 1
    have g2 := Lib.frozen_of_heap HC3.out.2.1 2
    have g3 := Lib.frozen_of_heap HC3.out.2.1 3
    have g4 := Lib.frozen_of_heap HC3.out.2.1 4
    have HFn := Lib.hid (HC3.out.fin hbz)
    go_wp2_with fail
    clear d0 d1 d2 d3 d4 e0 e1 e2 e3 e4 g0 g1 g2 g3 g4
    generalize (((((w6x.setCell _ _).setCell _ _).setCell _ _).setCell _ _).setCell _ _) = wf at *
    have d0 := HFn.out.2.1.cell (j := 0) rfl
    have d1 := HFn.out.2.1.cell (j := 1) rfl
    have d2 := HFn.out.2.1.cell (j := 2) rfl
    have d3 := HFn.out.2.1.cell (j := 3) rfl
    have d4 := HFn.out.2.1.cell (j := 4) rfl
    refine bodyPost_ret (v := .agg #[.int .i64 k, .string p, .string ⟨#[]⟩, .int .i64 v, .int .i64 m]) ?_ rfl ⟨⟨k, p, ⟨#[]⟩, v, m⟩, r3, bad3, rfl, HFn.out.1, HFn.out.2.2, rfl, ?_, ?_, ?_, ?_⟩
    · simp [results, Tryz.f75]
      go_simp
    · exact ⟨hk1, hk, fun h => (by rfl), fun h => absurd h (by show ¬ (k == 4 || k == 5) = false; rw [K2.out]; decide), fun h => absurd h (by show ¬ ((k == 4 || k == 5) || k == 6) = false; rw [K2.out, K3.out]; decide)⟩
    · exact ⟨v0, v1⟩
    · exact ⟨m0, m1⟩
    · exact Wh.stepR_two K1.out K2.out HQ1.out HQ2.out HQ3.out

  case false.false.true =>
    have K1 := Lib.hid k1
    have K2 := Lib.hid k2
    have K3 := Lib.hid k3
    clear k1 k2 k3
    simp only [Bool.true_or, Bool.false_or, Bool.or_false]
    go_upto_region 7 with (go_at_call 24; refine (HN.out _ rest bad (HCt.out.aside HA.out.2.2.2.1) HA.out.1 (by omega)).mono ?_; rintro e w4 ⟨m, r2, bad2, rfl, hw2, ha2, hr2, m0, m1, hq1, hq2⟩; have HQ2 : Hid (Wh.NumR rest.data.toList bad m r2.data.toList bad2) := Lib.hid ⟨hq1, fun hb u q hu => hq2 hb u q hu.1 hu.2⟩; have HB2 := Lib.hid (HA.out.move hbz hw2 ha2); clear hq1 hq2 hw2 ha2; have c2 := HB2.out.2.2.1.cell (j := 4) rfl; have f2 := Lib.frozen_of_heap HB2.out.2.2.1 4)
    have HC2 : Hid (StepAt w b (w4.setCell ⟨w.heap.size + 1, 4, none⟩ (.int .i64 m)) r2 bad2 #[.int .i64 k, .string ⟨#[]⟩, .string ⟨#[]⟩, .int .i64 0, .int .i64 m]) := Lib.hid (HB2.out.store hbz 4 (.int .i64 m))
    generalize w4.setCell _ _ = w4x at *
    clear c2 f2 HB2
    go_upto_region 8 with (go_at_call 74; refine (HP.out _ r2 bad2 (HCt.out.aside HC2.out.2.2.2.1) HC2.out.1 (by omega)).mono ?_; rintro e w6 ⟨p, r3, bad3, rfl, hw2, ha2, hr3, hp3, hq1, hq2⟩; have HQ3 : Hid (Wh.PathR r2.data.toList bad2 p.data.toList r3.data.toList bad3) := Lib.hid ⟨hq1, hq2⟩; have HB3 := Lib.hid (HC2.out.move hbz hw2 ha2); clear hq1 hq2 hw2 ha2; have c2 := HB3.out.2.2.1.cell (j := 1) rfl; have f2 := Lib.frozen_of_heap HB3.out.2.2.1 1)
    have HC3 : Hid (StepAt w b (w6.setCell ⟨w.heap.size + 1, 1, none⟩ (.string p)) r3 bad3 #[.int .i64 k, .string p, .string ⟨#[]⟩, .int .i64 0, .int .i64 m]) := Lib.hid (HB3.out.store hbz 1 (.string p))
    generalize w6.setCell _ _ = w6x at *
    clear c2 f2 HB3
    have d0 := HC3.out.2.2.1.cell (j := 0) rfl
    have d1 := HC3.out.2.2.1.cell (j := 1) rfl
    have d2 := HC3.out.2.2.1.cell (j := 2) rfl
    have d3 := HC3.out.2.2.1.cell (j := 3) rfl
    have d4 := HC3.out.2.2.1.cell (j := 4) rfl
    have e0 := HC3.out.2.1.cell (j := 0) rfl
    have e1 := HC3.out.2.1.cell (j := 1) rfl
    have e2 := HC3.out.2.1.cell (j := 2) rfl
    have e3 := HC3.out.2.1.cell (j := 3) rfl
    have e4 := HC3.out.2.1.cell (j := 4) rfl
    have g0 := Lib.frozen_of_heap HC3.out.2.1 0
    have g1 := Lib.frozen_of_heap HC3.out.2.1 1
    have g2 := Lib.frozen_of_heap HC3.out.2.1 2
    have g3 := Lib.frozen_of_heap HC3.out.2.1 3
    have g4 := Lib.frozen_of_heap HC3.out.2.1 4
    have HFn := Lib.hid (HC3.out.fin hbz)
    go_wp2_with fail
    clear d0 d1 d2 d3 d4 e0 e1 e2 e3 e4 g0 g1 g2 g3 g4
    generalize (((((w6x.setCell _ _).setCell _ _).setCell _ _).setCell _ _).setCell _ _) = wf at *
    have d0 := HFn.out.2.1.cell (j := 0) rfl
    have d1 := HFn.out.2.1.cell (j := 1) rfl
    have d2 := HFn.out.2.1.cell (j := 2) rfl
    have d3 := HFn.out.2.1.cell (j := 3) rfl
    have d4 := HFn.out.2.1.cell (j := 4) rfl
    refine bodyPost_ret (v := .agg #[.int .i64 k, .string p, .string ⟨#[]⟩, .int .i64 0, .int .i64 m]) ?_ rfl ⟨⟨k, p, ⟨#[]⟩, 0, m⟩, r3, bad3, rfl, HFn.out.1, HFn.out.2.2, rfl, ?_, ?_, ?_, ?_⟩
    · simp [results, Tryz.f75]
      go_simp
    · exact ⟨hk1, hk, fun h => (by rfl), fun h => (by rfl), fun h => absurd h (by show ¬ ((k == 4 || k == 5) || k == 6) = false; rw [K2.out, K3.out]; decide)⟩
    · exact inI0
    · exact ⟨m0, m1⟩
    · exact Wh.stepR_one K1.out K2.out K3.out HQ2.out HQ3.out

  case false.false.false =>
    have K1 := Lib.hid k1
    have K2 := Lib.hid k2
    have K3 := Lib.hid k3
    clear k1 k2 k3
    simp only [Bool.true_or, Bool.false_or, Bool.or_false]
    go_upto_region 8 with (go_at_call 74; refine (HP.out _ rest bad (HCt.out.aside HA.out.2.2.2.1) HA.out.1 (by omega)).mono ?_; rintro e w6 ⟨p, r3, bad3, rfl, hw2, ha2, hr3, hp3, hq1, hq2⟩; have HQ3 : Hid (Wh.PathR rest.data.toList bad p.data.toList r3.data.toList bad3) := Lib.hid ⟨hq1, hq2⟩; have HB3 := Lib.hid (HA.out.move hbz hw2 ha2); clear hq1 hq2 hw2 ha2; have c2 := HB3.out.2.2.1.cell (j := 1) rfl; have f2 := Lib.frozen_of_heap HB3.out.2.2.1 1)
    have HC3 : Hid (StepAt w b (w6.setCell ⟨w.heap.size + 1, 1, none⟩ (.string p)) r3 bad3 #[.int .i64 k, .string p, .string ⟨#[]⟩, .int .i64 0, .int .i64 0]) := Lib.hid (HB3.out.store hbz 1 (.string p))
    generalize w6.setCell _ _ = w6x at *
    clear c2 f2 HB3
    have d0 := HC3.out.2.2.1.cell (j := 0) rfl
    have d1 := HC3.out.2.2.1.cell (j := 1) rfl
    have d2 := HC3.out.2.2.1.cell (j := 2) rfl
    have d3 := HC3.out.2.2.1.cell (j := 3) rfl
    have d4 := HC3.out.2.2.1.cell (j := 4) rfl
    have e0 := HC3.out.2.1.cell (j := 0) rfl
    have e1 := HC3.out.2.1.cell (j := 1) rfl
    have e2 := HC3.out.2.1.cell (j := 2) rfl
    have e3 := HC3.out.2.1.cell (j := 3) rfl
    have e4 := HC3.out.2.1.cell (j := 4) rfl
    have g0 := Lib.frozen_of_heap HC3.out.2.1 0
    have g1 := Lib.frozen_of_heap HC3.out.2.1 1
    have g2 := Lib.frozen_of_heap HC3.out.2.1 2
    have g3 := Lib.frozen_of_heap HC3.out.2.1 3
    have g4 := Lib.frozen_of_heap HC3.out.2.1 4
    have HFn := Lib.hid (HC3.out.fin hbz)
    go_wp2_with fail
    clear d0 d1 d2 d3 d4 e0 e1 e2 e3 e4 g0 g1 g2 g3 g4
    generalize (((((w6x.setCell _ _).setCell _ _).setCell _ _).setCell _ _).setCell _ _) = wf at *
    have d0 := HFn.out.2.1.cell (j := 0) rfl
    have d1 := HFn.out.2.1.cell (j := 1) rfl
    have d2 := HFn.out.2.1.cell (j := 2) rfl
    have d3 := HFn.out.2.1.cell (j := 3) rfl
    have d4 := HFn.out.2.1.cell (j := 4) rfl
    refine bodyPost_ret (v := .agg #[.int .i64 k, .string p, .string ⟨#[]⟩, .int .i64 0, .int .i64 0]) ?_ rfl ⟨⟨k, p, ⟨#[]⟩, 0, 0⟩, r3, bad3, rfl, HFn.out.1, HFn.out.2.2, rfl, ?_, ?_, ?_, ?_⟩
    · simp [results, Tryz.f75]
      go_simp
    · exact ⟨hk1, hk, fun h => (by rfl), fun h => (by rfl), fun h => (by rfl)⟩
    · exact inI0
    · exact inI0
    · exact Wh.stepR_none K1.out K2.out K3.out HQ3.out

  case true.false.false =>
    have K1 := Lib.hid k1
    have K2 := Lib.hid k2
    have K3 := Lib.hid k3
    clear k1 k2 k3
    simp only [Bool.true_or, Bool.false_or, Bool.or_false]
    go_upto_region 8 with (go_at_call 74; refine (HP.out _ rest bad (HCt.out.aside HA.out.2.2.2.1) HA.out.1 (by omega)).mono ?_; rintro e w6 ⟨p, r3, bad3, rfl, hw2, ha2, hr3, hp3, hq1, hq2⟩; have HQ3 : Hid (Wh.PathR rest.data.toList bad p.data.toList r3.data.toList bad3) := Lib.hid ⟨hq1, hq2⟩; have HB3 := Lib.hid (HA.out.move hbz hw2 ha2); clear hq1 hq2 hw2 ha2; have c2 := HB3.out.2.2.1.cell (j := 1) rfl; have f2 := Lib.frozen_of_heap HB3.out.2.2.1 1)
    have HC3 : Hid (StepAt w b (w6.setCell ⟨w.heap.size + 1, 1, none⟩ (.string p)) r3 bad3 #[.int .i64 k, .string p, .string ⟨#[]⟩, .int .i64 0, .int .i64 0]) := Lib.hid (HB3.out.store hbz 1 (.string p))
    generalize w6.setCell _ _ = w6x at *
    clear c2 f2 HB3
    go_upto_region 10 with (go_at_call 145; refine (HX.out _ r3 bad3 HC3.out.1).mono ?_; rintro e w7 ⟨r4, bad4, rfl, hw2, ha2, hr4, hq1, hq2⟩; have HQ4 : Hid (Wh.NextR r3.data.toList bad3 r4.data.toList bad4) := Lib.hid ⟨hq1, hq2⟩; have HC4 := Lib.hid (HC3.out.move hbz hw2 ha2); clear hq1 hq2 hw2 ha2)
    go_upto_region 11 with (go_at_call 74; refine (HP.out _ r4 bad4 (HCt.out.aside HC4.out.2.2.2.1) HC4.out.1 (by omega)).mono ?_; rintro e w8 ⟨o, r5, bad5, rfl, hw2, ha2, hr5, hp5, hq1, hq2⟩; have HQ5 : Hid (Wh.PathR r4.data.toList bad4 o.data.toList r5.data.toList bad5) := Lib.hid ⟨hq1, hq2⟩; have HB5 := Lib.hid (HC4.out.move hbz hw2 ha2); clear hq1 hq2 hw2 ha2; have c2 := HB5.out.2.2.1.cell (j := 2) rfl; have f2 := Lib.frozen_of_heap HB5.out.2.2.1 2)
    have HC5 : Hid (StepAt w b (w8.setCell ⟨w.heap.size + 1, 2, none⟩ (.string o)) r5 bad5 #[.int .i64 k, .string p, .string o, .int .i64 0, .int .i64 0]) := Lib.hid (HB5.out.store hbz 2 (.string o))
    generalize w8.setCell _ _ = w8x at *
    clear c2 f2 HB5
    have d0 := HC5.out.2.2.1.cell (j := 0) rfl
    have d1 := HC5.out.2.2.1.cell (j := 1) rfl
    have d2 := HC5.out.2.2.1.cell (j := 2) rfl
    have d3 := HC5.out.2.2.1.cell (j := 3) rfl
    have d4 := HC5.out.2.2.1.cell (j := 4) rfl
    have e0 := HC5.out.2.1.cell (j := 0) rfl
    have e1 := HC5.out.2.1.cell (j := 1) rfl
    have e2 := HC5.out.2.1.cell (j := 2) rfl
    have e3 := HC5.out.2.1.cell (j := 3) rfl
    have e4 := HC5.out.2.1.cell (j := 4) rfl
    have g0 := Lib.frozen_of_heap HC5.out.2.1 0
    have g1 := Lib.frozen_of_heap HC5.out.2.1 1
    have g2 := Lib.frozen_of_heap HC5.out.2.1 2
    have g3 := Lib.frozen_of_heap HC5.out.2.1 3
    have g4 := Lib.frozen_of_heap HC5.out.2.1 4
    have HFn := Lib.hid (HC5.out.fin hbz)
    go_wp2_with fail
    clear d0 d1 d2 d3 d4 e0 e1 e2 e3 e4 g0 g1 g2 g3 g4
    generalize (((((w8x.setCell _ _).setCell _ _).setCell _ _).setCell _ _).setCell _ _) = wf at *
    have d0 := HFn.out.2.1.cell (j := 0) rfl
    have d1 := HFn.out.2.1.cell (j := 1) rfl
    have d2 := HFn.out.2.1.cell (j := 2) rfl
    have d3 := HFn.out.2.1.cell (j := 3) rfl
    have d4 := HFn.out.2.1.cell (j := 4) rfl
    refine bodyPost_ret (v := .agg #[.int .i64 k, .string p, .string o, .int .i64 0, .int .i64 0]) ?_ rfl ⟨⟨k, p, o, 0, 0⟩, r5, bad5, rfl, HFn.out.1, HFn.out.2.2, rfl, ?_, ?_, ?_, ?_⟩
    · simp [results, Tryz.f75]
      go_simp
    · exact ⟨hk1, hk, fun h => absurd h (by show ¬ (k == 2 || k == 3) = false; rw [K1.out]; decide), fun h => (by rfl), fun h => (by rfl)⟩
    · exact inI0
    · exact inI0
    · exact Wh.stepR_to K1.out K2.out K3.out HQ3.out HQ4.out HQ5.out

end Go.Proofs.YtfenmeacimfiaaaGreatDoor
