/-
  plan.readLine.
-/
import Derived.Test.YtfenmeacimfiaaaGreatDoorPw5
import Derived.Test.YtfenmeacimfiaaaGreatDoorSeqV
namespace Go.Proofs.YtfenmeacimfiaaaGreatDoor
open Go.RowKit

theorem drB0 {B : Nat} {a b : World} (h : Below B a b) : Below B a b.drew := ⟨h.os, h.tape, h.output, h.size, h.block⟩
abbrev stepB (k : Nat) : ByteArray := ⟨(Wh.stepW.getD k []).toArray⟩
theorem stepB_list (k : Nat) : (stepB k).data.toList = Wh.stepW.getD k [] := by simp
/-- The program's table of the words of steps is as it is laid. -/
def EnvS (w : World) : Prop := ∀ k, k ≤ 10 → w.cell? ⟨0, k, none⟩ = some (.string (stepB k))
theorem EnvS.under {w w' : World} (h : EnvS w) (hb : Below w.heap.size w w') : EnvS w' := fun k hk => by
  rw [hb.cell (p := ⟨0, k, none⟩) (cell_lt (p := ⟨0, k, none⟩) (h k hk))]
  exact h k hk

/-- The plan's box and rows, with their addresses. -/
def PlanX (z : Nat) (W : World) (p : Nat) (S : List PStep) (R : List PRef) (same bytes : Int) (sa : Option Addr) (sc : Nat) (ra : Option Addr) (rc : Nat) : Prop :=
  BoxIs W p #[.slice sa S.length sc, .slice ra R.length rc, .int .i64 same, .int .i64 bytes] planTy ∧ OwnR stepTy 5 stepCells z W sa sc S ∧ OwnR refTy 2 refCells z W ra rc R
theorem PlanX.aside {z p b : Nat} {W W' : World} {S : List PStep} {R : List PRef} {same bytes : Int} {sa : Option Addr} {sc : Nat} {ra : Option Addr} {rc : Nat} {vs : Array Value} {t : TypeId} (h : PlanX z W p S R same bytes sa sc ra rc) (ha : Aside b W W') (hb : BoxIs W b vs t) (t1 : t ≠ planTy) (t2 : t ≠ stepTy) (t3 : t ≠ refTy) : PlanX z W' p S R same bytes sa sc ra rc := by
  obtain ⟨h1, h2, h3⟩ := h
  have key : ∀ (k : Nat) (c : Array Value) (ty : TypeId) (fz : Nat × Nat), W.heap[k]? = some (.cells c ty fz) → t ≠ ty → W'.heap[k]? = W.heap[k]? := fun k c ty fz hk hne => ha.block k (Array.getElem?_eq_some_iff.1 hk).1 (fun e => by
    subst e
    unfold BoxIs at hb
    rw [hk] at hb
    injection hb with hb
    injection hb with _ hb
    exact hne hb.symm)
  exact ⟨(key p _ _ _ h1 t1).trans h1, h2.keep (fun k _ _ _ hk => key k _ _ _ hk t2), h3.keep (fun k _ _ _ hk => key k _ _ _ hk t3)⟩

theorem okIff (b e : Bool) (l : List UInt8) (h : e = true ↔ l = []) : (!b && e) = true ↔ b = false ∧ l = [] := by
  rw [← h]
  cases b <;> cases e <;> decide

/-- What a line does to a plan. -/
def LineStep (S : List PStep) (R : List PRef) (line : List UInt8) (ok : Bool) (S' : List PStep) (R' : List PRef) : Prop :=
  (ok = true → (∃ s : PStep, Wh.StepLineL line s.l ∧ R = [] ∧ S' = S ++ [s] ∧ R' = R) ∨ (∃ x : PRef, Wh.RefLineL line x.err x.path.data.toList ∧ S' = S ∧ R' = R ++ [x])) ∧
  (ok = false → (∀ t, Wh.StepLineL line t → R ≠ []) ∧ ∀ u q, ¬ Wh.RefLineL line u q)
theorem lineStep_ref {S : List PStep} {R : List PRef} {line s r r3 : List UInt8} {b1 b3 ok : Bool} {x : PRef} (hs : s = Wh.refusedW) (hw1 : b1 = false → Wh.CutW line s r) (hw2 : ∀ v q, Wh.CutW line v q → b1 = false)
    (h : (b3 = false ∧ r3 = [] → Wh.RefLineL line x.err x.path.data.toList) ∧ (∀ u q, Wh.RefLineL line u q → b3 = false ∧ r3 = [])) (hok : (ok = true ↔ b3 = false ∧ r3 = [])) : LineStep S R line ok S (R ++ [x]) := by
  refine ⟨fun ho => .inr ⟨x, h.1 (hok.1 ho), rfl, rfl⟩, fun ho => ⟨fun t ht _ => ?_, fun u q hq => ?_⟩⟩
  · have h1 := Wh.first_of_step hw1 hw2 ht
    exact Wh.stepW_ref t.kind ht.1.2.1 (h1.symm.trans hs)
  · have := hok.2 (h.2 u q hq)
    rw [ho] at this
    cases this
theorem lineStep_step {S : List PStep} {line s r r3 : List UInt8} {b1 b3 ok : Bool} {k : Nat} {x : PStep} (hk : k ≤ 10) (hs : s = Wh.stepW.getD k []) (hw1 : b1 = false → Wh.CutW line s r) (hw2 : ∀ v q, Wh.CutW line v q → b1 = false)
    (h : (b3 = false ∧ r3 = [] → Wh.StepLineL line x.l) ∧ (∀ t, Wh.StepLineL line t → b3 = false ∧ r3 = [])) (hok : (ok = true ↔ b3 = false ∧ r3 = [])) : LineStep S [] line ok (S ++ [x]) [] := by
  refine ⟨fun ho => .inl ⟨x, h.1 (hok.1 ho), rfl, rfl, rfl⟩, fun ho => ⟨fun t ht _ => ?_, fun u q hq => ?_⟩⟩
  · have := hok.2 (h.2 t ht)
    rw [ho] at this
    cases this
  · have h1 := Wh.first_of_ref hw1 hw2 hq
    exact Wh.stepW_ref k hk (hs.symm.trans h1)

/-- What both readers of a line return. -/
def LinePost (z p : Nat) (S : List PStep) (R : List PRef) (sm by' : Int) (line : List UInt8) (w : World) (e : Ending) (w' : World) : Prop :=
  ∃ (ok : Bool) (S' : List PStep) (R' : List PRef), e = .returned (.bool ok) ∧ PlanAt z w' p S' R' sm by' ∧ PKept z p w w' ∧ S'.length + R'.length ≤ S.length + R.length + 1 ∧ LineStep S R line ok S' R'

set_option maxHeartbeats 4000000 in
set_option maxRecDepth 100000 in
theorem readLine_any (w0 : World) (p : Nat) (S : List PStep) (R : List PRef) (sm by' : Int) (line : ByteArray) (w : World) (hE : Env w0) (hX : EnvX w0) (hT : EnvT w0) (hS : EnvS w0) (hB : Below w0.heap.size w0 w) (hP : PlanAt w0.heap.size w p S R sm by') (hl : line.size ≤ 2000000) (hn : S.length + R.length ≤ 1500000) :
    Calls Tryz.prog 25 #[.pointer (some ⟨p, 0, none⟩), .string line] w (LinePost w0.heap.size p S R sm by' line.data.toList w) := by
  have HP0 := Lib.hid hP
  have HS0 := Lib.hid (hS.under hB)
  have hpl : p < w.heap.size := by
    obtain ⟨_, sa, sc, ra, rc, h1, _⟩ := hP
    exact h1.lt
  have hzp := hP.1
  have hzz := hB.size
  have HC1 : Hid (∀ W, Below w.heap.size w W → Ctx w0 w.heap.size W) := Lib.hid (fun W hW => ⟨hE, hX, hT, hB.size, hB.trans (hW.mono hB.size)⟩)
  have H1 : Hid (WordsIs (w.alloc (.cells #[.string line, .bool false] 53)) w.heap.size line false ∧ Below w.heap.size w (w.alloc (.cells #[.string line, .bool false] 53))) := Lib.hid ⟨BoxIs.new _ _ _, bAlloc (Below.refl _ _) _⟩
  clear hP hB hE hX hT hS
  go_enter Tryz.func25, Tryz.ntmps25
  go_upto_region 2 with fail
  generalize w.alloc _ = w1 at *
  have hw1z : w.heap.size < w1.heap.size := H1.out.1.lt
  have HW := Lib.hid (word_any w0 w.heap.size line false w1 (HC1.out _ H1.out.2) H1.out.1 hl)
  go_upto_region 3 with (go_at_call 23; refine HW.out.mono ?_; rintro e w2 ⟨s, r, bad1, rfl, hw2, ha2, hs1, hr1, hk1, hk2⟩; have H2 := Lib.hid hw2; have HA2 := Lib.hid ha2; have HK1 : Hid (bad1 = false → Wh.CutW line.data.toList s.data.toList r.data.toList) := Lib.hid (fun h => (hk1 h).2); have HK2 : Hid (∀ v q, Wh.CutW line.data.toList v q → bad1 = false) := Lib.hid (fun v q h => hk2 rfl v q h); clear hw2 ha2 hk1 hk2)
  have HB2 : Hid (Below w.heap.size w w2) := Lib.hid (H1.out.2.trans (HA2.out.below (Nat.le_refl _) (by omega)))
  have HPth := Lib.hid (fun W r bd hc hw hs => path_any w0 w.heap.size r bd W hc hw hs)
  have HNum := Lib.hid (fun W r bd hc hw hs => number_any w0 w.heap.size r bd W hc hw hs)
  have HStp := Lib.hid (fun W k r bd hc hw hs h1 h2 => readStep_any w0 w.heap.size k r bd W hc hw hs h1 h2)
  cases hr : (s.toList == [114, 101, 102, 117, 115, 101, 100])
  case true =>
    have HRf : Hid (s.data.toList = Wh.refusedW) := Lib.hid (by
      rw [Lib.toList_data] at hr
      exact beq_iff_eq.1 hr)
    go_upto_region 5 with (go_at_call 24; refine (HNum.out _ r bad1 (HC1.out _ HB2.out) H2.out (by omega)).mono ?_; rintro e w3 ⟨n, r2, bad2, rfl, hw3, ha3, hr2, n0, n1, hq1, hq2⟩; have HQ2 : Hid (Wh.NumR r.data.toList bad1 n r2.data.toList bad2) := Lib.hid ⟨hq1, fun hb u q hu => hq2 hb u q hu.1 hu.2⟩; have H3 := Lib.hid hw3; have HA3 := Lib.hid ha3; clear hq1 hq2 hw3 ha3)
    have HB3 : Hid (Below w.heap.size w w3) := Lib.hid (HB2.out.trans (HA3.out.below (Nat.le_refl _) HB2.out.size))
    obtain ⟨_, sa, sc, ra, rc, hx⟩ := HP0.out.under HB3.out
    have HX3 : Hid (PlanX w0.heap.size w3 p S R sm by' sa sc ra rc) := Lib.hid hx
    clear hx
    have c1 := HX3.out.1.cell (j := 1) rfl
    refine wp_region_seqU (fun W => W.cell? ⟨p, 1, none⟩ = some (.slice ra R.length rc)) 13 [(0, true), (1, true), (2, true), (3, true), (4, true), (5, true), (7, true), (6, false), (8, true), (9, false), (10, false), (11, true), (12, true), (13, false)] (by as_aux_lemma => kernel_rfl) (by as_aux_lemma => kernel_rfl) (by as_aux_lemma => kernel_rfl) (by decide) (by as_aux_lemma => kernel_rfl) (by decide) c1 ?_
    intro OPS HO
    refine seqT_take (o := ⟨_, _, _, _, _, _⟩) (v := ?_) (by rw [HO.out]; rfl) (by rfl) ?_ ?_
    rotate_left 1
    · first | ((intro W _; go_simp) <;> with_reducible rfl) | (intro W hW; have s1 := hW; (go_simp <;> with_reducible rfl))
    try simp only [Act.put, List.setIfInBounds_toArray, List.set_cons_zero, List.set_cons_succ]
    refine seqT_take (o := ⟨_, _, _, _, _, _⟩) (v := ?_) (by rw [HO.out]; rfl) (by rfl) ?_ ?_
    rotate_left 1
    · first | ((intro W _; go_simp) <;> with_reducible rfl) | (intro W hW; have s1 := hW; (go_simp <;> with_reducible rfl))
    try simp only [Act.put, List.setIfInBounds_toArray, List.set_cons_zero, List.set_cons_succ]
    refine seqT_take (o := ⟨_, _, _, _, _, _⟩) (v := ?_) (by rw [HO.out]; rfl) (by rfl) ?_ ?_
    rotate_left 1
    · first | ((intro W _; go_simp) <;> with_reducible rfl) | (intro W hW; have s1 := hW; (go_simp <;> with_reducible rfl))
    try simp only [Act.put, List.setIfInBounds_toArray, List.set_cons_zero, List.set_cons_succ]
    refine seqT_take (o := ⟨_, _, _, _, _, _⟩) (v := ?_) (by rw [HO.out]; rfl) (by rfl) ?_ ?_
    rotate_left 1
    · first | ((intro W _; go_simp) <;> with_reducible rfl) | (intro W hW; have s1 := hW; (go_simp <;> with_reducible rfl))
    try simp only [Act.put, List.setIfInBounds_toArray, List.set_cons_zero, List.set_cons_succ]
    refine seqT_take (o := ⟨_, _, _, _, _, _⟩) (v := ?_) (by rw [HO.out]; rfl) (by rfl) ?_ ?_
    rotate_left 1
    · first | ((intro W _; go_simp) <;> with_reducible rfl) | (intro W hW; have s1 := hW; (go_simp <;> with_reducible rfl))
    try simp only [Act.put, List.setIfInBounds_toArray, List.set_cons_zero, List.set_cons_succ]
    refine seqT_take (o := ⟨_, _, _, _, _, _⟩) (v := ?_) (by rw [HO.out]; rfl) (by rfl) ?_ ?_
    rotate_left 1
    · first | ((intro W _; go_simp) <;> with_reducible rfl) | (intro W hW; have s1 := hW; (go_simp <;> with_reducible rfl))
    try simp only [Act.put, List.setIfInBounds_toArray, List.set_cons_zero, List.set_cons_succ]
    refine seqT_take (o := ⟨_, _, _, _, _, _⟩) (v := ?_) (by rw [HO.out]; rfl) (by rfl) ?_ ?_
    rotate_left 1
    · first | ((intro W _; go_simp) <;> with_reducible rfl) | (intro W hW; have s1 := hW; (go_simp <;> with_reducible rfl))
    try simp only [Act.put, List.setIfInBounds_toArray, List.set_cons_zero, List.set_cons_succ]
    refine seqT_do (o := ⟨_, _, _, _, _, _⟩) (by rw [HO.out]; rfl) (by rfl) (fun K hK => ?_)
    go_wp2_with (go_at_call 74; refine (HPth.out _ r2 bad2 (HC1.out _ (drB0 HB3.out)) H3.out (by omega)).mono ?_; rintro e w5 ⟨out, r3, bad3, rfl, hw5, ha5, hr3, ho3, hq1, hq2⟩; have HQ3 : Hid (Wh.PathR r2.data.toList bad2 out.data.toList r3.data.toList bad3) := Lib.hid ⟨hq1, hq2⟩; clear hq1 hq2; have HA5 : Hid (Aside w.heap.size w3 w5) := Lib.hid ⟨ha5.os, ha5.tape, ha5.output, ha5.size, ha5.block⟩; have H5 := Lib.hid hw5; clear hw5 ha5)
    have HX5 := Lib.hid (HX3.out.aside HA5.out H3.out (by decide) (by decide) (by decide))
    have HB5 : Hid (Below w.heap.size w w5) := Lib.hid (HB3.out.trans (HA5.out.below (Nat.le_refl _) HB3.out.size))
    have hz5 : w0.heap.size ≤ w5.heap.size := Nat.le_trans hzz HB5.out.size
    have c5 := HX5.out.1.cell (j := 1) rfl
    have c5a := fun ob => (BoxIs.under HX5.out.1 (bAlloc (Below.refl _ _) ob)).cell (j := 1) rfl
    clear c1
    refine hK.out _ _ (fun _ => c5) ?_
    clear hK K
    try simp only [Act.put, List.setIfInBounds_toArray, List.set_cons_zero, List.set_cons_succ]
    refine seqT_take (o := ⟨_, _, _, _, _, _⟩) (v := ?_) (by rw [HO.out]; rfl) (by rfl) ?_ ?_
    rotate_left 1
    · first | ((intro W _; go_simp) <;> with_reducible rfl) | (intro W hW; have s1 := hW; (go_simp <;> with_reducible rfl))
    try simp only [Act.put, List.setIfInBounds_toArray, List.set_cons_zero, List.set_cons_succ]
    refine seqT_do (o := ⟨_, _, _, _, _, _⟩) (by rw [HO.out]; rfl) (by rfl) (fun K hK => ?_)
    clear c5
    go_wp2_with fail
    refine hK.out _ _ (fun _ => (c5a _)) ?_
    clear hK K
    try simp only [Act.put, List.setIfInBounds_toArray, List.set_cons_zero, List.set_cons_succ]
    refine seqT_do (o := ⟨_, _, _, _, _, _⟩) (by rw [HO.out]; rfl) (by rfl) (fun K hK => ?_)
    refine wp_appRf hz5 HX5.out.2.2 (by omega) ⟨out, n⟩ (.tmp 22) (.tmp 27) rfl rfl rfl ?_
    intro g cap' w' hown' hg
    obtain ⟨q1, q2, q3⟩ := planAt_ref hzp hz5 HX5.out.1 HX5.out.2.1 HX5.out.2.2 hown' hg
    have d1 := q1.cell (j := 1) rfl
    have df := Lib.frozen_of_heap q1 1
    have HQF := Lib.hid (And.intro q2 q3)
    clear q1 q2 q3 hown' hg c5a
    refine hK.out _ _ (fun _ => d1) ?_
    clear hK K
    try simp only [Act.put, List.setIfInBounds_toArray, List.set_cons_zero, List.set_cons_succ]
    refine seqT_take (o := ⟨_, _, _, _, _, _⟩) (v := ?_) (by rw [HO.out]; rfl) (by rfl) ?_ ?_
    rotate_left 1
    · first | ((intro W _; go_simp) <;> with_reducible rfl) | (intro W hW; have s1 := hW; (go_simp <;> with_reducible rfl))
    try simp only [Act.put, List.setIfInBounds_toArray, List.set_cons_zero, List.set_cons_succ]
    refine seqT_take (o := ⟨_, _, _, _, _, _⟩) (v := ?_) (by rw [HO.out]; rfl) (by rfl) ?_ ?_
    rotate_left 1
    · first | ((intro W _; go_simp) <;> with_reducible rfl) | (intro W hW; have s1 := hW; (go_simp <;> with_reducible rfl))
    try simp only [Act.put, List.setIfInBounds_toArray, List.set_cons_zero, List.set_cons_succ]
    refine seqT_do (o := ⟨_, _, _, _, _, _⟩) (by rw [HO.out]; rfl) (by rfl) (fun K hK => ?_)
    go_wp2_with fail
    refine hK.out _ _ (fun h => absurd rfl h) ?_
    clear hK K
    try simp only [Act.put, List.setIfInBounds_toArray, List.set_cons_zero, List.set_cons_succ]
    refine seqT_done ?_
    generalize w'.setCell _ _ = wf at *
    have HWF : Hid (WordsIs wf w.heap.size r3 bad3) := Lib.hid (BoxIs.pkept H5.out HQF.out.2 (by omega) (by decide) (by decide))
    have x0 := HWF.out.cell (j := 0) rfl
    have x1 := HWF.out.cell (j := 1) rfl
    have HKF : Hid (PKept w0.heap.size p w wf) := Lib.hid ((PKept.of HB5.out hzz).trans HQF.out.2)
    have he : r3.toList.isEmpty = r3.data.toList.isEmpty := by rw [Lib.toList_data]
    have HEm : Hid (r3.data.toList.isEmpty = true ↔ r3.data.toList = []) := Lib.hid List.isEmpty_iff
    clear d1 df
    cases bad3 <;> cases hre : r3.data.toList.isEmpty
    all_goals
      rw [hre] at he
      go_wp2_with fail
      go_ret
      refine ⟨_, _, _, rfl, HQF.out.1, HKF.out, by simp; try omega, lineStep_ref HRf.out HK1.out HK2.out (Wh.ref_read (fun h => by rw [← HRf.out]; exact HK1.out h) HK2.out HQ2.out ⟨n0, n1⟩ HQ3.out) ?_⟩
      have hem := HEm.out
      rw [hre] at hem
      first | exact okIff true true _ hem | exact okIff true false _ hem | exact okIff false true _ hem | exact okIff false false _ hem
  case false =>
    have HRf : Hid (s.data.toList ≠ Wh.refusedW) := Lib.hid (fun e => by
      rw [Lib.toList_data, e] at hr
      exact absurd hr (by decide))
    obtain ⟨_, sa, sc, ra, rc, hx⟩ := HP0.out.under HB2.out
    have HX2 : Hid (PlanX w0.heap.size w2 p S R sm by' sa sc ra rc) := Lib.hid hx
    clear hx
    have cr := HX2.out.1.cell (j := 1) rfl
    have HST := Lib.hid (HS0.out.under HB2.out)
    go_wp2_with fail
    go_loopg [8] 10 (fun g s8 wx => ∃ k : Nat, 1 ≤ k ∧ k + g = 11 ∧ s8 = .int .i64 k ∧ wx = w2 ∧ Hid (∀ j, 1 ≤ j → j < k → s.data.toList = Wh.stepW.getD j [] → R ≠ []))
    case atStart => exact ⟨1, by omega, by omega, rfl, rfl, Lib.hid (fun j h1 h2 => by omega)⟩
    case round =>
      obtain ⟨k, hk1, hk, rfl, hwr, HNone⟩ := hrel
      subst wr
      by_cases hlt : k ≤ 10
      · obtain ⟨g, rfl⟩ : ∃ g, gk = g + 1 := ⟨gk - 1, by omega⟩
        have ck := HST.out k hlt
        have HSB : Hid ((stepB k).data.toList = Wh.stepW.getD k []) := Lib.hid (stepB_list k)
        generalize stepB k = sb at *
        cases hq : (sb.toList == s.toList)
        · have HN : Hid (∀ j, 1 ≤ j → j < k + 1 → s.data.toList = Wh.stepW.getD j [] → R ≠ []) := Lib.hid (fun j h1 h2 h3 => by
            by_cases hj : j = k
            · subst hj
              rw [← HSB.out] at h3
              rw [Lib.toList_data, Lib.toList_data, h3] at hq
              simp at hq
            · exact HNone.out j h1 (by omega) h3)
          go_wp2_with fail
          go_roundg g
          case measure => omega
          case rel => exact ⟨k + 1, by omega, by omega, by go_num, rfl, HN⟩
        · have HSq : Hid (s.data.toList = Wh.stepW.getD k []) := Lib.hid (by
            rw [Lib.toList_data, Lib.toList_data] at hq
            rw [← HSB.out]
            exact (beq_iff_eq.1 hq).symm)
          by_cases hR : R.length = 0
          · obtain rfl : R = [] := List.eq_nil_of_length_eq_zero hR
            go_upto_region 11 with fail
            clear hR
            have c1 := HX2.out.1.cell (j := 0) rfl
            clear ck cr
            refine wp_region_seqU (fun W => W.cell? ⟨p, 0, none⟩ = some (.slice sa S.length sc)) 12 [(0, true), (1, true), (2, true), (3, true), (4, true), (5, true), (6, true), (7, false), (8, false), (9, false), (10, true), (11, true), (12, false)] (by as_aux_lemma => kernel_rfl) (by as_aux_lemma => kernel_rfl) (by as_aux_lemma => kernel_rfl) (by decide) (by as_aux_lemma => kernel_rfl) (by decide) c1 ?_
            intro OPS HO
            refine seqT_take (o := ⟨_, _, _, _, _, _⟩) (v := ?_) (by rw [HO.out]; rfl) (by rfl) ?_ ?_
            rotate_left 1
            · first | ((intro W _; go_simp) <;> with_reducible rfl) | (intro W hW; have s1 := hW; (go_simp <;> with_reducible rfl))
            try simp only [Act.put, List.setIfInBounds_toArray, List.set_cons_zero, List.set_cons_succ]
            refine seqT_take (o := ⟨_, _, _, _, _, _⟩) (v := ?_) (by rw [HO.out]; rfl) (by rfl) ?_ ?_
            rotate_left 1
            · first | ((intro W _; go_simp) <;> with_reducible rfl) | (intro W hW; have s1 := hW; (go_simp <;> with_reducible rfl))
            try simp only [Act.put, List.setIfInBounds_toArray, List.set_cons_zero, List.set_cons_succ]
            refine seqT_take (o := ⟨_, _, _, _, _, _⟩) (v := ?_) (by rw [HO.out]; rfl) (by rfl) ?_ ?_
            rotate_left 1
            · first | ((intro W _; go_simp) <;> with_reducible rfl) | (intro W hW; have s1 := hW; (go_simp <;> with_reducible rfl))
            try simp only [Act.put, List.setIfInBounds_toArray, List.set_cons_zero, List.set_cons_succ]
            refine seqT_take (o := ⟨_, _, _, _, _, _⟩) (v := ?_) (by rw [HO.out]; rfl) (by rfl) ?_ ?_
            rotate_left 1
            · first | ((intro W _; go_simp) <;> with_reducible rfl) | (intro W hW; have s1 := hW; (go_simp <;> with_reducible rfl))
            try simp only [Act.put, List.setIfInBounds_toArray, List.set_cons_zero, List.set_cons_succ]
            refine seqT_take (o := ⟨_, _, _, _, _, _⟩) (v := ?_) (by rw [HO.out]; rfl) (by rfl) ?_ ?_
            rotate_left 1
            · first | ((intro W _; go_simp) <;> with_reducible rfl) | (intro W hW; have s1 := hW; (go_simp <;> with_reducible rfl))
            try simp only [Act.put, List.setIfInBounds_toArray, List.set_cons_zero, List.set_cons_succ]
            refine seqT_take (o := ⟨_, _, _, _, _, _⟩) (v := ?_) (by rw [HO.out]; rfl) (by rfl) ?_ ?_
            rotate_left 1
            · first | ((intro W _; go_simp) <;> with_reducible rfl) | (intro W hW; have s1 := hW; (go_simp <;> with_reducible rfl))
            try simp only [Act.put, List.setIfInBounds_toArray, List.set_cons_zero, List.set_cons_succ]
            refine seqT_take (o := ⟨_, _, _, _, _, _⟩) (v := ?_) (by rw [HO.out]; rfl) (by rfl) ?_ ?_
            rotate_left 1
            · first | ((intro W _; go_simp) <;> with_reducible rfl) | (intro W hW; have s1 := hW; (go_simp <;> with_reducible rfl))
            try simp only [Act.put, List.setIfInBounds_toArray, List.set_cons_zero, List.set_cons_succ]
            refine seqT_do (o := ⟨_, _, _, _, _, _⟩) (by rw [HO.out]; rfl) (by rfl) (fun K hK => ?_)
            go_wp2_with (go_at_call 75; refine (HStp.out _ k r bad1 (HC1.out _ (drB0 HB2.out)) H2.out (by omega) hk1 (by omega)).mono ?_; rintro e w5 ⟨⟨kd, pt, ds, sz, tm⟩, r3, bad3, rfl, hw5, ha5, hkd, hft, hsz, htm, hq⟩; have HQ3 := Lib.hid (And.intro hkd (And.intro hft (And.intro hsz (And.intro htm hq)))); clear hkd hft hsz htm hq; have HA5 : Hid (Aside w.heap.size w2 w5) := Lib.hid ⟨ha5.os, ha5.tape, ha5.output, ha5.size, ha5.block⟩; have H5 := Lib.hid hw5; clear hw5 ha5)
            simp only [stepArr]
            have HX5 := Lib.hid (HX2.out.aside HA5.out H2.out (by decide) (by decide) (by decide))
            have HB5 : Hid (Below w.heap.size w w5) := Lib.hid (HB2.out.trans (HA5.out.below (Nat.le_refl _) HB2.out.size))
            have hz5 : w0.heap.size ≤ w5.heap.size := Nat.le_trans hzz HB5.out.size
            have c5 := HX5.out.1.cell (j := 0) rfl
            have c5a := fun ob => (BoxIs.under HX5.out.1 (bAlloc (Below.refl _ _) ob)).cell (j := 0) rfl
            clear c1
            refine hK.out _ _ (fun _ => c5) ?_
            clear hK K
            try simp only [Act.put, List.setIfInBounds_toArray, List.set_cons_zero, List.set_cons_succ]
            refine seqT_do (o := ⟨_, _, _, _, _, _⟩) (by rw [HO.out]; rfl) (by rfl) (fun K hK => ?_)
            clear c5
            go_wp2_with fail
            refine hK.out _ _ (fun _ => (c5a _)) ?_
            clear hK K
            try simp only [Act.put, List.setIfInBounds_toArray, List.set_cons_zero, List.set_cons_succ]
            refine seqT_do (o := ⟨_, _, _, _, _, _⟩) (by rw [HO.out]; rfl) (by rfl) (fun K hK => ?_)
            refine wp_appSt hz5 HX5.out.2.1 (by omega) ⟨kd, pt, ds, sz, tm⟩ (.tmp 64) (.tmp 68) rfl rfl rfl ?_
            intro g cap' w' hown' hg
            obtain ⟨q1, q2, q3⟩ := planAt_step hzp hz5 HX5.out.1 HX5.out.2.1 HX5.out.2.2 hown' hg
            have d1 := q1.cell (j := 0) rfl
            have df := Lib.frozen_of_heap q1 0
            have HQF := Lib.hid (And.intro q2 q3)
            clear q1 q2 q3 hown' hg c5a
            refine hK.out _ _ (fun _ => d1) ?_
            clear hK K
            try simp only [Act.put, List.setIfInBounds_toArray, List.set_cons_zero, List.set_cons_succ]
            refine seqT_take (o := ⟨_, _, _, _, _, _⟩) (v := ?_) (by rw [HO.out]; rfl) (by rfl) ?_ ?_
            rotate_left 1
            · first | ((intro W _; go_simp) <;> with_reducible rfl) | (intro W hW; have s1 := hW; (go_simp <;> with_reducible rfl))
            try simp only [Act.put, List.setIfInBounds_toArray, List.set_cons_zero, List.set_cons_succ]
            refine seqT_take (o := ⟨_, _, _, _, _, _⟩) (v := ?_) (by rw [HO.out]; rfl) (by rfl) ?_ ?_
            rotate_left 1
            · first | ((intro W _; go_simp) <;> with_reducible rfl) | (intro W hW; have s1 := hW; (go_simp <;> with_reducible rfl))
            try simp only [Act.put, List.setIfInBounds_toArray, List.set_cons_zero, List.set_cons_succ]
            refine seqT_do (o := ⟨_, _, _, _, _, _⟩) (by rw [HO.out]; rfl) (by rfl) (fun K hK => ?_)
            go_wp2_with fail
            refine hK.out _ _ (fun h => absurd rfl h) ?_
            clear hK K
            try simp only [Act.put, List.setIfInBounds_toArray, List.set_cons_zero, List.set_cons_succ]
            refine seqT_done ?_
            generalize w'.setCell _ _ = wf at *
            have HWF : Hid (WordsIs wf w.heap.size r3 bad3) := Lib.hid (BoxIs.pkept H5.out HQF.out.2 (by omega) (by decide) (by decide))
            have x0 := HWF.out.cell (j := 0) rfl
            have x1 := HWF.out.cell (j := 1) rfl
            have HKF : Hid (PKept w0.heap.size p w wf) := Lib.hid ((PKept.of HB5.out hzz).trans HQF.out.2)
            have he : r3.toList.isEmpty = r3.data.toList.isEmpty := by rw [Lib.toList_data]
            have HEm : Hid (r3.data.toList.isEmpty = true ↔ r3.data.toList = []) := Lib.hid List.isEmpty_iff
            clear d1 df
            cases bad3 <;> cases hre : r3.data.toList.isEmpty
            all_goals
              rw [hre] at he
              go_wp2_with fail
              go_ret
              refine ⟨_, _, _, rfl, HQF.out.1, HKF.out, by simp; try omega, lineStep_step (by omega) HSq.out HK1.out HK2.out (Wh.step_read (by omega) HQ3.out.1 HQ3.out.2.1 HQ3.out.2.2.1 HQ3.out.2.2.2.1 (fun h => by rw [← HSq.out]; exact HK1.out h) HK2.out HQ3.out.2.2.2.2) ?_⟩
              have hem := HEm.out
              rw [hre] at hem
              first | exact okIff true true _ hem | exact okIff true false _ hem | exact okIff false true _ hem | exact okIff false false _ hem
          · have HN : Hid (∀ j, 1 ≤ j → j < k + 1 → s.data.toList = Wh.stepW.getD j [] → R ≠ []) := Lib.hid (fun j h1 h2 h3 h4 => hR (by rw [h4]; rfl))
            have hR2 : ¬ (R.length : Int) = 0 := by omega
            go_wp2_with fail
            go_roundg g
            case measure => omega
            case rel => exact ⟨k + 1, by omega, by omega, by go_num, rfl, HN⟩
      · have HKF : Hid (PKept w0.heap.size p w w2) := Lib.hid (PKept.of HB2.out hzz)
        go_wp2_with fail
        go_ret
        refine ⟨false, S, R, rfl, ⟨hzp, sa, sc, ra, rc, HX2.out⟩, HKF.out, by omega, ⟨fun h => (by cases h), fun _ => ⟨fun t ht => ?_, fun u q hq => ?_⟩⟩⟩
        · exact HNone.out t.kind ht.1.1 (by have := ht.1.2.1; omega) (Wh.first_of_step HK1.out HK2.out ht)
        · exact HRf.out (Wh.first_of_ref HK1.out HK2.out hq)
end Go.Proofs.YtfenmeacimfiaaaGreatDoor
