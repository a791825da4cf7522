/-
  The reference's planLine, where the first word is that of a step.
-/
import Derived.Test.YtfenmeacimfiaaaGreatDoorPlanC
import Derived.Test.YtfenmeacimfiaaaGreatDoorPl9
namespace Go.Proofs.YtfenmeacimfiaaaGreatDoor
open Go.RowKit

abbrev arrTy : TypeId := 164
/-- The numbers that were read so far. -/
def NumsL (l1 l2 : List UInt8) (i : Nat) (v0 v1 : Int) : Prop := (1 ≤ i → numOf l1 v0) ∧ (2 ≤ i → numOf l2 v1) ∧ (i = 0 → v0 = 0) ∧ (i ≤ 1 → v1 = 0)
theorem PlanX.under {z p : Nat} {W W' : World} {S : List PStep} {R : List PRef} {same bytes : Int} {sa : Option Addr} {sc : Nat} {ra : Option Addr} {rc : Nat} (h : PlanX z W p S R same bytes sa sc ra rc) (hb : Below W.heap.size W W') : PlanX z W' p S R same bytes sa sc ra rc := by
  obtain ⟨h1, h2, h3⟩ := h
  have key : ∀ (k : Nat) (o : Obj), W.heap[k]? = some o → W'.heap[k]? = W.heap[k]? := fun k o hk => hb.block k (Array.getElem?_eq_some_iff.1 hk).1
  exact ⟨h1.under hb, h2.keep (fun k _ _ _ hk => key k _ hk), h3.keep (fun k _ _ _ hk => key k _ hk)⟩
theorem mem_behindW {x : List UInt8} : ∀ {L : List (List UInt8)}, x ∈ L → x.length ≤ (Wh.behindW L).length
  | y :: L, h => by
    unfold Wh.behindW
    rcases List.mem_cons.1 h with rfl | h
    · simp; omega
    · have := mem_behindW h
      simp
      omega
theorem mem_lineW {x : List UInt8} {L : List (List UInt8)} (h : x ∈ L) : x.length ≤ (Wh.lineW L).length := by
  cases L with
  | nil => cases h
  | cons y L =>
    show _ ≤ (y ++ Wh.behindW L).length
    rcases List.mem_cons.1 h with rfl | h
    · simp
    · have := mem_behindW h
      simp
      omega

set_option maxHeartbeats 8000000 in
set_option maxRecDepth 100000 in
theorem planLine_k4  (w0 : World) (p : Nat) (S : List PStep) (R : List PRef) (sm by' : Int) (line : ByteArray) (w : World) (hX : EnvX w0) (hT : EnvT w0) (hB : Below w0.heap.size w0 w) (hP : PlanAt w0.heap.size w p S R sm by') (hl : line.size ≤ 2000000) (hn : S.length + R.length ≤ 1500000) (L : List (List UInt8)) (hw : ∀ x ∈ L, Wh.isW x) (hne : L ≠ []) (hlw : line.data.toList = Wh.lineW L) (r : List (List UInt8)) (hr : L = Wh.stepW.getD 4 [] :: r) (hR : R = []) : Calls Tryz.prog 27 #[.pointer (some ⟨p, 0, none⟩), .string line, .bool false] w (LinePost w0.heap.size p S R sm by' line.data.toList w) := by
  have HPW := Lib.hid (pWords_any line w hl)
  have HL := Lib.hid (And.intro hw (And.intro hne hlw))
  have HR := Lib.hid hr
  have HP0 := Lib.hid hP
  have hzz := hB.size
  have hzp := hP.1
  have hpl : p < w.heap.size := by
    obtain ⟨_, sa, sc, ra, rc, h1, _⟩ := hP
    exact h1.lt
  have HXX := Lib.hid (hX.under hB)
  have HTT := Lib.hid (hT.under hB)
  subst hR
  clear hw hne hlw hr hP hB hX hT
  go_enter Tryz.func27, Tryz.ntmps27
  go_upto_region 2 with (go_at_call 77; refine HPW.out.mono ?_; rintro e w2 hpw; rcases hpw with ⟨rfl, hb1, hno⟩ | ⟨ws, a, cap, rfl, hO, hne1, hws, hlw1⟩)
  · exact absurd ⟨L, HL.out.2.1, HL.out.1, HL.out.2.2⟩ hno
  obtain ⟨g0, rfl, hg0, hg1, hcells⟩ := ownS_at hO hne1
  have HM : Hid (ws.map (·.data.toList) = L) := Lib.hid (Wh.lineW_inj hws HL.out.1 (hlw1.symm.trans HL.out.2.2))
  have HB2 := Lib.hid hO.below
  have HCl := Lib.hid hcells
  clear hO hws hlw1 hcells hne1
  obtain ⟨y0, ys, rfl⟩ : ∃ y0 ys, ws = y0 :: ys := by
    cases ws with
    | nil => exact absurd HM.out.symm HL.out.2.1
    | cons y0 ys => exact ⟨y0, ys, rfl⟩
  have x0 := HCl.out 0 y0 rfl
  have hl0 : 0 < (y0 :: ys).length := by simp
  have HY : Hid (y0.data.toList = Wh.stepW.getD 4 [] ∧ ys.map (·.data.toList) = r) := Lib.hid (by
    have := HM.out.trans HR.out
    injection this with h1 h2
    exact ⟨h1, h2⟩)
  have HBk : Hid (∀ t, Wh.StepLineL line.data.toList t → Wh.Behind 4 r t) := Lib.hid (fun t ht => Wh.behind_of (by decide) (HR.out ▸ HL.out.1) (HR.out ▸ HL.out.2.2) ht)
  have HOf : Hid (∀ t, Wh.Behind 4 r t → Wh.StepLineL line.data.toList t) := Lib.hid (fun t ht => Wh.of_behind (HR.out ▸ HL.out.2.2) ht)
  have HNr : Hid (∀ u q, ¬ Wh.RefLineL line.data.toList u q) := Lib.hid (Wh.other_ref (Wh.stepW_ref _ (by decide)) (HR.out ▸ HL.out.1) (HR.out ▸ HL.out.2.2))
  have HSz : Hid (∀ y ∈ ys, y.size ≤ line.size) := Lib.hid (fun y hy => by
    have h1 := mem_lineW (List.mem_map_of_mem (f := (·.data.toList)) (List.mem_cons_of_mem y0 hy))
    rw [HM.out, ← HL.out.2.2] at h1
    rw [Lib.size_eq, Lib.size_eq]
    exact h1)
  have hq : (y0.toList == [114, 101, 102, 117, 115, 101, 100]) = false := by
    rw [Lib.toList_data, HY.out.1]
    exact beq_eq_false_iff_ne.2 (Wh.stepW_ref _ (by decide))
  obtain ⟨_, sa, sc, ra, rc, hx⟩ := HP0.out.under HB2.out
  have HX0 : Hid (PlanX w0.heap.size w2 p S [] sm by' sa sc ra rc) := Lib.hid hx
  have c1 := hx.1.cell (j := 1) rfl
  clear hx
  have HSn := Lib.hid (fun W => stepNames_any W)
  have HIx : Hid (Lib.idxOfS (stepZs.take 11) y0 = ((4 : Nat) : Int)) := Lib.hid (by
    rcases idx_step y0 with ⟨j, k1, k2, k3⟩ | ⟨h, _⟩
    · rw [HY.out.1] at k2
      rw [k3, Wh.stepW_inj _ (Nat.lt_succ_of_le (by decide)) _ (Nat.lt_succ_of_le k1) k2]
    · exact absurd HY.out.1 (h _ (by decide)))
  have HF5 : Hid (∀ w5, w5 = w2.drew.alloc (.cells (stepZs.map Value.string).toArray 9) → Below w.heap.size w w5 ∧ BoxIs w5 w2.heap.size (stepZs.map Value.string).toArray 9 ∧ w5.cell? ⟨g0, 0, none⟩ = some (.string y0)) := Lib.hid (by
    rintro _ rfl
    exact ⟨bAlloc (drB0 HB2.out) _, BoxIs.new w2.drew _ _, ((bAlloc (drB0 (Below.refl w2.heap.size w2)) _).cell (cell_lt x0)).trans x0⟩)
  have HCl2 : Hid (∀ w5, w5 = w2.drew.alloc (.cells (stepZs.map Value.string).toArray 9) → Below w2.heap.size w2 w5) := Lib.hid (by
    rintro _ rfl
    exact bAlloc (drB0 (Below.refl w2.heap.size w2)) _)
  obtain ⟨nl, hnl⟩ : ∃ nl, (y0 :: ys).length = nl := ⟨_, rfl⟩
  have HNl := Lib.hid hnl
  rw [hnl] at hl0
  simp only [hnl]
  clear hnl
  have hl0' : (0 : Int) < (nl : Int) := by omega
  go_upto_region 20 with fail
  clear c1
  refine wp_region_seq (fun W => W.cell? ⟨g0, 0, none⟩ = some (.string y0)) [(1, true), (2, true), (3, true), (0, false), (4, false), (5, true)] (by as_aux_lemma => kernel_rfl) (by as_aux_lemma => kernel_rfl) (by decide) (by as_aux_lemma => kernel_rfl) x0 ?_
  intro OPS HO
  refine seq_take (o := ⟨_, _, _, _, _, _⟩) (v := ?_) (by rw [HO.out]; rfl) (by rfl) ?_ ?_
  rotate_left 1
  · first | ((intro W _; go_simp) <;> with_reducible rfl) | (intro W hW; have s1 := hW; (go_simp <;> with_reducible rfl))
  try simp only [Act.put, List.setIfInBounds_toArray, List.set_cons_zero, List.set_cons_succ]
  refine seq_take (o := ⟨_, _, _, _, _, _⟩) (v := ?_) (by rw [HO.out]; rfl) (by rfl) ?_ ?_
  rotate_left 1
  · first | ((intro W _; go_simp) <;> with_reducible rfl) | (intro W hW; have s1 := hW; (go_simp <;> with_reducible rfl))
  try simp only [Act.put, List.setIfInBounds_toArray, List.set_cons_zero, List.set_cons_succ]
  refine seq_take (o := ⟨_, _, _, _, _, _⟩) (v := ?_) (by rw [HO.out]; rfl) (by rfl) ?_ ?_
  rotate_left 1
  · first | ((intro W _; go_simp) <;> with_reducible rfl) | (intro W hW; have s1 := hW; (go_simp <;> with_reducible rfl))
  try simp only [Act.put, List.setIfInBounds_toArray, List.set_cons_zero, List.set_cons_succ]
  refine seq_do (o := ⟨_, _, _, _, _, _⟩) (by rw [HO.out]; rfl) (by rfl) (fun K hK => ?_)
  go_wp2_with (go_at_call 81; (with_reducible refine (HSn.out _).mono ?_); rintro e w5 ⟨rfl, hw5⟩; obtain ⟨hb5, hx5, hS⟩ := HF5.out _ hw5; have H25 := Lib.hid (HCl2.out _ hw5); have HBf := Lib.hid hb5; have HBx := Lib.hid hx5; clear hw5 hb5 hx5)
  have HSi := Lib.hid (sliceIndex_any w5 w2.heap.size y0 HBx.out)
  rw [HIx.out] at HSi
  refine hK.out _ _ hS (fun _ => ?_)
  clear hK K
  try simp only [Act.put, List.setIfInBounds_toArray, List.set_cons_zero, List.set_cons_succ]
  refine seq_do (o := ⟨_, _, _, _, _, _⟩) (by rw [HO.out]; rfl) (by rfl) (fun K hK => ?_)
  go_wp2_with (go_at_call 80; (with_reducible refine HSi.out.mono ?_); rintro e w6 ⟨rfl, hw6⟩; subst w6)
  refine hK.out _ _ hS (fun _ => ?_)
  clear hK K
  try simp only [Act.put, List.setIfInBounds_toArray, List.set_cons_zero, List.set_cons_succ]
  refine seq_take (o := ⟨_, _, _, _, _, _⟩) (v := ?_) (by rw [HO.out]; rfl) (by rfl) ?_ ?_
  rotate_left 1
  · first | ((intro W _; go_simp) <;> with_reducible rfl) | (intro W hW; have s1 := hW; (go_simp <;> with_reducible rfl))
  try simp only [Act.put, List.setIfInBounds_toArray, List.set_cons_zero, List.set_cons_succ]
  refine seq_done ?_
  have hlen : nl = 4 ∨ nl ≠ 4 := by omega
  rcases hlen with hlen | hlen
  rotate_left 1
  · have hlen' : ¬ (nl : Int) = 4 := by omega
    have HFin : Hid (LineStep S [] line.data.toList false S []) := Lib.hid (LineStep.bad (fun t ht => by
      have h1 := Wh.behind_two (by rfl) (by rfl) (HBk.out t ht)
      rw [← HY.out.2] at h1
      have h2 := congrArg List.length h1
      have h3 := HNl.out
      simp at h2 h3
      omega) HNr.out)
    go_wp2_with fail
    go_ret
    exact ⟨false, S, [], rfl, HP0.out.under (bAlloc HBf.out _), PKept.of (bAlloc HBf.out _) hzz, by omega, HFin.out⟩
  obtain ⟨y1, y2, y3, rfl⟩ : ∃ y1 y2 y3, ys = [y1, y2, y3] := by
    have h3 := HNl.out
    rw [hlen] at h3
    match ys, h3 with
    | [y1, y2, y3], _ => exact ⟨y1, y2, y3, rfl⟩
  subst hlen
  have hb15 := HBf.out.size
  have hz5 : w2.heap.size ≤ w5.heap.size := H25.out.size
  have x1 : w5.cell? ⟨g0, 1, none⟩ = some (.string y1) := by
    have := HCl.out 1 y1 rfl
    exact (H25.out.cell (cell_lt this)).trans this
  have hsz1 := HSz.out y1 (by simp)
  have x2 : w5.cell? ⟨g0, 2, none⟩ = some (.string y2) := by
    have := HCl.out 2 y2 rfl
    exact (H25.out.cell (cell_lt this)).trans this
  have hsz2 := HSz.out y2 (by simp)
  have x3 : w5.cell? ⟨g0, 3, none⟩ = some (.string y3) := by
    have := HCl.out 3 y3 rfl
    exact (H25.out.cell (cell_lt this)).trans this
  have hsz3 := HSz.out y3 (by simp)
  have HXc : Hid (w5.cell? ⟨g0, 1, none⟩ = some (.string y1) ∧ w5.cell? ⟨g0, 2, none⟩ = some (.string y2) ∧ w5.cell? ⟨g0, 3, none⟩ = some (.string y3)) := Lib.hid ⟨x1, x2, x3⟩
  clear hS x0
  have hg5 : g0 < w5.heap.size := by omega
  have HNa := Lib.hid (BoxIs.new w5 #[.int .i64 4, .string ⟨#[]⟩, .string ⟨#[]⟩, .int .i64 0, .int .i64 0] stepTy)
  have HNb := Lib.hid (bAlloc (Below.refl w5.heap.size w5) (.cells #[.int .i64 4, .string ⟨#[]⟩, .string ⟨#[]⟩, .int .i64 0, .int .i64 0] stepTy))
  have HBe0 : w5.heap.size = w5.heap.size := rfl
  go_upto_region 24 with fail
  generalize w5.alloc _ = w6 at *
  obtain ⟨b1, hb1⟩ : ∃ b, b = w5.heap.size := ⟨_, rfl⟩
  rw [← hb1]
  rw [← hb1] at HNa
  have HBe : Hid (w2.heap.size ≤ b1) := Lib.hid (by omega)
  have hgb : g0 < b1 := by omega
  have hb1le : w5.heap.size ≤ b1 := by omega
  clear hb1 HBe0 hz5
  have HNc := Lib.hid (BoxIs.new w6 #[.int .i64 0, .int .i64 0] arrTy)
  have HNd := Lib.hid (bAlloc (Below.refl w6.heap.size w6) (.cells #[.int .i64 0, .int .i64 0] arrTy))
  go_upto_region 37 with fail
  generalize w6.alloc _ = w7 at *
  obtain ⟨b2, hb2⟩ : ∃ b, b = w6.heap.size := ⟨_, rfl⟩
  rw [← hb2]
  rw [← hb2] at HNc
  have hne : b2 ≠ b1 := by
    have := HNa.out.lt
    omega
  have hb2le : w5.heap.size ≤ b2 := by
    have := HNa.out.lt
    omega
  clear hb2
  have HN7 : Hid (BoxIs w7 b1 #[.int .i64 4, .string ⟨#[]⟩, .string ⟨#[]⟩, .int .i64 0, .int .i64 0] stepTy ∧ Below w5.heap.size w5 w7) := Lib.hid ⟨BoxIs.under HNa.out HNd.out, bTrans HNb.out HNd.out⟩
  clear HNa HNb HNd
  go_wp2_with fail
  go_loopg [131] 2 (fun g s131 wx => ∃ (i : Nat) (v0 v1 : Int), i + g = 2 ∧ s131 = .int .i64 i ∧ Hid (BoxIs wx b2 #[.int .i64 v0, .int .i64 v1] arrTy) ∧ Hid (BoxIs wx b1 #[.int .i64 4, .string ⟨#[]⟩, .string ⟨#[]⟩, .int .i64 0, .int .i64 0] stepTy) ∧ Hid (Below w5.heap.size w5 wx) ∧ Hid (NumsL y1.data.toList y2.data.toList i v0 v1))
  case atStart => exact ⟨0, 0, 0, by omega, by go_num, HNc, Lib.hid HN7.out.1, Lib.hid HN7.out.2, Lib.hid ⟨fun h => by omega, fun h => by omega, fun _ => rfl, fun _ => rfl⟩⟩
  case round =>
    obtain ⟨i, v0, v1, hi, rfl, HLb, HL1, HLw, HLn⟩ := hrel
    by_cases hi0 : i = 0
    · subst hi0
      obtain rfl : gk = 2 := by omega
      have xw : wr.cell? ⟨g0, 1, none⟩ = some (.string y1) := (HLw.out.cell (cell_lt (w := w5) (p := ⟨g0, 1, none⟩) HXc.out.1)).trans HXc.out.1
      have HWh := Lib.hid (whole_any y1 wr ((HXX.out.under HBf.out).under HLw.out) ((HTT.out.under HBf.out).under HLw.out) (by omega))
      go_upto_region 41 with (go_at_call 78; refine HWh.out.mono ?_; rintro e w8 ⟨v, ok, rfl, hb8, hn1, hn2⟩; have HN := Lib.hid (And.intro hn1 hn2); have df := Lib.frozen_of_heap (BoxIs.under HLb.out hb8) 0; have dc := (BoxIs.under HLb.out hb8).cell (j := 0) rfl; have H8 := Lib.hid hb8; clear hb8 hn1 hn2)
      clear xw df dc
      have H9 : Hid (BoxIs (w8.setCell ⟨b2, 0, none⟩ (.int .i64 v)) b2 #[.int .i64 v, .int .i64 v1] arrTy ∧ BoxIs (w8.setCell ⟨b2, 0, none⟩ (.int .i64 v)) b1 #[.int .i64 4, .string ⟨#[]⟩, .string ⟨#[]⟩, .int .i64 0, .int .i64 0] stepTy ∧ Below w5.heap.size w5 (w8.setCell ⟨b2, 0, none⟩ (.int .i64 v))) := Lib.hid ⟨BoxIs.setAt (BoxIs.under HLb.out H8.out) 0 (.int .i64 v), BoxIs.other (BoxIs.under HL1.out H8.out) hne.symm _ _, Below.setCell (bTrans HLw.out H8.out) hb2le _⟩
      generalize w8.setCell _ _ = w9 at *
      cases ok
      · have HFin : Hid (LineStep S [] line.data.toList false S []) := Lib.hid (LineStep.bad (fun t ht => by
          have hbk := HBk.out t ht
          have h1 := Wh.behind_two (by rfl) (by rfl) hbk
          rw [← HY.out.2] at h1
          simp at h1
          have h2 := HN.out.2 t.size ⟨h1.1, hbk.2.2.1⟩
          cases h2) HNr.out)
        go_wp2_with fail
        go_ret
        exact ⟨false, S, [], rfl, HP0.out.under (bTrans HBf.out H9.out.2.2), PKept.of (bTrans HBf.out H9.out.2.2) hzz, by omega, HFin.out⟩
      · have HLn2 : Hid (NumsL y1.data.toList y2.data.toList 1 v v1) := Lib.hid ⟨fun _ => HN.out.1 rfl, fun h => by omega, fun h => by omega, fun _ => HLn.out.2.2.2 (by omega)⟩
        go_wp2_with fail
        go_roundg 1
        case measure => omega
        case rel => exact ⟨1, v, v1, by omega, by go_num, Lib.hid H9.out.1, Lib.hid H9.out.2.1, Lib.hid H9.out.2.2, HLn2⟩
    by_cases hi1 : i = 1
    · subst hi1
      obtain rfl : gk = 1 := by omega
      have xw : wr.cell? ⟨g0, 2, none⟩ = some (.string y2) := (HLw.out.cell (cell_lt (w := w5) (p := ⟨g0, 2, none⟩) HXc.out.2.1)).trans HXc.out.2.1
      have HWh := Lib.hid (whole_any y2 wr ((HXX.out.under HBf.out).under HLw.out) ((HTT.out.under HBf.out).under HLw.out) (by omega))
      go_upto_region 41 with (go_at_call 78; refine HWh.out.mono ?_; rintro e w8 ⟨v, ok, rfl, hb8, hn1, hn2⟩; have HN := Lib.hid (And.intro hn1 hn2); have df := Lib.frozen_of_heap (BoxIs.under HLb.out hb8) 1; have dc := (BoxIs.under HLb.out hb8).cell (j := 1) rfl; have H8 := Lib.hid hb8; clear hb8 hn1 hn2)
      clear xw df dc
      have H9 : Hid (BoxIs (w8.setCell ⟨b2, 1, none⟩ (.int .i64 v)) b2 #[.int .i64 v0, .int .i64 v] arrTy ∧ BoxIs (w8.setCell ⟨b2, 1, none⟩ (.int .i64 v)) b1 #[.int .i64 4, .string ⟨#[]⟩, .string ⟨#[]⟩, .int .i64 0, .int .i64 0] stepTy ∧ Below w5.heap.size w5 (w8.setCell ⟨b2, 1, none⟩ (.int .i64 v))) := Lib.hid ⟨BoxIs.setAt (BoxIs.under HLb.out H8.out) 1 (.int .i64 v), BoxIs.other (BoxIs.under HL1.out H8.out) hne.symm _ _, Below.setCell (bTrans HLw.out H8.out) hb2le _⟩
      generalize w8.setCell _ _ = w9 at *
      cases ok
      · have HFin : Hid (LineStep S [] line.data.toList false S []) := Lib.hid (LineStep.bad (fun t ht => by
          have hbk := HBk.out t ht
          have h1 := Wh.behind_two (by rfl) (by rfl) hbk
          rw [← HY.out.2] at h1
          simp at h1
          have h2 := HN.out.2 t.time ⟨h1.2.1, hbk.2.2.2.1⟩
          cases h2) HNr.out)
        go_wp2_with fail
        go_ret
        exact ⟨false, S, [], rfl, HP0.out.under (bTrans HBf.out H9.out.2.2), PKept.of (bTrans HBf.out H9.out.2.2) hzz, by omega, HFin.out⟩
      · have HLn2 : Hid (NumsL y1.data.toList y2.data.toList 2 v0 v) := Lib.hid ⟨fun _ => HLn.out.1 (by omega), fun _ => HN.out.1 rfl, fun h => by omega, fun h => by omega⟩
        go_wp2_with fail
        go_roundg 0
        case measure => omega
        case rel => exact ⟨2, v0, v, by omega, by go_num, Lib.hid H9.out.1, Lib.hid H9.out.2.1, Lib.hid H9.out.2.2, HLn2⟩
    obtain rfl : i = 2 := by omega
    have e0 := HLb.out.cell (j := 0) rfl
    have df := Lib.frozen_of_heap HL1.out 4
    have dc := HL1.out.cell (j := 4) rfl
    go_upto_region 45 with fail
    have HA : Hid (BoxIs (wr.setCell ⟨b1, 4, none⟩ (.int .i64 v0)) b1 #[.int .i64 4, .string ⟨#[]⟩, .string ⟨#[]⟩, .int .i64 0, .int .i64 v0] stepTy ∧ BoxIs (wr.setCell ⟨b1, 4, none⟩ (.int .i64 v0)) b2 #[.int .i64 v0, .int .i64 v1] arrTy ∧ Below w5.heap.size w5 (wr.setCell ⟨b1, 4, none⟩ (.int .i64 v0))) := Lib.hid ⟨BoxIs.setAt HL1.out 4 _, BoxIs.other HLb.out hne _ _, Below.setCell HLw.out hb1le _⟩
    clear e0 df dc
    generalize wr.setCell _ _ = wA at *
    have HA1 := Lib.hid HA.out.1
    have HAw := Lib.hid HA.out.2.2
    go_upto_region 46 with fail
    have hab := HA.out.2.1
    refine wp_region_seq (fun W => BoxIs W b2 #[.int .i64 v0, .int .i64 v1] arrTy) [(0, true), (1, true), (2, true), (3, true), (4, true), (5, false), (6, true), (7, false)] (by as_aux_lemma => kernel_rfl) (by as_aux_lemma => kernel_rfl) (by decide) (by as_aux_lemma => kernel_rfl) hab ?_
    intro OPS HO
    refine seq_take (o := ⟨_, _, _, _, _, _⟩) (v := ?_) (by rw [HO.out]; rfl) (by rfl) ?_ ?_
    rotate_left 1
    · first | ((intro W _; go_simp) <;> with_reducible rfl) | (intro W hW; have s1 := hW.cell (j := 0) rfl; have s2 := hW.cell (j := 1) rfl; (go_simp <;> with_reducible rfl))
    try simp only [Act.put, List.setIfInBounds_toArray, List.set_cons_zero, List.set_cons_succ]
    refine seq_take (o := ⟨_, _, _, _, _, _⟩) (v := ?_) (by rw [HO.out]; rfl) (by rfl) ?_ ?_
    rotate_left 1
    · first | ((intro W _; go_simp) <;> with_reducible rfl) | (intro W hW; have s1 := hW.cell (j := 0) rfl; have s2 := hW.cell (j := 1) rfl; (go_simp <;> with_reducible rfl))
    try simp only [Act.put, List.setIfInBounds_toArray, List.set_cons_zero, List.set_cons_succ]
    refine seq_take (o := ⟨_, _, _, _, _, _⟩) (v := ?_) (by rw [HO.out]; rfl) (by rfl) ?_ ?_
    rotate_left 1
    · first | ((intro W _; go_simp) <;> with_reducible rfl) | (intro W hW; have s1 := hW.cell (j := 0) rfl; have s2 := hW.cell (j := 1) rfl; (go_simp <;> with_reducible rfl))
    try simp only [Act.put, List.setIfInBounds_toArray, List.set_cons_zero, List.set_cons_succ]
    refine seq_take (o := ⟨_, _, _, _, _, _⟩) (v := ?_) (by rw [HO.out]; rfl) (by rfl) ?_ ?_
    rotate_left 1
    · first | ((intro W _; go_simp) <;> with_reducible rfl) | (intro W hW; have s1 := hW.cell (j := 0) rfl; have s2 := hW.cell (j := 1) rfl; (go_simp <;> with_reducible rfl))
    try simp only [Act.put, List.setIfInBounds_toArray, List.set_cons_zero, List.set_cons_succ]
    refine seq_take (o := ⟨_, _, _, _, _, _⟩) (v := ?_) (by rw [HO.out]; rfl) (by rfl) ?_ ?_
    rotate_left 1
    · first | ((intro W _; go_simp) <;> with_reducible rfl) | (intro W hW; have s1 := hW.cell (j := 0) rfl; have s2 := hW.cell (j := 1) rfl; (go_simp <;> with_reducible rfl))
    try simp only [Act.put, List.setIfInBounds_toArray, List.set_cons_zero, List.set_cons_succ]
    refine seq_do (o := ⟨_, _, _, _, _, _⟩) (by rw [HO.out]; rfl) (by rfl) (fun K hK => ?_)
    have df := Lib.frozen_of_heap (w := wA.drew) HA1.out 3
    have dc := BoxIs.cell (w := wA.drew) (j := 3) HA1.out rfl
    have hS := BoxIs.other (w := wA.drew) hab hne 3 (.int .i64 v0)
    go_wp2_with fail
    refine hK.out _ _ hS (fun _ => ?_)
    clear hK K
    try simp only [Act.put, List.setIfInBounds_toArray, List.set_cons_zero, List.set_cons_succ]
    refine seq_take (o := ⟨_, _, _, _, _, _⟩) (v := ?_) (by rw [HO.out]; rfl) (by rfl) ?_ ?_
    rotate_left 1
    · first | ((intro W _; go_simp) <;> with_reducible rfl) | (intro W hW; have s1 := hW.cell (j := 0) rfl; have s2 := hW.cell (j := 1) rfl; (go_simp <;> with_reducible rfl))
    try simp only [Act.put, List.setIfInBounds_toArray, List.set_cons_zero, List.set_cons_succ]
    refine seq_do (o := ⟨_, _, _, _, _, _⟩) (by rw [HO.out]; rfl) (by rfl) (fun K hK => ?_)
    have df2 := Lib.frozen_of_heap (w := (wA.setCell ⟨b1, 3, none⟩ (.int .i64 v0)).drew) (BoxIs.setAt (w := wA) HA1.out 3 (.int .i64 v0)) 4
    have dc2 := BoxIs.cell (w := (wA.setCell ⟨b1, 3, none⟩ (.int .i64 v0)).drew) (j := 4) (BoxIs.setAt (w := wA) HA1.out 3 (.int .i64 v0)) rfl
    have hS := BoxIs.other hS hne 4 (.int .i64 v1)
    go_wp2_with fail
    refine hK.out _ _ hS (fun _ => ?_)
    clear hK K
    try simp only [Act.put, List.setIfInBounds_toArray, List.set_cons_zero, List.set_cons_succ]
    refine seq_done ?_
    have HB : Hid (BoxIs ((wA.setCell ⟨b1, 3, none⟩ (.int .i64 v0)).setCell ⟨b1, 4, none⟩ (.int .i64 v1)).drew b1 #[.int .i64 4, .string ⟨#[]⟩, .string ⟨#[]⟩, .int .i64 v0, .int .i64 v1] stepTy ∧ Below w5.heap.size w5 ((wA.setCell ⟨b1, 3, none⟩ (.int .i64 v0)).setCell ⟨b1, 4, none⟩ (.int .i64 v1)).drew) := Lib.hid ⟨BoxIs.setAt (BoxIs.setAt (w := wA) HA1.out 3 _) 4 _, drB0 (Below.setCell (Below.setCell HAw.out hb1le _) hb1le _)⟩
    try clear df
    try clear dc
    try clear df2
    try clear dc2
    try clear hS
    try clear hab
    generalize ((wA.setCell _ _).setCell _ _).drew = wB at *
    have HB1 := Lib.hid HB.out.1
    have HBw := Lib.hid HB.out.2
    have xw : wB.cell? ⟨g0, 3, none⟩ = some (.string y3) := (HBw.out.cell (cell_lt (w := w5) (p := ⟨g0, 3, none⟩) HXc.out.2.2)).trans HXc.out.2.2
    have HUn := Lib.hid (unquote_any y3 wB ((HXX.out.under HBf.out).under HBw.out) (by omega))
    go_upto_region 48 with (go_at_call 79; refine HUn.out.mono ?_; rintro e wC ⟨out1, ok1, rfl, hbC, hos, hn1, hn2⟩; have HU := Lib.hid (And.intro hn1 hn2); have df := Lib.frozen_of_heap (BoxIs.under HB1.out hbC) 1; have dc := (BoxIs.under HB1.out hbC).cell (j := 1) rfl; have HC := Lib.hid hbC; clear hbC hn1 hn2)
    clear xw df dc
    have HD : Hid (BoxIs (wC.setCell ⟨b1, 1, none⟩ (.string out1)) b1 #[.int .i64 4, .string out1, .string ⟨#[]⟩, .int .i64 v0, .int .i64 v1] stepTy ∧ Below w5.heap.size w5 (wC.setCell ⟨b1, 1, none⟩ (.string out1))) := Lib.hid ⟨BoxIs.setAt (BoxIs.under HB1.out HC.out) 1 _, Below.setCell (bTrans HBw.out HC.out) hb1le _⟩
    generalize wC.setCell _ _ = wD at *
    have HD1 := Lib.hid HD.out.1
    have HDw := Lib.hid HD.out.2
    cases ok1
    · have HFin : Hid (LineStep S [] line.data.toList false (S ++ [⟨4, out1, ⟨#[]⟩, v0, v1⟩]) []) := Lib.hid (LineStep.bad (fun t ht => by
          have h1 := Wh.behind_two (by rfl) (by rfl) (HBk.out t ht)
          rw [← HY.out.2] at h1
          simp at h1
          have h2 := HU.out.2 t.path h1.2.2
          cases h2) HNr.out)
      go_upto_region 50 with fail
      have HX9 : Hid (PlanX w0.heap.size wD.drew p S [] sm by' sa sc ra rc) := Lib.hid (HX0.out.under (drB0 (bTrans H25.out HDw.out)))
      have hz9 : w0.heap.size ≤ wD.drew.heap.size := by
        have := HDw.out.size
        show w0.heap.size ≤ wD.heap.size
        omega
      have c0 := HX9.out.1.cell (j := 0) rfl
      have c0a := fun ob => (BoxIs.under HX9.out.1 (bAlloc (Below.refl _ _) ob)).cell (j := 0) rfl
      have HBx9 : Hid (BoxIs wD.drew b1 #[.int .i64 4, .string out1, .string ⟨#[]⟩, .int .i64 v0, .int .i64 v1] stepTy) := HD1
      have HBa : Hid (∀ ob, BoxIs (wD.drew.alloc ob) b1 #[.int .i64 4, .string out1, .string ⟨#[]⟩, .int .i64 v0, .int .i64 v1] stepTy) := Lib.hid (fun ob => BoxIs.under HBx9.out (bAlloc (Below.refl _ _) ob))
      have HGr : Hid (∀ ob w', (wD.drew.alloc ob).grownBy w' (Value.slice sa S.length sc).ownBlock → BoxIs w' b1 #[.int .i64 4, .string out1, .string ⟨#[]⟩, .int .i64 v0, .int .i64 v1] stepTy) := Lib.hid (fun ob w' hg => (hg.block b1 (HBa.out ob).lt (fun e => by
        obtain ⟨_, cc, hc⟩ := HX0.out.2.1.base b1 e.symm
        have h1 := (Array.getElem?_eq_some_iff.1 hc).1
        have h2 := HBe.out
        omega)).trans (HBa.out ob))
      have HKw : Hid (PKept w0.heap.size p w wD.drew) := Lib.hid (PKept.of (drB0 (bTrans HBf.out HDw.out)) hzz)
      refine wp_region_seqU (fun W => W.cell? ⟨p, 0, none⟩ = some (.slice sa S.length sc) ∧ BoxIs W b1 #[.int .i64 4, .string out1, .string ⟨#[]⟩, .int .i64 v0, .int .i64 v1] stepTy) 10 [(0, true), (1, true), (2, true), (3, true), (4, true), (5, true), (6, false), (7, false), (8, true), (9, true), (10, false)] (by as_aux_lemma => kernel_rfl) (by as_aux_lemma => kernel_rfl) (by as_aux_lemma => kernel_rfl) (by decide) (by as_aux_lemma => kernel_rfl) (by decide) ⟨c0, HBx9.out⟩ ?_
      intro OPS HO
      refine seqT_take (o := ⟨_, _, _, _, _, _⟩) (v := ?_) (by rw [HO.out]; rfl) (by rfl) ?_ ?_
      rotate_left 1
      · first | ((intro W _; go_simp) <;> with_reducible rfl) | (intro W hW; have s1 := hW.1; have t0 := hW.2.cell (j := 0) rfl; have t1 := hW.2.cell (j := 1) rfl; have t2 := hW.2.cell (j := 2) rfl; have t3 := hW.2.cell (j := 3) rfl; have t4 := hW.2.cell (j := 4) rfl; (go_simp <;> with_reducible rfl))
      try simp only [Act.put, List.setIfInBounds_toArray, List.set_cons_zero, List.set_cons_succ]
      refine seqT_take (o := ⟨_, _, _, _, _, _⟩) (v := ?_) (by rw [HO.out]; rfl) (by rfl) ?_ ?_
      rotate_left 1
      · first | ((intro W _; go_simp) <;> with_reducible rfl) | (intro W hW; have s1 := hW.1; have t0 := hW.2.cell (j := 0) rfl; have t1 := hW.2.cell (j := 1) rfl; have t2 := hW.2.cell (j := 2) rfl; have t3 := hW.2.cell (j := 3) rfl; have t4 := hW.2.cell (j := 4) rfl; (go_simp <;> with_reducible rfl))
      try simp only [Act.put, List.setIfInBounds_toArray, List.set_cons_zero, List.set_cons_succ]
      refine seqT_take (o := ⟨_, _, _, _, _, _⟩) (v := ?_) (by rw [HO.out]; rfl) (by rfl) ?_ ?_
      rotate_left 1
      · first | ((intro W _; go_simp) <;> with_reducible rfl) | (intro W hW; have s1 := hW.1; have t0 := hW.2.cell (j := 0) rfl; have t1 := hW.2.cell (j := 1) rfl; have t2 := hW.2.cell (j := 2) rfl; have t3 := hW.2.cell (j := 3) rfl; have t4 := hW.2.cell (j := 4) rfl; (go_simp <;> with_reducible rfl))
      try simp only [Act.put, List.setIfInBounds_toArray, List.set_cons_zero, List.set_cons_succ]
      refine seqT_take (o := ⟨_, _, _, _, _, _⟩) (v := ?_) (by rw [HO.out]; rfl) (by rfl) ?_ ?_
      rotate_left 1
      · first | ((intro W _; go_simp) <;> with_reducible rfl) | (intro W hW; have s1 := hW.1; have t0 := hW.2.cell (j := 0) rfl; have t1 := hW.2.cell (j := 1) rfl; have t2 := hW.2.cell (j := 2) rfl; have t3 := hW.2.cell (j := 3) rfl; have t4 := hW.2.cell (j := 4) rfl; (go_simp <;> with_reducible rfl))
      try simp only [Act.put, List.setIfInBounds_toArray, List.set_cons_zero, List.set_cons_succ]
      refine seqT_take (o := ⟨_, _, _, _, _, _⟩) (v := ?_) (by rw [HO.out]; rfl) (by rfl) ?_ ?_
      rotate_left 1
      · first | ((intro W _; go_simp) <;> with_reducible rfl) | (intro W hW; have s1 := hW.1; have t0 := hW.2.cell (j := 0) rfl; have t1 := hW.2.cell (j := 1) rfl; have t2 := hW.2.cell (j := 2) rfl; have t3 := hW.2.cell (j := 3) rfl; have t4 := hW.2.cell (j := 4) rfl; (go_simp <;> with_reducible rfl))
      try simp only [Act.put, List.setIfInBounds_toArray, List.set_cons_zero, List.set_cons_succ]
      refine seqT_take (o := ⟨_, _, _, _, _, _⟩) (v := ?_) (by rw [HO.out]; rfl) (by rfl) ?_ ?_
      rotate_left 1
      · first | ((intro W _; go_simp) <;> with_reducible rfl) | (intro W hW; have s1 := hW.1; have t0 := hW.2.cell (j := 0) rfl; have t1 := hW.2.cell (j := 1) rfl; have t2 := hW.2.cell (j := 2) rfl; have t3 := hW.2.cell (j := 3) rfl; have t4 := hW.2.cell (j := 4) rfl; (go_simp <;> with_reducible rfl))
      try simp only [Act.put, List.setIfInBounds_toArray, List.set_cons_zero, List.set_cons_succ]
      refine seqT_do (o := ⟨_, _, _, _, _, _⟩) (by rw [HO.out]; rfl) (by rfl) (fun K hK => ?_)
      go_wp2_with fail
      refine hK.out _ _ (fun _ => ⟨c0a _, HBa.out _⟩) ?_
      clear hK K
      try simp only [Act.put, List.setIfInBounds_toArray, List.set_cons_zero, List.set_cons_succ]
      refine seqT_do (o := ⟨_, _, _, _, _, _⟩) (by rw [HO.out]; rfl) (by rfl) (fun K hK => ?_)
      refine wp_appSt hz9 HX9.out.2.1 (by omega) ⟨4, out1, ⟨#[]⟩, v0, v1⟩ (.tmp 188) (.tmp 190) rfl rfl rfl ?_
      intro g cap' w' hown' hg
      obtain ⟨q1, q2, q3⟩ := planAt_step hzp hz9 HX9.out.1 HX9.out.2.1 HX9.out.2.2 hown' hg
      have d1 := q1.cell (j := 0) rfl
      have df := Lib.frozen_of_heap q1 0
      have d2 := Lib.hid (HGr.out _ _ hg)
      have HQF := Lib.hid (And.intro q2 q3)
      clear q1 q2 q3 hown' hg
      refine hK.out _ _ (fun _ => ⟨d1, d2.out⟩) ?_
      clear hK K
      try simp only [Act.put, List.setIfInBounds_toArray, List.set_cons_zero, List.set_cons_succ]
      refine seqT_take (o := ⟨_, _, _, _, _, _⟩) (v := ?_) (by rw [HO.out]; rfl) (by rfl) ?_ ?_
      rotate_left 1
      · first | ((intro W _; go_simp) <;> with_reducible rfl) | (intro W hW; have s1 := hW.1; have t0 := hW.2.cell (j := 0) rfl; have t1 := hW.2.cell (j := 1) rfl; have t2 := hW.2.cell (j := 2) rfl; have t3 := hW.2.cell (j := 3) rfl; have t4 := hW.2.cell (j := 4) rfl; (go_simp <;> with_reducible rfl))
      try simp only [Act.put, List.setIfInBounds_toArray, List.set_cons_zero, List.set_cons_succ]
      refine seqT_take (o := ⟨_, _, _, _, _, _⟩) (v := ?_) (by rw [HO.out]; rfl) (by rfl) ?_ ?_
      rotate_left 1
      · first | ((intro W _; go_simp) <;> with_reducible rfl) | (intro W hW; have s1 := hW.1; have t0 := hW.2.cell (j := 0) rfl; have t1 := hW.2.cell (j := 1) rfl; have t2 := hW.2.cell (j := 2) rfl; have t3 := hW.2.cell (j := 3) rfl; have t4 := hW.2.cell (j := 4) rfl; (go_simp <;> with_reducible rfl))
      try simp only [Act.put, List.setIfInBounds_toArray, List.set_cons_zero, List.set_cons_succ]
      refine seqT_do (o := ⟨_, _, _, _, _, _⟩) (by rw [HO.out]; rfl) (by rfl) (fun K hK => ?_)
      go_wp2_with fail
      refine hK.out _ _ (fun h => absurd rfl h) ?_
      clear hK K
      try simp only [Act.put, List.setIfInBounds_toArray, List.set_cons_zero, List.set_cons_succ]
      refine seqT_done ?_
      generalize w'.setCell _ _ = wf at *
      clear d1 d2 df c0 c0a
      go_wp2_with fail
      go_ret
      refine ⟨_, S ++ [⟨4, out1, ⟨#[]⟩, v0, v1⟩], [], rfl, HQF.out.1, HKw.out.trans HQF.out.2, by simp; try omega, ?_⟩
      exact HFin.out
    · have HFin : Hid (LineStep S [] line.data.toList true (S ++ [⟨4, out1, ⟨#[]⟩, v0, v1⟩]) []) := Lib.hid ⟨fun _ => .inl ⟨⟨4, out1, ⟨#[]⟩, v0, v1⟩, HOf.out _ (Wh.two_behind (by rfl) (by rfl) (by decide) (by decide) ((HLn.out.1 (by omega)).2) ((HLn.out.2.1 (by omega)).2) (by rw [← HY.out.2]; simp [(HLn.out.1 (by omega)).1, (HLn.out.2.1 (by omega)).1, HU.out.1 rfl])), rfl, rfl, rfl⟩, fun h => (by cases h)⟩
      go_upto_region 50 with fail
      have HX9 : Hid (PlanX w0.heap.size wD.drew p S [] sm by' sa sc ra rc) := Lib.hid (HX0.out.under (drB0 (bTrans H25.out HDw.out)))
      have hz9 : w0.heap.size ≤ wD.drew.heap.size := by
        have := HDw.out.size
        show w0.heap.size ≤ wD.heap.size
        omega
      have c0 := HX9.out.1.cell (j := 0) rfl
      have c0a := fun ob => (BoxIs.under HX9.out.1 (bAlloc (Below.refl _ _) ob)).cell (j := 0) rfl
      have HBx9 : Hid (BoxIs wD.drew b1 #[.int .i64 4, .string out1, .string ⟨#[]⟩, .int .i64 v0, .int .i64 v1] stepTy) := HD1
      have HBa : Hid (∀ ob, BoxIs (wD.drew.alloc ob) b1 #[.int .i64 4, .string out1, .string ⟨#[]⟩, .int .i64 v0, .int .i64 v1] stepTy) := Lib.hid (fun ob => BoxIs.under HBx9.out (bAlloc (Below.refl _ _) ob))
      have HGr : Hid (∀ ob w', (wD.drew.alloc ob).grownBy w' (Value.slice sa S.length sc).ownBlock → BoxIs w' b1 #[.int .i64 4, .string out1, .string ⟨#[]⟩, .int .i64 v0, .int .i64 v1] stepTy) := Lib.hid (fun ob w' hg => (hg.block b1 (HBa.out ob).lt (fun e => by
        obtain ⟨_, cc, hc⟩ := HX0.out.2.1.base b1 e.symm
        have h1 := (Array.getElem?_eq_some_iff.1 hc).1
        have h2 := HBe.out
        omega)).trans (HBa.out ob))
      have HKw : Hid (PKept w0.heap.size p w wD.drew) := Lib.hid (PKept.of (drB0 (bTrans HBf.out HDw.out)) hzz)
      refine wp_region_seqU (fun W => W.cell? ⟨p, 0, none⟩ = some (.slice sa S.length sc) ∧ BoxIs W b1 #[.int .i64 4, .string out1, .string ⟨#[]⟩, .int .i64 v0, .int .i64 v1] stepTy) 10 [(0, true), (1, true), (2, true), (3, true), (4, true), (5, true), (6, false), (7, false), (8, true), (9, true), (10, false)] (by as_aux_lemma => kernel_rfl) (by as_aux_lemma => kernel_rfl) (by as_aux_lemma => kernel_rfl) (by decide) (by as_aux_lemma => kernel_rfl) (by decide) ⟨c0, HBx9.out⟩ ?_
      intro OPS HO
      refine seqT_take (o := ⟨_, _, _, _, _, _⟩) (v := ?_) (by rw [HO.out]; rfl) (by rfl) ?_ ?_
      rotate_left 1
      · first | ((intro W _; go_simp) <;> with_reducible rfl) | (intro W hW; have s1 := hW.1; have t0 := hW.2.cell (j := 0) rfl; have t1 := hW.2.cell (j := 1) rfl; have t2 := hW.2.cell (j := 2) rfl; have t3 := hW.2.cell (j := 3) rfl; have t4 := hW.2.cell (j := 4) rfl; (go_simp <;> with_reducible rfl))
      try simp only [Act.put, List.setIfInBounds_toArray, List.set_cons_zero, List.set_cons_succ]
      refine seqT_take (o := ⟨_, _, _, _, _, _⟩) (v := ?_) (by rw [HO.out]; rfl) (by rfl) ?_ ?_
      rotate_left 1
      · first | ((intro W _; go_simp) <;> with_reducible rfl) | (intro W hW; have s1 := hW.1; have t0 := hW.2.cell (j := 0) rfl; have t1 := hW.2.cell (j := 1) rfl; have t2 := hW.2.cell (j := 2) rfl; have t3 := hW.2.cell (j := 3) rfl; have t4 := hW.2.cell (j := 4) rfl; (go_simp <;> with_reducible rfl))
      try simp only [Act.put, List.setIfInBounds_toArray, List.set_cons_zero, List.set_cons_succ]
      refine seqT_take (o := ⟨_, _, _, _, _, _⟩) (v := ?_) (by rw [HO.out]; rfl) (by rfl) ?_ ?_
      rotate_left 1
      · first | ((intro W _; go_simp) <;> with_reducible rfl) | (intro W hW; have s1 := hW.1; have t0 := hW.2.cell (j := 0) rfl; have t1 := hW.2.cell (j := 1) rfl; have t2 := hW.2.cell (j := 2) rfl; have t3 := hW.2.cell (j := 3) rfl; have t4 := hW.2.cell (j := 4) rfl; (go_simp <;> with_reducible rfl))
      try simp only [Act.put, List.setIfInBounds_toArray, List.set_cons_zero, List.set_cons_succ]
      refine seqT_take (o := ⟨_, _, _, _, _, _⟩) (v := ?_) (by rw [HO.out]; rfl) (by rfl) ?_ ?_
      rotate_left 1
      · first | ((intro W _; go_simp) <;> with_reducible rfl) | (intro W hW; have s1 := hW.1; have t0 := hW.2.cell (j := 0) rfl; have t1 := hW.2.cell (j := 1) rfl; have t2 := hW.2.cell (j := 2) rfl; have t3 := hW.2.cell (j := 3) rfl; have t4 := hW.2.cell (j := 4) rfl; (go_simp <;> with_reducible rfl))
      try simp only [Act.put, List.setIfInBounds_toArray, List.set_cons_zero, List.set_cons_succ]
      refine seqT_take (o := ⟨_, _, _, _, _, _⟩) (v := ?_) (by rw [HO.out]; rfl) (by rfl) ?_ ?_
      rotate_left 1
      · first | ((intro W _; go_simp) <;> with_reducible rfl) | (intro W hW; have s1 := hW.1; have t0 := hW.2.cell (j := 0) rfl; have t1 := hW.2.cell (j := 1) rfl; have t2 := hW.2.cell (j := 2) rfl; have t3 := hW.2.cell (j := 3) rfl; have t4 := hW.2.cell (j := 4) rfl; (go_simp <;> with_reducible rfl))
      try simp only [Act.put, List.setIfInBounds_toArray, List.set_cons_zero, List.set_cons_succ]
      refine seqT_take (o := ⟨_, _, _, _, _, _⟩) (v := ?_) (by rw [HO.out]; rfl) (by rfl) ?_ ?_
      rotate_left 1
      · first | ((intro W _; go_simp) <;> with_reducible rfl) | (intro W hW; have s1 := hW.1; have t0 := hW.2.cell (j := 0) rfl; have t1 := hW.2.cell (j := 1) rfl; have t2 := hW.2.cell (j := 2) rfl; have t3 := hW.2.cell (j := 3) rfl; have t4 := hW.2.cell (j := 4) rfl; (go_simp <;> with_reducible rfl))
      try simp only [Act.put, List.setIfInBounds_toArray, List.set_cons_zero, List.set_cons_succ]
      refine seqT_do (o := ⟨_, _, _, _, _, _⟩) (by rw [HO.out]; rfl) (by rfl) (fun K hK => ?_)
      go_wp2_with fail
      refine hK.out _ _ (fun _ => ⟨c0a _, HBa.out _⟩) ?_
      clear hK K
      try simp only [Act.put, List.setIfInBounds_toArray, List.set_cons_zero, List.set_cons_succ]
      refine seqT_do (o := ⟨_, _, _, _, _, _⟩) (by rw [HO.out]; rfl) (by rfl) (fun K hK => ?_)
      refine wp_appSt hz9 HX9.out.2.1 (by omega) ⟨4, out1, ⟨#[]⟩, v0, v1⟩ (.tmp 188) (.tmp 190) rfl rfl rfl ?_
      intro g cap' w' hown' hg
      obtain ⟨q1, q2, q3⟩ := planAt_step hzp hz9 HX9.out.1 HX9.out.2.1 HX9.out.2.2 hown' hg
      have d1 := q1.cell (j := 0) rfl
      have df := Lib.frozen_of_heap q1 0
      have d2 := Lib.hid (HGr.out _ _ hg)
      have HQF := Lib.hid (And.intro q2 q3)
      clear q1 q2 q3 hown' hg
      refine hK.out _ _ (fun _ => ⟨d1, d2.out⟩) ?_
      clear hK K
      try simp only [Act.put, List.setIfInBounds_toArray, List.set_cons_zero, List.set_cons_succ]
      refine seqT_take (o := ⟨_, _, _, _, _, _⟩) (v := ?_) (by rw [HO.out]; rfl) (by rfl) ?_ ?_
      rotate_left 1
      · first | ((intro W _; go_simp) <;> with_reducible rfl) | (intro W hW; have s1 := hW.1; have t0 := hW.2.cell (j := 0) rfl; have t1 := hW.2.cell (j := 1) rfl; have t2 := hW.2.cell (j := 2) rfl; have t3 := hW.2.cell (j := 3) rfl; have t4 := hW.2.cell (j := 4) rfl; (go_simp <;> with_reducible rfl))
      try simp only [Act.put, List.setIfInBounds_toArray, List.set_cons_zero, List.set_cons_succ]
      refine seqT_take (o := ⟨_, _, _, _, _, _⟩) (v := ?_) (by rw [HO.out]; rfl) (by rfl) ?_ ?_
      rotate_left 1
      · first | ((intro W _; go_simp) <;> with_reducible rfl) | (intro W hW; have s1 := hW.1; have t0 := hW.2.cell (j := 0) rfl; have t1 := hW.2.cell (j := 1) rfl; have t2 := hW.2.cell (j := 2) rfl; have t3 := hW.2.cell (j := 3) rfl; have t4 := hW.2.cell (j := 4) rfl; (go_simp <;> with_reducible rfl))
      try simp only [Act.put, List.setIfInBounds_toArray, List.set_cons_zero, List.set_cons_succ]
      refine seqT_do (o := ⟨_, _, _, _, _, _⟩) (by rw [HO.out]; rfl) (by rfl) (fun K hK => ?_)
      go_wp2_with fail
      refine hK.out _ _ (fun h => absurd rfl h) ?_
      clear hK K
      try simp only [Act.put, List.setIfInBounds_toArray, List.set_cons_zero, List.set_cons_succ]
      refine seqT_done ?_
      generalize w'.setCell _ _ = wf at *
      clear d1 d2 df c0 c0a
      go_wp2_with fail
      go_ret
      refine ⟨_, S ++ [⟨4, out1, ⟨#[]⟩, v0, v1⟩], [], rfl, HQF.out.1, HKw.out.trans HQF.out.2, by simp; try omega, ?_⟩
      exact HFin.out

set_option maxHeartbeats 8000000 in
set_option maxRecDepth 100000 in
theorem planLine_k5  (w0 : World) (p : Nat) (S : List PStep) (R : List PRef) (sm by' : Int) (line : ByteArray) (w : World) (hX : EnvX w0) (hT : EnvT w0) (hB : Below w0.heap.size w0 w) (hP : PlanAt w0.heap.size w p S R sm by') (hl : line.size ≤ 2000000) (hn : S.length + R.length ≤ 1500000) (L : List (List UInt8)) (hw : ∀ x ∈ L, Wh.isW x) (hne : L ≠ []) (hlw : line.data.toList = Wh.lineW L) (r : List (List UInt8)) (hr : L = Wh.stepW.getD 5 [] :: r) (hR : R = []) : Calls Tryz.prog 27 #[.pointer (some ⟨p, 0, none⟩), .string line, .bool false] w (LinePost w0.heap.size p S R sm by' line.data.toList w) := by
  have HPW := Lib.hid (pWords_any line w hl)
  have HL := Lib.hid (And.intro hw (And.intro hne hlw))
  have HR := Lib.hid hr
  have HP0 := Lib.hid hP
  have hzz := hB.size
  have hzp := hP.1
  have hpl : p < w.heap.size := by
    obtain ⟨_, sa, sc, ra, rc, h1, _⟩ := hP
    exact h1.lt
  have HXX := Lib.hid (hX.under hB)
  have HTT := Lib.hid (hT.under hB)
  subst hR
  clear hw hne hlw hr hP hB hX hT
  go_enter Tryz.func27, Tryz.ntmps27
  go_upto_region 2 with (go_at_call 77; refine HPW.out.mono ?_; rintro e w2 hpw; rcases hpw with ⟨rfl, hb1, hno⟩ | ⟨ws, a, cap, rfl, hO, hne1, hws, hlw1⟩)
  · exact absurd ⟨L, HL.out.2.1, HL.out.1, HL.out.2.2⟩ hno
  obtain ⟨g0, rfl, hg0, hg1, hcells⟩ := ownS_at hO hne1
  have HM : Hid (ws.map (·.data.toList) = L) := Lib.hid (Wh.lineW_inj hws HL.out.1 (hlw1.symm.trans HL.out.2.2))
  have HB2 := Lib.hid hO.below
  have HCl := Lib.hid hcells
  clear hO hws hlw1 hcells hne1
  obtain ⟨y0, ys, rfl⟩ : ∃ y0 ys, ws = y0 :: ys := by
    cases ws with
    | nil => exact absurd HM.out.symm HL.out.2.1
    | cons y0 ys => exact ⟨y0, ys, rfl⟩
  have x0 := HCl.out 0 y0 rfl
  have hl0 : 0 < (y0 :: ys).length := by simp
  have HY : Hid (y0.data.toList = Wh.stepW.getD 5 [] ∧ ys.map (·.data.toList) = r) := Lib.hid (by
    have := HM.out.trans HR.out
    injection this with h1 h2
    exact ⟨h1, h2⟩)
  have HBk : Hid (∀ t, Wh.StepLineL line.data.toList t → Wh.Behind 5 r t) := Lib.hid (fun t ht => Wh.behind_of (by decide) (HR.out ▸ HL.out.1) (HR.out ▸ HL.out.2.2) ht)
  have HOf : Hid (∀ t, Wh.Behind 5 r t → Wh.StepLineL line.data.toList t) := Lib.hid (fun t ht => Wh.of_behind (HR.out ▸ HL.out.2.2) ht)
  have HNr : Hid (∀ u q, ¬ Wh.RefLineL line.data.toList u q) := Lib.hid (Wh.other_ref (Wh.stepW_ref _ (by decide)) (HR.out ▸ HL.out.1) (HR.out ▸ HL.out.2.2))
  have HSz : Hid (∀ y ∈ ys, y.size ≤ line.size) := Lib.hid (fun y hy => by
    have h1 := mem_lineW (List.mem_map_of_mem (f := (·.data.toList)) (List.mem_cons_of_mem y0 hy))
    rw [HM.out, ← HL.out.2.2] at h1
    rw [Lib.size_eq, Lib.size_eq]
    exact h1)
  have hq : (y0.toList == [114, 101, 102, 117, 115, 101, 100]) = false := by
    rw [Lib.toList_data, HY.out.1]
    exact beq_eq_false_iff_ne.2 (Wh.stepW_ref _ (by decide))
  obtain ⟨_, sa, sc, ra, rc, hx⟩ := HP0.out.under HB2.out
  have HX0 : Hid (PlanX w0.heap.size w2 p S [] sm by' sa sc ra rc) := Lib.hid hx
  have c1 := hx.1.cell (j := 1) rfl
  clear hx
  have HSn := Lib.hid (fun W => stepNames_any W)
  have HIx : Hid (Lib.idxOfS (stepZs.take 11) y0 = ((5 : Nat) : Int)) := Lib.hid (by
    rcases idx_step y0 with ⟨j, k1, k2, k3⟩ | ⟨h, _⟩
    · rw [HY.out.1] at k2
      rw [k3, Wh.stepW_inj _ (Nat.lt_succ_of_le (by decide)) _ (Nat.lt_succ_of_le k1) k2]
    · exact absurd HY.out.1 (h _ (by decide)))
  have HF5 : Hid (∀ w5, w5 = w2.drew.alloc (.cells (stepZs.map Value.string).toArray 9) → Below w.heap.size w w5 ∧ BoxIs w5 w2.heap.size (stepZs.map Value.string).toArray 9 ∧ w5.cell? ⟨g0, 0, none⟩ = some (.string y0)) := Lib.hid (by
    rintro _ rfl
    exact ⟨bAlloc (drB0 HB2.out) _, BoxIs.new w2.drew _ _, ((bAlloc (drB0 (Below.refl w2.heap.size w2)) _).cell (cell_lt x0)).trans x0⟩)
  have HCl2 : Hid (∀ w5, w5 = w2.drew.alloc (.cells (stepZs.map Value.string).toArray 9) → Below w2.heap.size w2 w5) := Lib.hid (by
    rintro _ rfl
    exact bAlloc (drB0 (Below.refl w2.heap.size w2)) _)
  obtain ⟨nl, hnl⟩ : ∃ nl, (y0 :: ys).length = nl := ⟨_, rfl⟩
  have HNl := Lib.hid hnl
  rw [hnl] at hl0
  simp only [hnl]
  clear hnl
  have hl0' : (0 : Int) < (nl : Int) := by omega
  go_upto_region 20 with fail
  clear c1
  refine wp_region_seq (fun W => W.cell? ⟨g0, 0, none⟩ = some (.string y0)) [(1, true), (2, true), (3, true), (0, false), (4, false), (5, true)] (by as_aux_lemma => kernel_rfl) (by as_aux_lemma => kernel_rfl) (by decide) (by as_aux_lemma => kernel_rfl) x0 ?_
  intro OPS HO
  refine seq_take (o := ⟨_, _, _, _, _, _⟩) (v := ?_) (by rw [HO.out]; rfl) (by rfl) ?_ ?_
  rotate_left 1
  · first | ((intro W _; go_simp) <;> with_reducible rfl) | (intro W hW; have s1 := hW; (go_simp <;> with_reducible rfl))
  try simp only [Act.put, List.setIfInBounds_toArray, List.set_cons_zero, List.set_cons_succ]
  refine seq_take (o := ⟨_, _, _, _, _, _⟩) (v := ?_) (by rw [HO.out]; rfl) (by rfl) ?_ ?_
  rotate_left 1
  · first | ((intro W _; go_simp) <;> with_reducible rfl) | (intro W hW; have s1 := hW; (go_simp <;> with_reducible rfl))
  try simp only [Act.put, List.setIfInBounds_toArray, List.set_cons_zero, List.set_cons_succ]
  refine seq_take (o := ⟨_, _, _, _, _, _⟩) (v := ?_) (by rw [HO.out]; rfl) (by rfl) ?_ ?_
  rotate_left 1
  · first | ((intro W _; go_simp) <;> with_reducible rfl) | (intro W hW; have s1 := hW; (go_simp <;> with_reducible rfl))
  try simp only [Act.put, List.setIfInBounds_toArray, List.set_cons_zero, List.set_cons_succ]
  refine seq_do (o := ⟨_, _, _, _, _, _⟩) (by rw [HO.out]; rfl) (by rfl) (fun K hK => ?_)
  go_wp2_with (go_at_call 81; (with_reducible refine (HSn.out _).mono ?_); rintro e w5 ⟨rfl, hw5⟩; obtain ⟨hb5, hx5, hS⟩ := HF5.out _ hw5; have H25 := Lib.hid (HCl2.out _ hw5); have HBf := Lib.hid hb5; have HBx := Lib.hid hx5; clear hw5 hb5 hx5)
  have HSi := Lib.hid (sliceIndex_any w5 w2.heap.size y0 HBx.out)
  rw [HIx.out] at HSi
  refine hK.out _ _ hS (fun _ => ?_)
  clear hK K
  try simp only [Act.put, List.setIfInBounds_toArray, List.set_cons_zero, List.set_cons_succ]
  refine seq_do (o := ⟨_, _, _, _, _, _⟩) (by rw [HO.out]; rfl) (by rfl) (fun K hK => ?_)
  go_wp2_with (go_at_call 80; (with_reducible refine HSi.out.mono ?_); rintro e w6 ⟨rfl, hw6⟩; subst w6)
  refine hK.out _ _ hS (fun _ => ?_)
  clear hK K
  try simp only [Act.put, List.setIfInBounds_toArray, List.set_cons_zero, List.set_cons_succ]
  refine seq_take (o := ⟨_, _, _, _, _, _⟩) (v := ?_) (by rw [HO.out]; rfl) (by rfl) ?_ ?_
  rotate_left 1
  · first | ((intro W _; go_simp) <;> with_reducible rfl) | (intro W hW; have s1 := hW; (go_simp <;> with_reducible rfl))
  try simp only [Act.put, List.setIfInBounds_toArray, List.set_cons_zero, List.set_cons_succ]
  refine seq_done ?_
  have hlen : nl = 4 ∨ nl ≠ 4 := by omega
  rcases hlen with hlen | hlen
  rotate_left 1
  · have hlen' : ¬ (nl : Int) = 4 := by omega
    have HFin : Hid (LineStep S [] line.data.toList false S []) := Lib.hid (LineStep.bad (fun t ht => by
      have h1 := Wh.behind_two (by rfl) (by rfl) (HBk.out t ht)
      rw [← HY.out.2] at h1
      have h2 := congrArg List.length h1
      have h3 := HNl.out
      simp at h2 h3
      omega) HNr.out)
    go_wp2_with fail
    go_ret
    exact ⟨false, S, [], rfl, HP0.out.under (bAlloc HBf.out _), PKept.of (bAlloc HBf.out _) hzz, by omega, HFin.out⟩
  obtain ⟨y1, y2, y3, rfl⟩ : ∃ y1 y2 y3, ys = [y1, y2, y3] := by
    have h3 := HNl.out
    rw [hlen] at h3
    match ys, h3 with
    | [y1, y2, y3], _ => exact ⟨y1, y2, y3, rfl⟩
  subst hlen
  have hb15 := HBf.out.size
  have hz5 : w2.heap.size ≤ w5.heap.size := H25.out.size
  have x1 : w5.cell? ⟨g0, 1, none⟩ = some (.string y1) := by
    have := HCl.out 1 y1 rfl
    exact (H25.out.cell (cell_lt this)).trans this
  have hsz1 := HSz.out y1 (by simp)
  have x2 : w5.cell? ⟨g0, 2, none⟩ = some (.string y2) := by
    have := HCl.out 2 y2 rfl
    exact (H25.out.cell (cell_lt this)).trans this
  have hsz2 := HSz.out y2 (by simp)
  have x3 : w5.cell? ⟨g0, 3, none⟩ = some (.string y3) := by
    have := HCl.out 3 y3 rfl
    exact (H25.out.cell (cell_lt this)).trans this
  have hsz3 := HSz.out y3 (by simp)
  have HXc : Hid (w5.cell? ⟨g0, 1, none⟩ = some (.string y1) ∧ w5.cell? ⟨g0, 2, none⟩ = some (.string y2) ∧ w5.cell? ⟨g0, 3, none⟩ = some (.string y3)) := Lib.hid ⟨x1, x2, x3⟩
  clear hS x0
  have hg5 : g0 < w5.heap.size := by omega
  have HNa := Lib.hid (BoxIs.new w5 #[.int .i64 5, .string ⟨#[]⟩, .string ⟨#[]⟩, .int .i64 0, .int .i64 0] stepTy)
  have HNb := Lib.hid (bAlloc (Below.refl w5.heap.size w5) (.cells #[.int .i64 5, .string ⟨#[]⟩, .string ⟨#[]⟩, .int .i64 0, .int .i64 0] stepTy))
  have HBe0 : w5.heap.size = w5.heap.size := rfl
  go_upto_region 24 with fail
  generalize w5.alloc _ = w6 at *
  obtain ⟨b1, hb1⟩ : ∃ b, b = w5.heap.size := ⟨_, rfl⟩
  rw [← hb1]
  rw [← hb1] at HNa
  have HBe : Hid (w2.heap.size ≤ b1) := Lib.hid (by omega)
  have hgb : g0 < b1 := by omega
  have hb1le : w5.heap.size ≤ b1 := by omega
  clear hb1 HBe0 hz5
  have HNc := Lib.hid (BoxIs.new w6 #[.int .i64 0, .int .i64 0] arrTy)
  have HNd := Lib.hid (bAlloc (Below.refl w6.heap.size w6) (.cells #[.int .i64 0, .int .i64 0] arrTy))
  go_upto_region 37 with fail
  generalize w6.alloc _ = w7 at *
  obtain ⟨b2, hb2⟩ : ∃ b, b = w6.heap.size := ⟨_, rfl⟩
  rw [← hb2]
  rw [← hb2] at HNc
  have hne : b2 ≠ b1 := by
    have := HNa.out.lt
    omega
  have hb2le : w5.heap.size ≤ b2 := by
    have := HNa.out.lt
    omega
  clear hb2
  have HN7 : Hid (BoxIs w7 b1 #[.int .i64 5, .string ⟨#[]⟩, .string ⟨#[]⟩, .int .i64 0, .int .i64 0] stepTy ∧ Below w5.heap.size w5 w7) := Lib.hid ⟨BoxIs.under HNa.out HNd.out, bTrans HNb.out HNd.out⟩
  clear HNa HNb HNd
  go_wp2_with fail
  go_loopg [131] 2 (fun g s131 wx => ∃ (i : Nat) (v0 v1 : Int), i + g = 2 ∧ s131 = .int .i64 i ∧ Hid (BoxIs wx b2 #[.int .i64 v0, .int .i64 v1] arrTy) ∧ Hid (BoxIs wx b1 #[.int .i64 5, .string ⟨#[]⟩, .string ⟨#[]⟩, .int .i64 0, .int .i64 0] stepTy) ∧ Hid (Below w5.heap.size w5 wx) ∧ Hid (NumsL y1.data.toList y2.data.toList i v0 v1))
  case atStart => exact ⟨0, 0, 0, by omega, by go_num, HNc, Lib.hid HN7.out.1, Lib.hid HN7.out.2, Lib.hid ⟨fun h => by omega, fun h => by omega, fun _ => rfl, fun _ => rfl⟩⟩
  case round =>
    obtain ⟨i, v0, v1, hi, rfl, HLb, HL1, HLw, HLn⟩ := hrel
    by_cases hi0 : i = 0
    · subst hi0
      obtain rfl : gk = 2 := by omega
      have xw : wr.cell? ⟨g0, 1, none⟩ = some (.string y1) := (HLw.out.cell (cell_lt (w := w5) (p := ⟨g0, 1, none⟩) HXc.out.1)).trans HXc.out.1
      have HWh := Lib.hid (whole_any y1 wr ((HXX.out.under HBf.out).under HLw.out) ((HTT.out.under HBf.out).under HLw.out) (by omega))
      go_upto_region 41 with (go_at_call 78; refine HWh.out.mono ?_; rintro e w8 ⟨v, ok, rfl, hb8, hn1, hn2⟩; have HN := Lib.hid (And.intro hn1 hn2); have df := Lib.frozen_of_heap (BoxIs.under HLb.out hb8) 0; have dc := (BoxIs.under HLb.out hb8).cell (j := 0) rfl; have H8 := Lib.hid hb8; clear hb8 hn1 hn2)
      clear xw df dc
      have H9 : Hid (BoxIs (w8.setCell ⟨b2, 0, none⟩ (.int .i64 v)) b2 #[.int .i64 v, .int .i64 v1] arrTy ∧ BoxIs (w8.setCell ⟨b2, 0, none⟩ (.int .i64 v)) b1 #[.int .i64 5, .string ⟨#[]⟩, .string ⟨#[]⟩, .int .i64 0, .int .i64 0] stepTy ∧ Below w5.heap.size w5 (w8.setCell ⟨b2, 0, none⟩ (.int .i64 v))) := Lib.hid ⟨BoxIs.setAt (BoxIs.under HLb.out H8.out) 0 (.int .i64 v), BoxIs.other (BoxIs.under HL1.out H8.out) hne.symm _ _, Below.setCell (bTrans HLw.out H8.out) hb2le _⟩
      generalize w8.setCell _ _ = w9 at *
      cases ok
      · have HFin : Hid (LineStep S [] line.data.toList false S []) := Lib.hid (LineStep.bad (fun t ht => by
          have hbk := HBk.out t ht
          have h1 := Wh.behind_two (by rfl) (by rfl) hbk
          rw [← HY.out.2] at h1
          simp at h1
          have h2 := HN.out.2 t.size ⟨h1.1, hbk.2.2.1⟩
          cases h2) HNr.out)
        go_wp2_with fail
        go_ret
        exact ⟨false, S, [], rfl, HP0.out.under (bTrans HBf.out H9.out.2.2), PKept.of (bTrans HBf.out H9.out.2.2) hzz, by omega, HFin.out⟩
      · have HLn2 : Hid (NumsL y1.data.toList y2.data.toList 1 v v1) := Lib.hid ⟨fun _ => HN.out.1 rfl, fun h => by omega, fun h => by omega, fun _ => HLn.out.2.2.2 (by omega)⟩
        go_wp2_with fail
        go_roundg 1
        case measure => omega
        case rel => exact ⟨1, v, v1, by omega, by go_num, Lib.hid H9.out.1, Lib.hid H9.out.2.1, Lib.hid H9.out.2.2, HLn2⟩
    by_cases hi1 : i = 1
    · subst hi1
      obtain rfl : gk = 1 := by omega
      have xw : wr.cell? ⟨g0, 2, none⟩ = some (.string y2) := (HLw.out.cell (cell_lt (w := w5) (p := ⟨g0, 2, none⟩) HXc.out.2.1)).trans HXc.out.2.1
      have HWh := Lib.hid (whole_any y2 wr ((HXX.out.under HBf.out).under HLw.out) ((HTT.out.under HBf.out).under HLw.out) (by omega))
      go_upto_region 41 with (go_at_call 78; refine HWh.out.mono ?_; rintro e w8 ⟨v, ok, rfl, hb8, hn1, hn2⟩; have HN := Lib.hid (And.intro hn1 hn2); have df := Lib.frozen_of_heap (BoxIs.under HLb.out hb8) 1; have dc := (BoxIs.under HLb.out hb8).cell (j := 1) rfl; have H8 := Lib.hid hb8; clear hb8 hn1 hn2)
      clear xw df dc
      have H9 : Hid (BoxIs (w8.setCell ⟨b2, 1, none⟩ (.int .i64 v)) b2 #[.int .i64 v0, .int .i64 v] arrTy ∧ BoxIs (w8.setCell ⟨b2, 1, none⟩ (.int .i64 v)) b1 #[.int .i64 5, .string ⟨#[]⟩, .string ⟨#[]⟩, .int .i64 0, .int .i64 0] stepTy ∧ Below w5.heap.size w5 (w8.setCell ⟨b2, 1, none⟩ (.int .i64 v))) := Lib.hid ⟨BoxIs.setAt (BoxIs.under HLb.out H8.out) 1 (.int .i64 v), BoxIs.other (BoxIs.under HL1.out H8.out) hne.symm _ _, Below.setCell (bTrans HLw.out H8.out) hb2le _⟩
      generalize w8.setCell _ _ = w9 at *
      cases ok
      · have HFin : Hid (LineStep S [] line.data.toList false S []) := Lib.hid (LineStep.bad (fun t ht => by
          have hbk := HBk.out t ht
          have h1 := Wh.behind_two (by rfl) (by rfl) hbk
          rw [← HY.out.2] at h1
          simp at h1
          have h2 := HN.out.2 t.time ⟨h1.2.1, hbk.2.2.2.1⟩
          cases h2) HNr.out)
        go_wp2_with fail
        go_ret
        exact ⟨false, S, [], rfl, HP0.out.under (bTrans HBf.out H9.out.2.2), PKept.of (bTrans HBf.out H9.out.2.2) hzz, by omega, HFin.out⟩
      · have HLn2 : Hid (NumsL y1.data.toList y2.data.toList 2 v0 v) := Lib.hid ⟨fun _ => HLn.out.1 (by omega), fun _ => HN.out.1 rfl, fun h => by omega, fun h => by omega⟩
        go_wp2_with fail
        go_roundg 0
        case measure => omega
        case rel => exact ⟨2, v0, v, by omega, by go_num, Lib.hid H9.out.1, Lib.hid H9.out.2.1, Lib.hid H9.out.2.2, HLn2⟩
    obtain rfl : i = 2 := by omega
    have e0 := HLb.out.cell (j := 0) rfl
    have df := Lib.frozen_of_heap HL1.out 4
    have dc := HL1.out.cell (j := 4) rfl
    go_upto_region 45 with fail
    have HA : Hid (BoxIs (wr.setCell ⟨b1, 4, none⟩ (.int .i64 v0)) b1 #[.int .i64 5, .string ⟨#[]⟩, .string ⟨#[]⟩, .int .i64 0, .int .i64 v0] stepTy ∧ BoxIs (wr.setCell ⟨b1, 4, none⟩ (.int .i64 v0)) b2 #[.int .i64 v0, .int .i64 v1] arrTy ∧ Below w5.heap.size w5 (wr.setCell ⟨b1, 4, none⟩ (.int .i64 v0))) := Lib.hid ⟨BoxIs.setAt HL1.out 4 _, BoxIs.other HLb.out hne _ _, Below.setCell HLw.out hb1le _⟩
    clear e0 df dc
    generalize wr.setCell _ _ = wA at *
    have HA1 := Lib.hid HA.out.1
    have HAw := Lib.hid HA.out.2.2
    go_upto_region 46 with fail
    have hab := HA.out.2.1
    refine wp_region_seq (fun W => BoxIs W b2 #[.int .i64 v0, .int .i64 v1] arrTy) [(0, true), (1, true), (2, true), (3, true), (4, true), (5, false), (6, true), (7, false)] (by as_aux_lemma => kernel_rfl) (by as_aux_lemma => kernel_rfl) (by decide) (by as_aux_lemma => kernel_rfl) hab ?_
    intro OPS HO
    refine seq_take (o := ⟨_, _, _, _, _, _⟩) (v := ?_) (by rw [HO.out]; rfl) (by rfl) ?_ ?_
    rotate_left 1
    · first | ((intro W _; go_simp) <;> with_reducible rfl) | (intro W hW; have s1 := hW.cell (j := 0) rfl; have s2 := hW.cell (j := 1) rfl; (go_simp <;> with_reducible rfl))
    try simp only [Act.put, List.setIfInBounds_toArray, List.set_cons_zero, List.set_cons_succ]
    refine seq_take (o := ⟨_, _, _, _, _, _⟩) (v := ?_) (by rw [HO.out]; rfl) (by rfl) ?_ ?_
    rotate_left 1
    · first | ((intro W _; go_simp) <;> with_reducible rfl) | (intro W hW; have s1 := hW.cell (j := 0) rfl; have s2 := hW.cell (j := 1) rfl; (go_simp <;> with_reducible rfl))
    try simp only [Act.put, List.setIfInBounds_toArray, List.set_cons_zero, List.set_cons_succ]
    refine seq_take (o := ⟨_, _, _, _, _, _⟩) (v := ?_) (by rw [HO.out]; rfl) (by rfl) ?_ ?_
    rotate_left 1
    · first | ((intro W _; go_simp) <;> with_reducible rfl) | (intro W hW; have s1 := hW.cell (j := 0) rfl; have s2 := hW.cell (j := 1) rfl; (go_simp <;> with_reducible rfl))
    try simp only [Act.put, List.setIfInBounds_toArray, List.set_cons_zero, List.set_cons_succ]
    refine seq_take (o := ⟨_, _, _, _, _, _⟩) (v := ?_) (by rw [HO.out]; rfl) (by rfl) ?_ ?_
    rotate_left 1
    · first | ((intro W _; go_simp) <;> with_reducible rfl) | (intro W hW; have s1 := hW.cell (j := 0) rfl; have s2 := hW.cell (j := 1) rfl; (go_simp <;> with_reducible rfl))
    try simp only [Act.put, List.setIfInBounds_toArray, List.set_cons_zero, List.set_cons_succ]
    refine seq_take (o := ⟨_, _, _, _, _, _⟩) (v := ?_) (by rw [HO.out]; rfl) (by rfl) ?_ ?_
    rotate_left 1
    · first | ((intro W _; go_simp) <;> with_reducible rfl) | (intro W hW; have s1 := hW.cell (j := 0) rfl; have s2 := hW.cell (j := 1) rfl; (go_simp <;> with_reducible rfl))
    try simp only [Act.put, List.setIfInBounds_toArray, List.set_cons_zero, List.set_cons_succ]
    refine seq_do (o := ⟨_, _, _, _, _, _⟩) (by rw [HO.out]; rfl) (by rfl) (fun K hK => ?_)
    have df := Lib.frozen_of_heap (w := wA.drew) HA1.out 3
    have dc := BoxIs.cell (w := wA.drew) (j := 3) HA1.out rfl
    have hS := BoxIs.other (w := wA.drew) hab hne 3 (.int .i64 v0)
    go_wp2_with fail
    refine hK.out _ _ hS (fun _ => ?_)
    clear hK K
    try simp only [Act.put, List.setIfInBounds_toArray, List.set_cons_zero, List.set_cons_succ]
    refine seq_take (o := ⟨_, _, _, _, _, _⟩) (v := ?_) (by rw [HO.out]; rfl) (by rfl) ?_ ?_
    rotate_left 1
    · first | ((intro W _; go_simp) <;> with_reducible rfl) | (intro W hW; have s1 := hW.cell (j := 0) rfl; have s2 := hW.cell (j := 1) rfl; (go_simp <;> with_reducible rfl))
    try simp only [Act.put, List.setIfInBounds_toArray, List.set_cons_zero, List.set_cons_succ]
    refine seq_do (o := ⟨_, _, _, _, _, _⟩) (by rw [HO.out]; rfl) (by rfl) (fun K hK => ?_)
    have df2 := Lib.frozen_of_heap (w := (wA.setCell ⟨b1, 3, none⟩ (.int .i64 v0)).drew) (BoxIs.setAt (w := wA) HA1.out 3 (.int .i64 v0)) 4
    have dc2 := BoxIs.cell (w := (wA.setCell ⟨b1, 3, none⟩ (.int .i64 v0)).drew) (j := 4) (BoxIs.setAt (w := wA) HA1.out 3 (.int .i64 v0)) rfl
    have hS := BoxIs.other hS hne 4 (.int .i64 v1)
    go_wp2_with fail
    refine hK.out _ _ hS (fun _ => ?_)
    clear hK K
    try simp only [Act.put, List.setIfInBounds_toArray, List.set_cons_zero, List.set_cons_succ]
    refine seq_done ?_
    have HB : Hid (BoxIs ((wA.setCell ⟨b1, 3, none⟩ (.int .i64 v0)).setCell ⟨b1, 4, none⟩ (.int .i64 v1)).drew b1 #[.int .i64 5, .string ⟨#[]⟩, .string ⟨#[]⟩, .int .i64 v0, .int .i64 v1] stepTy ∧ Below w5.heap.size w5 ((wA.setCell ⟨b1, 3, none⟩ (.int .i64 v0)).setCell ⟨b1, 4, none⟩ (.int .i64 v1)).drew) := Lib.hid ⟨BoxIs.setAt (BoxIs.setAt (w := wA) HA1.out 3 _) 4 _, drB0 (Below.setCell (Below.setCell HAw.out hb1le _) hb1le _)⟩
    try clear df
    try clear dc
    try clear df2
    try clear dc2
    try clear hS
    try clear hab
    generalize ((wA.setCell _ _).setCell _ _).drew = wB at *
    have HB1 := Lib.hid HB.out.1
    have HBw := Lib.hid HB.out.2
    have xw : wB.cell? ⟨g0, 3, none⟩ = some (.string y3) := (HBw.out.cell (cell_lt (w := w5) (p := ⟨g0, 3, none⟩) HXc.out.2.2)).trans HXc.out.2.2
    have HUn := Lib.hid (unquote_any y3 wB ((HXX.out.under HBf.out).under HBw.out) (by omega))
    go_upto_region 48 with (go_at_call 79; refine HUn.out.mono ?_; rintro e wC ⟨out1, ok1, rfl, hbC, hos, hn1, hn2⟩; have HU := Lib.hid (And.intro hn1 hn2); have df := Lib.frozen_of_heap (BoxIs.under HB1.out hbC) 1; have dc := (BoxIs.under HB1.out hbC).cell (j := 1) rfl; have HC := Lib.hid hbC; clear hbC hn1 hn2)
    clear xw df dc
    have HD : Hid (BoxIs (wC.setCell ⟨b1, 1, none⟩ (.string out1)) b1 #[.int .i64 5, .string out1, .string ⟨#[]⟩, .int .i64 v0, .int .i64 v1] stepTy ∧ Below w5.heap.size w5 (wC.setCell ⟨b1, 1, none⟩ (.string out1))) := Lib.hid ⟨BoxIs.setAt (BoxIs.under HB1.out HC.out) 1 _, Below.setCell (bTrans HBw.out HC.out) hb1le _⟩
    generalize wC.setCell _ _ = wD at *
    have HD1 := Lib.hid HD.out.1
    have HDw := Lib.hid HD.out.2
    cases ok1
    · have HFin : Hid (LineStep S [] line.data.toList false (S ++ [⟨5, out1, ⟨#[]⟩, v0, v1⟩]) []) := Lib.hid (LineStep.bad (fun t ht => by
          have h1 := Wh.behind_two (by rfl) (by rfl) (HBk.out t ht)
          rw [← HY.out.2] at h1
          simp at h1
          have h2 := HU.out.2 t.path h1.2.2
          cases h2) HNr.out)
      go_upto_region 50 with fail
      have HX9 : Hid (PlanX w0.heap.size wD.drew p S [] sm by' sa sc ra rc) := Lib.hid (HX0.out.under (drB0 (bTrans H25.out HDw.out)))
      have hz9 : w0.heap.size ≤ wD.drew.heap.size := by
        have := HDw.out.size
        show w0.heap.size ≤ wD.heap.size
        omega
      have c0 := HX9.out.1.cell (j := 0) rfl
      have c0a := fun ob => (BoxIs.under HX9.out.1 (bAlloc (Below.refl _ _) ob)).cell (j := 0) rfl
      have HBx9 : Hid (BoxIs wD.drew b1 #[.int .i64 5, .string out1, .string ⟨#[]⟩, .int .i64 v0, .int .i64 v1] stepTy) := HD1
      have HBa : Hid (∀ ob, BoxIs (wD.drew.alloc ob) b1 #[.int .i64 5, .string out1, .string ⟨#[]⟩, .int .i64 v0, .int .i64 v1] stepTy) := Lib.hid (fun ob => BoxIs.under HBx9.out (bAlloc (Below.refl _ _) ob))
      have HGr : Hid (∀ ob w', (wD.drew.alloc ob).grownBy w' (Value.slice sa S.length sc).ownBlock → BoxIs w' b1 #[.int .i64 5, .string out1, .string ⟨#[]⟩, .int .i64 v0, .int .i64 v1] stepTy) := Lib.hid (fun ob w' hg => (hg.block b1 (HBa.out ob).lt (fun e => by
        obtain ⟨_, cc, hc⟩ := HX0.out.2.1.base b1 e.symm
        have h1 := (Array.getElem?_eq_some_iff.1 hc).1
        have h2 := HBe.out
        omega)).trans (HBa.out ob))
      have HKw : Hid (PKept w0.heap.size p w wD.drew) := Lib.hid (PKept.of (drB0 (bTrans HBf.out HDw.out)) hzz)
      refine wp_region_seqU (fun W => W.cell? ⟨p, 0, none⟩ = some (.slice sa S.length sc) ∧ BoxIs W b1 #[.int .i64 5, .string out1, .string ⟨#[]⟩, .int .i64 v0, .int .i64 v1] stepTy) 10 [(0, true), (1, true), (2, true), (3, true), (4, true), (5, true), (6, false), (7, false), (8, true), (9, true), (10, false)] (by as_aux_lemma => kernel_rfl) (by as_aux_lemma => kernel_rfl) (by as_aux_lemma => kernel_rfl) (by decide) (by as_aux_lemma => kernel_rfl) (by decide) ⟨c0, HBx9.out⟩ ?_
      intro OPS HO
      refine seqT_take (o := ⟨_, _, _, _, _, _⟩) (v := ?_) (by rw [HO.out]; rfl) (by rfl) ?_ ?_
      rotate_left 1
      · first | ((intro W _; go_simp) <;> with_reducible rfl) | (intro W hW; have s1 := hW.1; have t0 := hW.2.cell (j := 0) rfl; have t1 := hW.2.cell (j := 1) rfl; have t2 := hW.2.cell (j := 2) rfl; have t3 := hW.2.cell (j := 3) rfl; have t4 := hW.2.cell (j := 4) rfl; (go_simp <;> with_reducible rfl))
      try simp only [Act.put, List.setIfInBounds_toArray, List.set_cons_zero, List.set_cons_succ]
      refine seqT_take (o := ⟨_, _, _, _, _, _⟩) (v := ?_) (by rw [HO.out]; rfl) (by rfl) ?_ ?_
      rotate_left 1
      · first | ((intro W _; go_simp) <;> with_reducible rfl) | (intro W hW; have s1 := hW.1; have t0 := hW.2.cell (j := 0) rfl; have t1 := hW.2.cell (j := 1) rfl; have t2 := hW.2.cell (j := 2) rfl; have t3 := hW.2.cell (j := 3) rfl; have t4 := hW.2.cell (j := 4) rfl; (go_simp <;> with_reducible rfl))
      try simp only [Act.put, List.setIfInBounds_toArray, List.set_cons_zero, List.set_cons_succ]
      refine seqT_take (o := ⟨_, _, _, _, _, _⟩) (v := ?_) (by rw [HO.out]; rfl) (by rfl) ?_ ?_
      rotate_left 1
      · first | ((intro W _; go_simp) <;> with_reducible rfl) | (intro W hW; have s1 := hW.1; have t0 := hW.2.cell (j := 0) rfl; have t1 := hW.2.cell (j := 1) rfl; have t2 := hW.2.cell (j := 2) rfl; have t3 := hW.2.cell (j := 3) rfl; have t4 := hW.2.cell (j := 4) rfl; (go_simp <;> with_reducible rfl))
      try simp only [Act.put, List.setIfInBounds_toArray, List.set_cons_zero, List.set_cons_succ]
      refine seqT_take (o := ⟨_, _, _, _, _, _⟩) (v := ?_) (by rw [HO.out]; rfl) (by rfl) ?_ ?_
      rotate_left 1
      · first | ((intro W _; go_simp) <;> with_reducible rfl) | (intro W hW; have s1 := hW.1; have t0 := hW.2.cell (j := 0) rfl; have t1 := hW.2.cell (j := 1) rfl; have t2 := hW.2.cell (j := 2) rfl; have t3 := hW.2.cell (j := 3) rfl; have t4 := hW.2.cell (j := 4) rfl; (go_simp <;> with_reducible rfl))
      try simp only [Act.put, List.setIfInBounds_toArray, List.set_cons_zero, List.set_cons_succ]
      refine seqT_take (o := ⟨_, _, _, _, _, _⟩) (v := ?_) (by rw [HO.out]; rfl) (by rfl) ?_ ?_
      rotate_left 1
      · first | ((intro W _; go_simp) <;> with_reducible rfl) | (intro W hW; have s1 := hW.1; have t0 := hW.2.cell (j := 0) rfl; have t1 := hW.2.cell (j := 1) rfl; have t2 := hW.2.cell (j := 2) rfl; have t3 := hW.2.cell (j := 3) rfl; have t4 := hW.2.cell (j := 4) rfl; (go_simp <;> with_reducible rfl))
      try simp only [Act.put, List.setIfInBounds_toArray, List.set_cons_zero, List.set_cons_succ]
      refine seqT_take (o := ⟨_, _, _, _, _, _⟩) (v := ?_) (by rw [HO.out]; rfl) (by rfl) ?_ ?_
      rotate_left 1
      · first | ((intro W _; go_simp) <;> with_reducible rfl) | (intro W hW; have s1 := hW.1; have t0 := hW.2.cell (j := 0) rfl; have t1 := hW.2.cell (j := 1) rfl; have t2 := hW.2.cell (j := 2) rfl; have t3 := hW.2.cell (j := 3) rfl; have t4 := hW.2.cell (j := 4) rfl; (go_simp <;> with_reducible rfl))
      try simp only [Act.put, List.setIfInBounds_toArray, List.set_cons_zero, List.set_cons_succ]
      refine seqT_do (o := ⟨_, _, _, _, _, _⟩) (by rw [HO.out]; rfl) (by rfl) (fun K hK => ?_)
      go_wp2_with fail
      refine hK.out _ _ (fun _ => ⟨c0a _, HBa.out _⟩) ?_
      clear hK K
      try simp only [Act.put, List.setIfInBounds_toArray, List.set_cons_zero, List.set_cons_succ]
      refine seqT_do (o := ⟨_, _, _, _, _, _⟩) (by rw [HO.out]; rfl) (by rfl) (fun K hK => ?_)
      refine wp_appSt hz9 HX9.out.2.1 (by omega) ⟨5, out1, ⟨#[]⟩, v0, v1⟩ (.tmp 188) (.tmp 190) rfl rfl rfl ?_
      intro g cap' w' hown' hg
      obtain ⟨q1, q2, q3⟩ := planAt_step hzp hz9 HX9.out.1 HX9.out.2.1 HX9.out.2.2 hown' hg
      have d1 := q1.cell (j := 0) rfl
      have df := Lib.frozen_of_heap q1 0
      have d2 := Lib.hid (HGr.out _ _ hg)
      have HQF := Lib.hid (And.intro q2 q3)
      clear q1 q2 q3 hown' hg
      refine hK.out _ _ (fun _ => ⟨d1, d2.out⟩) ?_
      clear hK K
      try simp only [Act.put, List.setIfInBounds_toArray, List.set_cons_zero, List.set_cons_succ]
      refine seqT_take (o := ⟨_, _, _, _, _, _⟩) (v := ?_) (by rw [HO.out]; rfl) (by rfl) ?_ ?_
      rotate_left 1
      · first | ((intro W _; go_simp) <;> with_reducible rfl) | (intro W hW; have s1 := hW.1; have t0 := hW.2.cell (j := 0) rfl; have t1 := hW.2.cell (j := 1) rfl; have t2 := hW.2.cell (j := 2) rfl; have t3 := hW.2.cell (j := 3) rfl; have t4 := hW.2.cell (j := 4) rfl; (go_simp <;> with_reducible rfl))
      try simp only [Act.put, List.setIfInBounds_toArray, List.set_cons_zero, List.set_cons_succ]
      refine seqT_take (o := ⟨_, _, _, _, _, _⟩) (v := ?_) (by rw [HO.out]; rfl) (by rfl) ?_ ?_
      rotate_left 1
      · first | ((intro W _; go_simp) <;> with_reducible rfl) | (intro W hW; have s1 := hW.1; have t0 := hW.2.cell (j := 0) rfl; have t1 := hW.2.cell (j := 1) rfl; have t2 := hW.2.cell (j := 2) rfl; have t3 := hW.2.cell (j := 3) rfl; have t4 := hW.2.cell (j := 4) rfl; (go_simp <;> with_reducible rfl))
      try simp only [Act.put, List.setIfInBounds_toArray, List.set_cons_zero, List.set_cons_succ]
      refine seqT_do (o := ⟨_, _, _, _, _, _⟩) (by rw [HO.out]; rfl) (by rfl) (fun K hK => ?_)
      go_wp2_with fail
      refine hK.out _ _ (fun h => absurd rfl h) ?_
      clear hK K
      try simp only [Act.put, List.setIfInBounds_toArray, List.set_cons_zero, List.set_cons_succ]
      refine seqT_done ?_
      generalize w'.setCell _ _ = wf at *
      clear d1 d2 df c0 c0a
      go_wp2_with fail
      go_ret
      refine ⟨_, S ++ [⟨5, out1, ⟨#[]⟩, v0, v1⟩], [], rfl, HQF.out.1, HKw.out.trans HQF.out.2, by simp; try omega, ?_⟩
      exact HFin.out
    · have HFin : Hid (LineStep S [] line.data.toList true (S ++ [⟨5, out1, ⟨#[]⟩, v0, v1⟩]) []) := Lib.hid ⟨fun _ => .inl ⟨⟨5, out1, ⟨#[]⟩, v0, v1⟩, HOf.out _ (Wh.two_behind (by rfl) (by rfl) (by decide) (by decide) ((HLn.out.1 (by omega)).2) ((HLn.out.2.1 (by omega)).2) (by rw [← HY.out.2]; simp [(HLn.out.1 (by omega)).1, (HLn.out.2.1 (by omega)).1, HU.out.1 rfl])), rfl, rfl, rfl⟩, fun h => (by cases h)⟩
      go_upto_region 50 with fail
      have HX9 : Hid (PlanX w0.heap.size wD.drew p S [] sm by' sa sc ra rc) := Lib.hid (HX0.out.under (drB0 (bTrans H25.out HDw.out)))
      have hz9 : w0.heap.size ≤ wD.drew.heap.size := by
        have := HDw.out.size
        show w0.heap.size ≤ wD.heap.size
        omega
      have c0 := HX9.out.1.cell (j := 0) rfl
      have c0a := fun ob => (BoxIs.under HX9.out.1 (bAlloc (Below.refl _ _) ob)).cell (j := 0) rfl
      have HBx9 : Hid (BoxIs wD.drew b1 #[.int .i64 5, .string out1, .string ⟨#[]⟩, .int .i64 v0, .int .i64 v1] stepTy) := HD1
      have HBa : Hid (∀ ob, BoxIs (wD.drew.alloc ob) b1 #[.int .i64 5, .string out1, .string ⟨#[]⟩, .int .i64 v0, .int .i64 v1] stepTy) := Lib.hid (fun ob => BoxIs.under HBx9.out (bAlloc (Below.refl _ _) ob))
      have HGr : Hid (∀ ob w', (wD.drew.alloc ob).grownBy w' (Value.slice sa S.length sc).ownBlock → BoxIs w' b1 #[.int .i64 5, .string out1, .string ⟨#[]⟩, .int .i64 v0, .int .i64 v1] stepTy) := Lib.hid (fun ob w' hg => (hg.block b1 (HBa.out ob).lt (fun e => by
        obtain ⟨_, cc, hc⟩ := HX0.out.2.1.base b1 e.symm
        have h1 := (Array.getElem?_eq_some_iff.1 hc).1
        have h2 := HBe.out
        omega)).trans (HBa.out ob))
      have HKw : Hid (PKept w0.heap.size p w wD.drew) := Lib.hid (PKept.of (drB0 (bTrans HBf.out HDw.out)) hzz)
      refine wp_region_seqU (fun W => W.cell? ⟨p, 0, none⟩ = some (.slice sa S.length sc) ∧ BoxIs W b1 #[.int .i64 5, .string out1, .string ⟨#[]⟩, .int .i64 v0, .int .i64 v1] stepTy) 10 [(0, true), (1, true), (2, true), (3, true), (4, true), (5, true), (6, false), (7, false), (8, true), (9, true), (10, false)] (by as_aux_lemma => kernel_rfl) (by as_aux_lemma => kernel_rfl) (by as_aux_lemma => kernel_rfl) (by decide) (by as_aux_lemma => kernel_rfl) (by decide) ⟨c0, HBx9.out⟩ ?_
      intro OPS HO
      refine seqT_take (o := ⟨_, _, _, _, _, _⟩) (v := ?_) (by rw [HO.out]; rfl) (by rfl) ?_ ?_
      rotate_left 1
      · first | ((intro W _; go_simp) <;> with_reducible rfl) | (intro W hW; have s1 := hW.1; have t0 := hW.2.cell (j := 0) rfl; have t1 := hW.2.cell (j := 1) rfl; have t2 := hW.2.cell (j := 2) rfl; have t3 := hW.2.cell (j := 3) rfl; have t4 := hW.2.cell (j := 4) rfl; (go_simp <;> with_reducible rfl))
      try simp only [Act.put, List.setIfInBounds_toArray, List.set_cons_zero, List.set_cons_succ]
      refine seqT_take (o := ⟨_, _, _, _, _, _⟩) (v := ?_) (by rw [HO.out]; rfl) (by rfl) ?_ ?_
      rotate_left 1
      · first | ((intro W _; go_simp) <;> with_reducible rfl) | (intro W hW; have s1 := hW.1; have t0 := hW.2.cell (j := 0) rfl; have t1 := hW.2.cell (j := 1) rfl; have t2 := hW.2.cell (j := 2) rfl; have t3 := hW.2.cell (j := 3) rfl; have t4 := hW.2.cell (j := 4) rfl; (go_simp <;> with_reducible rfl))
      try simp only [Act.put, List.setIfInBounds_toArray, List.set_cons_zero, List.set_cons_succ]
      refine seqT_take (o := ⟨_, _, _, _, _, _⟩) (v := ?_) (by rw [HO.out]; rfl) (by rfl) ?_ ?_
      rotate_left 1
      · first | ((intro W _; go_simp) <;> with_reducible rfl) | (intro W hW; have s1 := hW.1; have t0 := hW.2.cell (j := 0) rfl; have t1 := hW.2.cell (j := 1) rfl; have t2 := hW.2.cell (j := 2) rfl; have t3 := hW.2.cell (j := 3) rfl; have t4 := hW.2.cell (j := 4) rfl; (go_simp <;> with_reducible rfl))
      try simp only [Act.put, List.setIfInBounds_toArray, List.set_cons_zero, List.set_cons_succ]
      refine seqT_take (o := ⟨_, _, _, _, _, _⟩) (v := ?_) (by rw [HO.out]; rfl) (by rfl) ?_ ?_
      rotate_left 1
      · first | ((intro W _; go_simp) <;> with_reducible rfl) | (intro W hW; have s1 := hW.1; have t0 := hW.2.cell (j := 0) rfl; have t1 := hW.2.cell (j := 1) rfl; have t2 := hW.2.cell (j := 2) rfl; have t3 := hW.2.cell (j := 3) rfl; have t4 := hW.2.cell (j := 4) rfl; (go_simp <;> with_reducible rfl))
      try simp only [Act.put, List.setIfInBounds_toArray, List.set_cons_zero, List.set_cons_succ]
      refine seqT_take (o := ⟨_, _, _, _, _, _⟩) (v := ?_) (by rw [HO.out]; rfl) (by rfl) ?_ ?_
      rotate_left 1
      · first | ((intro W _; go_simp) <;> with_reducible rfl) | (intro W hW; have s1 := hW.1; have t0 := hW.2.cell (j := 0) rfl; have t1 := hW.2.cell (j := 1) rfl; have t2 := hW.2.cell (j := 2) rfl; have t3 := hW.2.cell (j := 3) rfl; have t4 := hW.2.cell (j := 4) rfl; (go_simp <;> with_reducible rfl))
      try simp only [Act.put, List.setIfInBounds_toArray, List.set_cons_zero, List.set_cons_succ]
      refine seqT_take (o := ⟨_, _, _, _, _, _⟩) (v := ?_) (by rw [HO.out]; rfl) (by rfl) ?_ ?_
      rotate_left 1
      · first | ((intro W _; go_simp) <;> with_reducible rfl) | (intro W hW; have s1 := hW.1; have t0 := hW.2.cell (j := 0) rfl; have t1 := hW.2.cell (j := 1) rfl; have t2 := hW.2.cell (j := 2) rfl; have t3 := hW.2.cell (j := 3) rfl; have t4 := hW.2.cell (j := 4) rfl; (go_simp <;> with_reducible rfl))
      try simp only [Act.put, List.setIfInBounds_toArray, List.set_cons_zero, List.set_cons_succ]
      refine seqT_do (o := ⟨_, _, _, _, _, _⟩) (by rw [HO.out]; rfl) (by rfl) (fun K hK => ?_)
      go_wp2_with fail
      refine hK.out _ _ (fun _ => ⟨c0a _, HBa.out _⟩) ?_
      clear hK K
      try simp only [Act.put, List.setIfInBounds_toArray, List.set_cons_zero, List.set_cons_succ]
      refine seqT_do (o := ⟨_, _, _, _, _, _⟩) (by rw [HO.out]; rfl) (by rfl) (fun K hK => ?_)
      refine wp_appSt hz9 HX9.out.2.1 (by omega) ⟨5, out1, ⟨#[]⟩, v0, v1⟩ (.tmp 188) (.tmp 190) rfl rfl rfl ?_
      intro g cap' w' hown' hg
      obtain ⟨q1, q2, q3⟩ := planAt_step hzp hz9 HX9.out.1 HX9.out.2.1 HX9.out.2.2 hown' hg
      have d1 := q1.cell (j := 0) rfl
      have df := Lib.frozen_of_heap q1 0
      have d2 := Lib.hid (HGr.out _ _ hg)
      have HQF := Lib.hid (And.intro q2 q3)
      clear q1 q2 q3 hown' hg
      refine hK.out _ _ (fun _ => ⟨d1, d2.out⟩) ?_
      clear hK K
      try simp only [Act.put, List.setIfInBounds_toArray, List.set_cons_zero, List.set_cons_succ]
      refine seqT_take (o := ⟨_, _, _, _, _, _⟩) (v := ?_) (by rw [HO.out]; rfl) (by rfl) ?_ ?_
      rotate_left 1
      · first | ((intro W _; go_simp) <;> with_reducible rfl) | (intro W hW; have s1 := hW.1; have t0 := hW.2.cell (j := 0) rfl; have t1 := hW.2.cell (j := 1) rfl; have t2 := hW.2.cell (j := 2) rfl; have t3 := hW.2.cell (j := 3) rfl; have t4 := hW.2.cell (j := 4) rfl; (go_simp <;> with_reducible rfl))
      try simp only [Act.put, List.setIfInBounds_toArray, List.set_cons_zero, List.set_cons_succ]
      refine seqT_take (o := ⟨_, _, _, _, _, _⟩) (v := ?_) (by rw [HO.out]; rfl) (by rfl) ?_ ?_
      rotate_left 1
      · first | ((intro W _; go_simp) <;> with_reducible rfl) | (intro W hW; have s1 := hW.1; have t0 := hW.2.cell (j := 0) rfl; have t1 := hW.2.cell (j := 1) rfl; have t2 := hW.2.cell (j := 2) rfl; have t3 := hW.2.cell (j := 3) rfl; have t4 := hW.2.cell (j := 4) rfl; (go_simp <;> with_reducible rfl))
      try simp only [Act.put, List.setIfInBounds_toArray, List.set_cons_zero, List.set_cons_succ]
      refine seqT_do (o := ⟨_, _, _, _, _, _⟩) (by rw [HO.out]; rfl) (by rfl) (fun K hK => ?_)
      go_wp2_with fail
      refine hK.out _ _ (fun h => absurd rfl h) ?_
      clear hK K
      try simp only [Act.put, List.setIfInBounds_toArray, List.set_cons_zero, List.set_cons_succ]
      refine seqT_done ?_
      generalize w'.setCell _ _ = wf at *
      clear d1 d2 df c0 c0a
      go_wp2_with fail
      go_ret
      refine ⟨_, S ++ [⟨5, out1, ⟨#[]⟩, v0, v1⟩], [], rfl, HQF.out.1, HKw.out.trans HQF.out.2, by simp; try omega, ?_⟩
      exact HFin.out

set_option maxHeartbeats 8000000 in
set_option maxRecDepth 100000 in
theorem planLine_k6  (w0 : World) (p : Nat) (S : List PStep) (R : List PRef) (sm by' : Int) (line : ByteArray) (w : World) (hX : EnvX w0) (hT : EnvT w0) (hB : Below w0.heap.size w0 w) (hP : PlanAt w0.heap.size w p S R sm by') (hl : line.size ≤ 2000000) (hn : S.length + R.length ≤ 1500000) (L : List (List UInt8)) (hw : ∀ x ∈ L, Wh.isW x) (hne : L ≠ []) (hlw : line.data.toList = Wh.lineW L) (r : List (List UInt8)) (hr : L = Wh.stepW.getD 6 [] :: r) (hR : R = []) : Calls Tryz.prog 27 #[.pointer (some ⟨p, 0, none⟩), .string line, .bool false] w (LinePost w0.heap.size p S R sm by' line.data.toList w) := by
  have HPW := Lib.hid (pWords_any line w hl)
  have HL := Lib.hid (And.intro hw (And.intro hne hlw))
  have HR := Lib.hid hr
  have HP0 := Lib.hid hP
  have hzz := hB.size
  have hzp := hP.1
  have hpl : p < w.heap.size := by
    obtain ⟨_, sa, sc, ra, rc, h1, _⟩ := hP
    exact h1.lt
  have HXX := Lib.hid (hX.under hB)
  have HTT := Lib.hid (hT.under hB)
  subst hR
  clear hw hne hlw hr hP hB hX hT
  go_enter Tryz.func27, Tryz.ntmps27
  go_upto_region 2 with (go_at_call 77; refine HPW.out.mono ?_; rintro e w2 hpw; rcases hpw with ⟨rfl, hb1, hno⟩ | ⟨ws, a, cap, rfl, hO, hne1, hws, hlw1⟩)
  · exact absurd ⟨L, HL.out.2.1, HL.out.1, HL.out.2.2⟩ hno
  obtain ⟨g0, rfl, hg0, hg1, hcells⟩ := ownS_at hO hne1
  have HM : Hid (ws.map (·.data.toList) = L) := Lib.hid (Wh.lineW_inj hws HL.out.1 (hlw1.symm.trans HL.out.2.2))
  have HB2 := Lib.hid hO.below
  have HCl := Lib.hid hcells
  clear hO hws hlw1 hcells hne1
  obtain ⟨y0, ys, rfl⟩ : ∃ y0 ys, ws = y0 :: ys := by
    cases ws with
    | nil => exact absurd HM.out.symm HL.out.2.1
    | cons y0 ys => exact ⟨y0, ys, rfl⟩
  have x0 := HCl.out 0 y0 rfl
  have hl0 : 0 < (y0 :: ys).length := by simp
  have HY : Hid (y0.data.toList = Wh.stepW.getD 6 [] ∧ ys.map (·.data.toList) = r) := Lib.hid (by
    have := HM.out.trans HR.out
    injection this with h1 h2
    exact ⟨h1, h2⟩)
  have HBk : Hid (∀ t, Wh.StepLineL line.data.toList t → Wh.Behind 6 r t) := Lib.hid (fun t ht => Wh.behind_of (by decide) (HR.out ▸ HL.out.1) (HR.out ▸ HL.out.2.2) ht)
  have HOf : Hid (∀ t, Wh.Behind 6 r t → Wh.StepLineL line.data.toList t) := Lib.hid (fun t ht => Wh.of_behind (HR.out ▸ HL.out.2.2) ht)
  have HNr : Hid (∀ u q, ¬ Wh.RefLineL line.data.toList u q) := Lib.hid (Wh.other_ref (Wh.stepW_ref _ (by decide)) (HR.out ▸ HL.out.1) (HR.out ▸ HL.out.2.2))
  have HSz : Hid (∀ y ∈ ys, y.size ≤ line.size) := Lib.hid (fun y hy => by
    have h1 := mem_lineW (List.mem_map_of_mem (f := (·.data.toList)) (List.mem_cons_of_mem y0 hy))
    rw [HM.out, ← HL.out.2.2] at h1
    rw [Lib.size_eq, Lib.size_eq]
    exact h1)
  have hq : (y0.toList == [114, 101, 102, 117, 115, 101, 100]) = false := by
    rw [Lib.toList_data, HY.out.1]
    exact beq_eq_false_iff_ne.2 (Wh.stepW_ref _ (by decide))
  obtain ⟨_, sa, sc, ra, rc, hx⟩ := HP0.out.under HB2.out
  have HX0 : Hid (PlanX w0.heap.size w2 p S [] sm by' sa sc ra rc) := Lib.hid hx
  have c1 := hx.1.cell (j := 1) rfl
  clear hx
  have HSn := Lib.hid (fun W => stepNames_any W)
  have HIx : Hid (Lib.idxOfS (stepZs.take 11) y0 = ((6 : Nat) : Int)) := Lib.hid (by
    rcases idx_step y0 with ⟨j, k1, k2, k3⟩ | ⟨h, _⟩
    · rw [HY.out.1] at k2
      rw [k3, Wh.stepW_inj _ (Nat.lt_succ_of_le (by decide)) _ (Nat.lt_succ_of_le k1) k2]
    · exact absurd HY.out.1 (h _ (by decide)))
  have HF5 : Hid (∀ w5, w5 = w2.drew.alloc (.cells (stepZs.map Value.string).toArray 9) → Below w.heap.size w w5 ∧ BoxIs w5 w2.heap.size (stepZs.map Value.string).toArray 9 ∧ w5.cell? ⟨g0, 0, none⟩ = some (.string y0)) := Lib.hid (by
    rintro _ rfl
    exact ⟨bAlloc (drB0 HB2.out) _, BoxIs.new w2.drew _ _, ((bAlloc (drB0 (Below.refl w2.heap.size w2)) _).cell (cell_lt x0)).trans x0⟩)
  have HCl2 : Hid (∀ w5, w5 = w2.drew.alloc (.cells (stepZs.map Value.string).toArray 9) → Below w2.heap.size w2 w5) := Lib.hid (by
    rintro _ rfl
    exact bAlloc (drB0 (Below.refl w2.heap.size w2)) _)
  obtain ⟨nl, hnl⟩ : ∃ nl, (y0 :: ys).length = nl := ⟨_, rfl⟩
  have HNl := Lib.hid hnl
  rw [hnl] at hl0
  simp only [hnl]
  clear hnl
  have hl0' : (0 : Int) < (nl : Int) := by omega
  go_upto_region 20 with fail
  clear c1
  refine wp_region_seq (fun W => W.cell? ⟨g0, 0, none⟩ = some (.string y0)) [(1, true), (2, true), (3, true), (0, false), (4, false), (5, true)] (by as_aux_lemma => kernel_rfl) (by as_aux_lemma => kernel_rfl) (by decide) (by as_aux_lemma => kernel_rfl) x0 ?_
  intro OPS HO
  refine seq_take (o := ⟨_, _, _, _, _, _⟩) (v := ?_) (by rw [HO.out]; rfl) (by rfl) ?_ ?_
  rotate_left 1
  · first | ((intro W _; go_simp) <;> with_reducible rfl) | (intro W hW; have s1 := hW; (go_simp <;> with_reducible rfl))
  try simp only [Act.put, List.setIfInBounds_toArray, List.set_cons_zero, List.set_cons_succ]
  refine seq_take (o := ⟨_, _, _, _, _, _⟩) (v := ?_) (by rw [HO.out]; rfl) (by rfl) ?_ ?_
  rotate_left 1
  · first | ((intro W _; go_simp) <;> with_reducible rfl) | (intro W hW; have s1 := hW; (go_simp <;> with_reducible rfl))
  try simp only [Act.put, List.setIfInBounds_toArray, List.set_cons_zero, List.set_cons_succ]
  refine seq_take (o := ⟨_, _, _, _, _, _⟩) (v := ?_) (by rw [HO.out]; rfl) (by rfl) ?_ ?_
  rotate_left 1
  · first | ((intro W _; go_simp) <;> with_reducible rfl) | (intro W hW; have s1 := hW; (go_simp <;> with_reducible rfl))
  try simp only [Act.put, List.setIfInBounds_toArray, List.set_cons_zero, List.set_cons_succ]
  refine seq_do (o := ⟨_, _, _, _, _, _⟩) (by rw [HO.out]; rfl) (by rfl) (fun K hK => ?_)
  go_wp2_with (go_at_call 81; (with_reducible refine (HSn.out _).mono ?_); rintro e w5 ⟨rfl, hw5⟩; obtain ⟨hb5, hx5, hS⟩ := HF5.out _ hw5; have H25 := Lib.hid (HCl2.out _ hw5); have HBf := Lib.hid hb5; have HBx := Lib.hid hx5; clear hw5 hb5 hx5)
  have HSi := Lib.hid (sliceIndex_any w5 w2.heap.size y0 HBx.out)
  rw [HIx.out] at HSi
  refine hK.out _ _ hS (fun _ => ?_)
  clear hK K
  try simp only [Act.put, List.setIfInBounds_toArray, List.set_cons_zero, List.set_cons_succ]
  refine seq_do (o := ⟨_, _, _, _, _, _⟩) (by rw [HO.out]; rfl) (by rfl) (fun K hK => ?_)
  go_wp2_with (go_at_call 80; (with_reducible refine HSi.out.mono ?_); rintro e w6 ⟨rfl, hw6⟩; subst w6)
  refine hK.out _ _ hS (fun _ => ?_)
  clear hK K
  try simp only [Act.put, List.setIfInBounds_toArray, List.set_cons_zero, List.set_cons_succ]
  refine seq_take (o := ⟨_, _, _, _, _, _⟩) (v := ?_) (by rw [HO.out]; rfl) (by rfl) ?_ ?_
  rotate_left 1
  · first | ((intro W _; go_simp) <;> with_reducible rfl) | (intro W hW; have s1 := hW; (go_simp <;> with_reducible rfl))
  try simp only [Act.put, List.setIfInBounds_toArray, List.set_cons_zero, List.set_cons_succ]
  refine seq_done ?_
  have hlen : nl = 3 ∨ nl ≠ 3 := by omega
  rcases hlen with hlen | hlen
  rotate_left 1
  · have hlen' : ¬ (nl : Int) = 3 := by omega
    have HFin : Hid (LineStep S [] line.data.toList false S []) := Lib.hid (LineStep.bad (fun t ht => by
      have h1 := Wh.behind_one (by rfl) (by rfl) (by rfl) (HBk.out t ht)
      rw [← HY.out.2] at h1
      have h2 := congrArg List.length h1
      have h3 := HNl.out
      simp at h2 h3
      omega) HNr.out)
    go_wp2_with fail
    go_ret
    exact ⟨false, S, [], rfl, HP0.out.under (bAlloc HBf.out _), PKept.of (bAlloc HBf.out _) hzz, by omega, HFin.out⟩
  obtain ⟨y1, y2, rfl⟩ : ∃ y1 y2, ys = [y1, y2] := by
    have h3 := HNl.out
    rw [hlen] at h3
    match ys, h3 with
    | [y1, y2], _ => exact ⟨y1, y2, rfl⟩
  subst hlen
  have hb15 := HBf.out.size
  have hz5 : w2.heap.size ≤ w5.heap.size := H25.out.size
  have x1 : w5.cell? ⟨g0, 1, none⟩ = some (.string y1) := by
    have := HCl.out 1 y1 rfl
    exact (H25.out.cell (cell_lt this)).trans this
  have hsz1 := HSz.out y1 (by simp)
  have x2 : w5.cell? ⟨g0, 2, none⟩ = some (.string y2) := by
    have := HCl.out 2 y2 rfl
    exact (H25.out.cell (cell_lt this)).trans this
  have hsz2 := HSz.out y2 (by simp)
  have HXc : Hid (w5.cell? ⟨g0, 1, none⟩ = some (.string y1) ∧ w5.cell? ⟨g0, 2, none⟩ = some (.string y2)) := Lib.hid ⟨x1, x2⟩
  clear hS x0
  have hg5 : g0 < w5.heap.size := by omega
  have HNa := Lib.hid (BoxIs.new w5 #[.int .i64 6, .string ⟨#[]⟩, .string ⟨#[]⟩, .int .i64 0, .int .i64 0] stepTy)
  have HNb := Lib.hid (bAlloc (Below.refl w5.heap.size w5) (.cells #[.int .i64 6, .string ⟨#[]⟩, .string ⟨#[]⟩, .int .i64 0, .int .i64 0] stepTy))
  have HBe0 : w5.heap.size = w5.heap.size := rfl
  go_upto_region 24 with fail
  generalize w5.alloc _ = w6 at *
  obtain ⟨b1, hb1⟩ : ∃ b, b = w5.heap.size := ⟨_, rfl⟩
  rw [← hb1]
  rw [← hb1] at HNa
  have HBe : Hid (w2.heap.size ≤ b1) := Lib.hid (by omega)
  have hgb : g0 < b1 := by omega
  have hb1le : w5.heap.size ≤ b1 := by omega
  clear hb1 HBe0 hz5
  have HNc := Lib.hid (BoxIs.new w6 #[.int .i64 0, .int .i64 0] arrTy)
  have HNd := Lib.hid (bAlloc (Below.refl w6.heap.size w6) (.cells #[.int .i64 0, .int .i64 0] arrTy))
  go_upto_region 37 with fail
  generalize w6.alloc _ = w7 at *
  obtain ⟨b2, hb2⟩ : ∃ b, b = w6.heap.size := ⟨_, rfl⟩
  rw [← hb2]
  rw [← hb2] at HNc
  have hne : b2 ≠ b1 := by
    have := HNa.out.lt
    omega
  have hb2le : w5.heap.size ≤ b2 := by
    have := HNa.out.lt
    omega
  clear hb2
  have HN7 : Hid (BoxIs w7 b1 #[.int .i64 6, .string ⟨#[]⟩, .string ⟨#[]⟩, .int .i64 0, .int .i64 0] stepTy ∧ Below w5.heap.size w5 w7) := Lib.hid ⟨BoxIs.under HNa.out HNd.out, bTrans HNb.out HNd.out⟩
  clear HNa HNb HNd
  go_wp2_with fail
  go_loopg [131] 1 (fun g s131 wx => ∃ (i : Nat) (v0 v1 : Int), i + g = 1 ∧ s131 = .int .i64 i ∧ Hid (BoxIs wx b2 #[.int .i64 v0, .int .i64 v1] arrTy) ∧ Hid (BoxIs wx b1 #[.int .i64 6, .string ⟨#[]⟩, .string ⟨#[]⟩, .int .i64 0, .int .i64 0] stepTy) ∧ Hid (Below w5.heap.size w5 wx) ∧ Hid (NumsL y1.data.toList y2.data.toList i v0 v1))
  case atStart => exact ⟨0, 0, 0, by omega, by go_num, HNc, Lib.hid HN7.out.1, Lib.hid HN7.out.2, Lib.hid ⟨fun h => by omega, fun h => by omega, fun _ => rfl, fun _ => rfl⟩⟩
  case round =>
    obtain ⟨i, v0, v1, hi, rfl, HLb, HL1, HLw, HLn⟩ := hrel
    by_cases hi0 : i = 0
    · subst hi0
      obtain rfl : gk = 1 := by omega
      have xw : wr.cell? ⟨g0, 1, none⟩ = some (.string y1) := (HLw.out.cell (cell_lt (w := w5) (p := ⟨g0, 1, none⟩) HXc.out.1)).trans HXc.out.1
      have HWh := Lib.hid (whole_any y1 wr ((HXX.out.under HBf.out).under HLw.out) ((HTT.out.under HBf.out).under HLw.out) (by omega))
      go_upto_region 41 with (go_at_call 78; refine HWh.out.mono ?_; rintro e w8 ⟨v, ok, rfl, hb8, hn1, hn2⟩; have HN := Lib.hid (And.intro hn1 hn2); have df := Lib.frozen_of_heap (BoxIs.under HLb.out hb8) 0; have dc := (BoxIs.under HLb.out hb8).cell (j := 0) rfl; have H8 := Lib.hid hb8; clear hb8 hn1 hn2)
      clear xw df dc
      have H9 : Hid (BoxIs (w8.setCell ⟨b2, 0, none⟩ (.int .i64 v)) b2 #[.int .i64 v, .int .i64 v1] arrTy ∧ BoxIs (w8.setCell ⟨b2, 0, none⟩ (.int .i64 v)) b1 #[.int .i64 6, .string ⟨#[]⟩, .string ⟨#[]⟩, .int .i64 0, .int .i64 0] stepTy ∧ Below w5.heap.size w5 (w8.setCell ⟨b2, 0, none⟩ (.int .i64 v))) := Lib.hid ⟨BoxIs.setAt (BoxIs.under HLb.out H8.out) 0 (.int .i64 v), BoxIs.other (BoxIs.under HL1.out H8.out) hne.symm _ _, Below.setCell (bTrans HLw.out H8.out) hb2le _⟩
      generalize w8.setCell _ _ = w9 at *
      cases ok
      · have HFin : Hid (LineStep S [] line.data.toList false S []) := Lib.hid (LineStep.bad (fun t ht => by
          have hbk := HBk.out t ht
          have h1 := Wh.behind_one (by rfl) (by rfl) (by rfl) hbk
          rw [← HY.out.2] at h1
          simp at h1
          have h2 := HN.out.2 t.time ⟨h1.1, hbk.2.2.2.1⟩
          cases h2) HNr.out)
        go_wp2_with fail
        go_ret
        exact ⟨false, S, [], rfl, HP0.out.under (bTrans HBf.out H9.out.2.2), PKept.of (bTrans HBf.out H9.out.2.2) hzz, by omega, HFin.out⟩
      · have HLn2 : Hid (NumsL y1.data.toList y2.data.toList 1 v v1) := Lib.hid ⟨fun _ => HN.out.1 rfl, fun h => by omega, fun h => by omega, fun _ => HLn.out.2.2.2 (by omega)⟩
        go_wp2_with fail
        go_roundg 0
        case measure => omega
        case rel => exact ⟨1, v, v1, by omega, by go_num, Lib.hid H9.out.1, Lib.hid H9.out.2.1, Lib.hid H9.out.2.2, HLn2⟩
    obtain rfl : i = 1 := by omega
    have e0 := HLb.out.cell (j := 0) rfl
    have df := Lib.frozen_of_heap HL1.out 4
    have dc := HL1.out.cell (j := 4) rfl
    go_upto_region 45 with fail
    have HA : Hid (BoxIs (wr.setCell ⟨b1, 4, none⟩ (.int .i64 v0)) b1 #[.int .i64 6, .string ⟨#[]⟩, .string ⟨#[]⟩, .int .i64 0, .int .i64 v0] stepTy ∧ BoxIs (wr.setCell ⟨b1, 4, none⟩ (.int .i64 v0)) b2 #[.int .i64 v0, .int .i64 v1] arrTy ∧ Below w5.heap.size w5 (wr.setCell ⟨b1, 4, none⟩ (.int .i64 v0))) := Lib.hid ⟨BoxIs.setAt HL1.out 4 _, BoxIs.other HLb.out hne _ _, Below.setCell HLw.out hb1le _⟩
    clear e0 df dc
    generalize wr.setCell _ _ = wA at *
    have HA1 := Lib.hid HA.out.1
    have HAw := Lib.hid HA.out.2.2
    obtain ⟨wB, hwB⟩ : ∃ W, wA = W := ⟨_, rfl⟩
    subst hwB
    have HB1 := HA1
    have HBw := HAw
    have xw : wA.cell? ⟨g0, 2, none⟩ = some (.string y2) := (HBw.out.cell (cell_lt (w := w5) (p := ⟨g0, 2, none⟩) HXc.out.2)).trans HXc.out.2
    have HUn := Lib.hid (unquote_any y2 wA ((HXX.out.under HBf.out).under HBw.out) (by omega))
    go_upto_region 48 with (go_at_call 79; refine HUn.out.mono ?_; rintro e wC ⟨out1, ok1, rfl, hbC, hos, hn1, hn2⟩; have HU := Lib.hid (And.intro hn1 hn2); have df := Lib.frozen_of_heap (BoxIs.under HB1.out hbC) 1; have dc := (BoxIs.under HB1.out hbC).cell (j := 1) rfl; have HC := Lib.hid hbC; clear hbC hn1 hn2)
    clear xw df dc
    have HD : Hid (BoxIs (wC.setCell ⟨b1, 1, none⟩ (.string out1)) b1 #[.int .i64 6, .string out1, .string ⟨#[]⟩, .int .i64 0, .int .i64 v0] stepTy ∧ Below w5.heap.size w5 (wC.setCell ⟨b1, 1, none⟩ (.string out1))) := Lib.hid ⟨BoxIs.setAt (BoxIs.under HB1.out HC.out) 1 _, Below.setCell (bTrans HBw.out HC.out) hb1le _⟩
    generalize wC.setCell _ _ = wD at *
    have HD1 := Lib.hid HD.out.1
    have HDw := Lib.hid HD.out.2
    cases ok1
    · have HFin : Hid (LineStep S [] line.data.toList false (S ++ [⟨6, out1, ⟨#[]⟩, 0, v0⟩]) []) := Lib.hid (LineStep.bad (fun t ht => by
          have h1 := Wh.behind_one (by rfl) (by rfl) (by rfl) (HBk.out t ht)
          rw [← HY.out.2] at h1
          simp at h1
          have h2 := HU.out.2 t.path h1.2
          cases h2) HNr.out)
      go_upto_region 50 with fail
      have HX9 : Hid (PlanX w0.heap.size wD.drew p S [] sm by' sa sc ra rc) := Lib.hid (HX0.out.under (drB0 (bTrans H25.out HDw.out)))
      have hz9 : w0.heap.size ≤ wD.drew.heap.size := by
        have := HDw.out.size
        show w0.heap.size ≤ wD.heap.size
        omega
      have c0 := HX9.out.1.cell (j := 0) rfl
      have c0a := fun ob => (BoxIs.under HX9.out.1 (bAlloc (Below.refl _ _) ob)).cell (j := 0) rfl
      have HBx9 : Hid (BoxIs wD.drew b1 #[.int .i64 6, .string out1, .string ⟨#[]⟩, .int .i64 0, .int .i64 v0] stepTy) := HD1
      have HBa : Hid (∀ ob, BoxIs (wD.drew.alloc ob) b1 #[.int .i64 6, .string out1, .string ⟨#[]⟩, .int .i64 0, .int .i64 v0] stepTy) := Lib.hid (fun ob => BoxIs.under HBx9.out (bAlloc (Below.refl _ _) ob))
      have HGr : Hid (∀ ob w', (wD.drew.alloc ob).grownBy w' (Value.slice sa S.length sc).ownBlock → BoxIs w' b1 #[.int .i64 6, .string out1, .string ⟨#[]⟩, .int .i64 0, .int .i64 v0] stepTy) := Lib.hid (fun ob w' hg => (hg.block b1 (HBa.out ob).lt (fun e => by
        obtain ⟨_, cc, hc⟩ := HX0.out.2.1.base b1 e.symm
        have h1 := (Array.getElem?_eq_some_iff.1 hc).1
        have h2 := HBe.out
        omega)).trans (HBa.out ob))
      have HKw : Hid (PKept w0.heap.size p w wD.drew) := Lib.hid (PKept.of (drB0 (bTrans HBf.out HDw.out)) hzz)
      refine wp_region_seqU (fun W => W.cell? ⟨p, 0, none⟩ = some (.slice sa S.length sc) ∧ BoxIs W b1 #[.int .i64 6, .string out1, .string ⟨#[]⟩, .int .i64 0, .int .i64 v0] stepTy) 10 [(0, true), (1, true), (2, true), (3, true), (4, true), (5, true), (6, false), (7, false), (8, true), (9, true), (10, false)] (by as_aux_lemma => kernel_rfl) (by as_aux_lemma => kernel_rfl) (by as_aux_lemma => kernel_rfl) (by decide) (by as_aux_lemma => kernel_rfl) (by decide) ⟨c0, HBx9.out⟩ ?_
      intro OPS HO
      refine seqT_take (o := ⟨_, _, _, _, _, _⟩) (v := ?_) (by rw [HO.out]; rfl) (by rfl) ?_ ?_
      rotate_left 1
      · first | ((intro W _; go_simp) <;> with_reducible rfl) | (intro W hW; have s1 := hW.1; have t0 := hW.2.cell (j := 0) rfl; have t1 := hW.2.cell (j := 1) rfl; have t2 := hW.2.cell (j := 2) rfl; have t3 := hW.2.cell (j := 3) rfl; have t4 := hW.2.cell (j := 4) rfl; (go_simp <;> with_reducible rfl))
      try simp only [Act.put, List.setIfInBounds_toArray, List.set_cons_zero, List.set_cons_succ]
      refine seqT_take (o := ⟨_, _, _, _, _, _⟩) (v := ?_) (by rw [HO.out]; rfl) (by rfl) ?_ ?_
      rotate_left 1
      · first | ((intro W _; go_simp) <;> with_reducible rfl) | (intro W hW; have s1 := hW.1; have t0 := hW.2.cell (j := 0) rfl; have t1 := hW.2.cell (j := 1) rfl; have t2 := hW.2.cell (j := 2) rfl; have t3 := hW.2.cell (j := 3) rfl; have t4 := hW.2.cell (j := 4) rfl; (go_simp <;> with_reducible rfl))
      try simp only [Act.put, List.setIfInBounds_toArray, List.set_cons_zero, List.set_cons_succ]
      refine seqT_take (o := ⟨_, _, _, _, _, _⟩) (v := ?_) (by rw [HO.out]; rfl) (by rfl) ?_ ?_
      rotate_left 1
      · first | ((intro W _; go_simp) <;> with_reducible rfl) | (intro W hW; have s1 := hW.1; have t0 := hW.2.cell (j := 0) rfl; have t1 := hW.2.cell (j := 1) rfl; have t2 := hW.2.cell (j := 2) rfl; have t3 := hW.2.cell (j := 3) rfl; have t4 := hW.2.cell (j := 4) rfl; (go_simp <;> with_reducible rfl))
      try simp only [Act.put, List.setIfInBounds_toArray, List.set_cons_zero, List.set_cons_succ]
      refine seqT_take (o := ⟨_, _, _, _, _, _⟩) (v := ?_) (by rw [HO.out]; rfl) (by rfl) ?_ ?_
      rotate_left 1
      · first | ((intro W _; go_simp) <;> with_reducible rfl) | (intro W hW; have s1 := hW.1; have t0 := hW.2.cell (j := 0) rfl; have t1 := hW.2.cell (j := 1) rfl; have t2 := hW.2.cell (j := 2) rfl; have t3 := hW.2.cell (j := 3) rfl; have t4 := hW.2.cell (j := 4) rfl; (go_simp <;> with_reducible rfl))
      try simp only [Act.put, List.setIfInBounds_toArray, List.set_cons_zero, List.set_cons_succ]
      refine seqT_take (o := ⟨_, _, _, _, _, _⟩) (v := ?_) (by rw [HO.out]; rfl) (by rfl) ?_ ?_
      rotate_left 1
      · first | ((intro W _; go_simp) <;> with_reducible rfl) | (intro W hW; have s1 := hW.1; have t0 := hW.2.cell (j := 0) rfl; have t1 := hW.2.cell (j := 1) rfl; have t2 := hW.2.cell (j := 2) rfl; have t3 := hW.2.cell (j := 3) rfl; have t4 := hW.2.cell (j := 4) rfl; (go_simp <;> with_reducible rfl))
      try simp only [Act.put, List.setIfInBounds_toArray, List.set_cons_zero, List.set_cons_succ]
      refine seqT_take (o := ⟨_, _, _, _, _, _⟩) (v := ?_) (by rw [HO.out]; rfl) (by rfl) ?_ ?_
      rotate_left 1
      · first | ((intro W _; go_simp) <;> with_reducible rfl) | (intro W hW; have s1 := hW.1; have t0 := hW.2.cell (j := 0) rfl; have t1 := hW.2.cell (j := 1) rfl; have t2 := hW.2.cell (j := 2) rfl; have t3 := hW.2.cell (j := 3) rfl; have t4 := hW.2.cell (j := 4) rfl; (go_simp <;> with_reducible rfl))
      try simp only [Act.put, List.setIfInBounds_toArray, List.set_cons_zero, List.set_cons_succ]
      refine seqT_do (o := ⟨_, _, _, _, _, _⟩) (by rw [HO.out]; rfl) (by rfl) (fun K hK => ?_)
      go_wp2_with fail
      refine hK.out _ _ (fun _ => ⟨c0a _, HBa.out _⟩) ?_
      clear hK K
      try simp only [Act.put, List.setIfInBounds_toArray, List.set_cons_zero, List.set_cons_succ]
      refine seqT_do (o := ⟨_, _, _, _, _, _⟩) (by rw [HO.out]; rfl) (by rfl) (fun K hK => ?_)
      refine wp_appSt hz9 HX9.out.2.1 (by omega) ⟨6, out1, ⟨#[]⟩, 0, v0⟩ (.tmp 188) (.tmp 190) rfl rfl rfl ?_
      intro g cap' w' hown' hg
      obtain ⟨q1, q2, q3⟩ := planAt_step hzp hz9 HX9.out.1 HX9.out.2.1 HX9.out.2.2 hown' hg
      have d1 := q1.cell (j := 0) rfl
      have df := Lib.frozen_of_heap q1 0
      have d2 := Lib.hid (HGr.out _ _ hg)
      have HQF := Lib.hid (And.intro q2 q3)
      clear q1 q2 q3 hown' hg
      refine hK.out _ _ (fun _ => ⟨d1, d2.out⟩) ?_
      clear hK K
      try simp only [Act.put, List.setIfInBounds_toArray, List.set_cons_zero, List.set_cons_succ]
      refine seqT_take (o := ⟨_, _, _, _, _, _⟩) (v := ?_) (by rw [HO.out]; rfl) (by rfl) ?_ ?_
      rotate_left 1
      · first | ((intro W _; go_simp) <;> with_reducible rfl) | (intro W hW; have s1 := hW.1; have t0 := hW.2.cell (j := 0) rfl; have t1 := hW.2.cell (j := 1) rfl; have t2 := hW.2.cell (j := 2) rfl; have t3 := hW.2.cell (j := 3) rfl; have t4 := hW.2.cell (j := 4) rfl; (go_simp <;> with_reducible rfl))
      try simp only [Act.put, List.setIfInBounds_toArray, List.set_cons_zero, List.set_cons_succ]
      refine seqT_take (o := ⟨_, _, _, _, _, _⟩) (v := ?_) (by rw [HO.out]; rfl) (by rfl) ?_ ?_
      rotate_left 1
      · first | ((intro W _; go_simp) <;> with_reducible rfl) | (intro W hW; have s1 := hW.1; have t0 := hW.2.cell (j := 0) rfl; have t1 := hW.2.cell (j := 1) rfl; have t2 := hW.2.cell (j := 2) rfl; have t3 := hW.2.cell (j := 3) rfl; have t4 := hW.2.cell (j := 4) rfl; (go_simp <;> with_reducible rfl))
      try simp only [Act.put, List.setIfInBounds_toArray, List.set_cons_zero, List.set_cons_succ]
      refine seqT_do (o := ⟨_, _, _, _, _, _⟩) (by rw [HO.out]; rfl) (by rfl) (fun K hK => ?_)
      go_wp2_with fail
      refine hK.out _ _ (fun h => absurd rfl h) ?_
      clear hK K
      try simp only [Act.put, List.setIfInBounds_toArray, List.set_cons_zero, List.set_cons_succ]
      refine seqT_done ?_
      generalize w'.setCell _ _ = wf at *
      clear d1 d2 df c0 c0a
      go_wp2_with fail
      go_ret
      refine ⟨_, S ++ [⟨6, out1, ⟨#[]⟩, 0, v0⟩], [], rfl, HQF.out.1, HKw.out.trans HQF.out.2, by simp; try omega, ?_⟩
      exact HFin.out
    · have HFin : Hid (LineStep S [] line.data.toList true (S ++ [⟨6, out1, ⟨#[]⟩, 0, v0⟩]) []) := Lib.hid ⟨fun _ => .inl ⟨⟨6, out1, ⟨#[]⟩, 0, v0⟩, HOf.out _ (Wh.one_behind (by rfl) (by rfl) (by rfl) (by decide) (by decide) ((HLn.out.1 (by omega)).2) (by rw [← HY.out.2]; simp [(HLn.out.1 (by omega)).1, HU.out.1 rfl])), rfl, rfl, rfl⟩, fun h => (by cases h)⟩
      go_upto_region 50 with fail
      have HX9 : Hid (PlanX w0.heap.size wD.drew p S [] sm by' sa sc ra rc) := Lib.hid (HX0.out.under (drB0 (bTrans H25.out HDw.out)))
      have hz9 : w0.heap.size ≤ wD.drew.heap.size := by
        have := HDw.out.size
        show w0.heap.size ≤ wD.heap.size
        omega
      have c0 := HX9.out.1.cell (j := 0) rfl
      have c0a := fun ob => (BoxIs.under HX9.out.1 (bAlloc (Below.refl _ _) ob)).cell (j := 0) rfl
      have HBx9 : Hid (BoxIs wD.drew b1 #[.int .i64 6, .string out1, .string ⟨#[]⟩, .int .i64 0, .int .i64 v0] stepTy) := HD1
      have HBa : Hid (∀ ob, BoxIs (wD.drew.alloc ob) b1 #[.int .i64 6, .string out1, .string ⟨#[]⟩, .int .i64 0, .int .i64 v0] stepTy) := Lib.hid (fun ob => BoxIs.under HBx9.out (bAlloc (Below.refl _ _) ob))
      have HGr : Hid (∀ ob w', (wD.drew.alloc ob).grownBy w' (Value.slice sa S.length sc).ownBlock → BoxIs w' b1 #[.int .i64 6, .string out1, .string ⟨#[]⟩, .int .i64 0, .int .i64 v0] stepTy) := Lib.hid (fun ob w' hg => (hg.block b1 (HBa.out ob).lt (fun e => by
        obtain ⟨_, cc, hc⟩ := HX0.out.2.1.base b1 e.symm
        have h1 := (Array.getElem?_eq_some_iff.1 hc).1
        have h2 := HBe.out
        omega)).trans (HBa.out ob))
      have HKw : Hid (PKept w0.heap.size p w wD.drew) := Lib.hid (PKept.of (drB0 (bTrans HBf.out HDw.out)) hzz)
      refine wp_region_seqU (fun W => W.cell? ⟨p, 0, none⟩ = some (.slice sa S.length sc) ∧ BoxIs W b1 #[.int .i64 6, .string out1, .string ⟨#[]⟩, .int .i64 0, .int .i64 v0] stepTy) 10 [(0, true), (1, true), (2, true), (3, true), (4, true), (5, true), (6, false), (7, false), (8, true), (9, true), (10, false)] (by as_aux_lemma => kernel_rfl) (by as_aux_lemma => kernel_rfl) (by as_aux_lemma => kernel_rfl) (by decide) (by as_aux_lemma => kernel_rfl) (by decide) ⟨c0, HBx9.out⟩ ?_
      intro OPS HO
      refine seqT_take (o := ⟨_, _, _, _, _, _⟩) (v := ?_) (by rw [HO.out]; rfl) (by rfl) ?_ ?_
      rotate_left 1
      · first | ((intro W _; go_simp) <;> with_reducible rfl) | (intro W hW; have s1 := hW.1; have t0 := hW.2.cell (j := 0) rfl; have t1 := hW.2.cell (j := 1) rfl; have t2 := hW.2.cell (j := 2) rfl; have t3 := hW.2.cell (j := 3) rfl; have t4 := hW.2.cell (j := 4) rfl; (go_simp <;> with_reducible rfl))
      try simp only [Act.put, List.setIfInBounds_toArray, List.set_cons_zero, List.set_cons_succ]
      refine seqT_take (o := ⟨_, _, _, _, _, _⟩) (v := ?_) (by rw [HO.out]; rfl) (by rfl) ?_ ?_
      rotate_left 1
      · first | ((intro W _; go_simp) <;> with_reducible rfl) | (intro W hW; have s1 := hW.1; have t0 := hW.2.cell (j := 0) rfl; have t1 := hW.2.cell (j := 1) rfl; have t2 := hW.2.cell (j := 2) rfl; have t3 := hW.2.cell (j := 3) rfl; have t4 := hW.2.cell (j := 4) rfl; (go_simp <;> with_reducible rfl))
      try simp only [Act.put, List.setIfInBounds_toArray, List.set_cons_zero, List.set_cons_succ]
      refine seqT_take (o := ⟨_, _, _, _, _, _⟩) (v := ?_) (by rw [HO.out]; rfl) (by rfl) ?_ ?_
      rotate_left 1
      · first | ((intro W _; go_simp) <;> with_reducible rfl) | (intro W hW; have s1 := hW.1; have t0 := hW.2.cell (j := 0) rfl; have t1 := hW.2.cell (j := 1) rfl; have t2 := hW.2.cell (j := 2) rfl; have t3 := hW.2.cell (j := 3) rfl; have t4 := hW.2.cell (j := 4) rfl; (go_simp <;> with_reducible rfl))
      try simp only [Act.put, List.setIfInBounds_toArray, List.set_cons_zero, List.set_cons_succ]
      refine seqT_take (o := ⟨_, _, _, _, _, _⟩) (v := ?_) (by rw [HO.out]; rfl) (by rfl) ?_ ?_
      rotate_left 1
      · first | ((intro W _; go_simp) <;> with_reducible rfl) | (intro W hW; have s1 := hW.1; have t0 := hW.2.cell (j := 0) rfl; have t1 := hW.2.cell (j := 1) rfl; have t2 := hW.2.cell (j := 2) rfl; have t3 := hW.2.cell (j := 3) rfl; have t4 := hW.2.cell (j := 4) rfl; (go_simp <;> with_reducible rfl))
      try simp only [Act.put, List.setIfInBounds_toArray, List.set_cons_zero, List.set_cons_succ]
      refine seqT_take (o := ⟨_, _, _, _, _, _⟩) (v := ?_) (by rw [HO.out]; rfl) (by rfl) ?_ ?_
      rotate_left 1
      · first | ((intro W _; go_simp) <;> with_reducible rfl) | (intro W hW; have s1 := hW.1; have t0 := hW.2.cell (j := 0) rfl; have t1 := hW.2.cell (j := 1) rfl; have t2 := hW.2.cell (j := 2) rfl; have t3 := hW.2.cell (j := 3) rfl; have t4 := hW.2.cell (j := 4) rfl; (go_simp <;> with_reducible rfl))
      try simp only [Act.put, List.setIfInBounds_toArray, List.set_cons_zero, List.set_cons_succ]
      refine seqT_take (o := ⟨_, _, _, _, _, _⟩) (v := ?_) (by rw [HO.out]; rfl) (by rfl) ?_ ?_
      rotate_left 1
      · first | ((intro W _; go_simp) <;> with_reducible rfl) | (intro W hW; have s1 := hW.1; have t0 := hW.2.cell (j := 0) rfl; have t1 := hW.2.cell (j := 1) rfl; have t2 := hW.2.cell (j := 2) rfl; have t3 := hW.2.cell (j := 3) rfl; have t4 := hW.2.cell (j := 4) rfl; (go_simp <;> with_reducible rfl))
      try simp only [Act.put, List.setIfInBounds_toArray, List.set_cons_zero, List.set_cons_succ]
      refine seqT_do (o := ⟨_, _, _, _, _, _⟩) (by rw [HO.out]; rfl) (by rfl) (fun K hK => ?_)
      go_wp2_with fail
      refine hK.out _ _ (fun _ => ⟨c0a _, HBa.out _⟩) ?_
      clear hK K
      try simp only [Act.put, List.setIfInBounds_toArray, List.set_cons_zero, List.set_cons_succ]
      refine seqT_do (o := ⟨_, _, _, _, _, _⟩) (by rw [HO.out]; rfl) (by rfl) (fun K hK => ?_)
      refine wp_appSt hz9 HX9.out.2.1 (by omega) ⟨6, out1, ⟨#[]⟩, 0, v0⟩ (.tmp 188) (.tmp 190) rfl rfl rfl ?_
      intro g cap' w' hown' hg
      obtain ⟨q1, q2, q3⟩ := planAt_step hzp hz9 HX9.out.1 HX9.out.2.1 HX9.out.2.2 hown' hg
      have d1 := q1.cell (j := 0) rfl
      have df := Lib.frozen_of_heap q1 0
      have d2 := Lib.hid (HGr.out _ _ hg)
      have HQF := Lib.hid (And.intro q2 q3)
      clear q1 q2 q3 hown' hg
      refine hK.out _ _ (fun _ => ⟨d1, d2.out⟩) ?_
      clear hK K
      try simp only [Act.put, List.setIfInBounds_toArray, List.set_cons_zero, List.set_cons_succ]
      refine seqT_take (o := ⟨_, _, _, _, _, _⟩) (v := ?_) (by rw [HO.out]; rfl) (by rfl) ?_ ?_
      rotate_left 1
      · first | ((intro W _; go_simp) <;> with_reducible rfl) | (intro W hW; have s1 := hW.1; have t0 := hW.2.cell (j := 0) rfl; have t1 := hW.2.cell (j := 1) rfl; have t2 := hW.2.cell (j := 2) rfl; have t3 := hW.2.cell (j := 3) rfl; have t4 := hW.2.cell (j := 4) rfl; (go_simp <;> with_reducible rfl))
      try simp only [Act.put, List.setIfInBounds_toArray, List.set_cons_zero, List.set_cons_succ]
      refine seqT_take (o := ⟨_, _, _, _, _, _⟩) (v := ?_) (by rw [HO.out]; rfl) (by rfl) ?_ ?_
      rotate_left 1
      · first | ((intro W _; go_simp) <;> with_reducible rfl) | (intro W hW; have s1 := hW.1; have t0 := hW.2.cell (j := 0) rfl; have t1 := hW.2.cell (j := 1) rfl; have t2 := hW.2.cell (j := 2) rfl; have t3 := hW.2.cell (j := 3) rfl; have t4 := hW.2.cell (j := 4) rfl; (go_simp <;> with_reducible rfl))
      try simp only [Act.put, List.setIfInBounds_toArray, List.set_cons_zero, List.set_cons_succ]
      refine seqT_do (o := ⟨_, _, _, _, _, _⟩) (by rw [HO.out]; rfl) (by rfl) (fun K hK => ?_)
      go_wp2_with fail
      refine hK.out _ _ (fun h => absurd rfl h) ?_
      clear hK K
      try simp only [Act.put, List.setIfInBounds_toArray, List.set_cons_zero, List.set_cons_succ]
      refine seqT_done ?_
      generalize w'.setCell _ _ = wf at *
      clear d1 d2 df c0 c0a
      go_wp2_with fail
      go_ret
      refine ⟨_, S ++ [⟨6, out1, ⟨#[]⟩, 0, v0⟩], [], rfl, HQF.out.1, HKw.out.trans HQF.out.2, by simp; try omega, ?_⟩
      exact HFin.out

set_option maxHeartbeats 8000000 in
set_option maxRecDepth 100000 in
theorem planLine_k2  (w0 : World) (p : Nat) (S : List PStep) (R : List PRef) (sm by' : Int) (line : ByteArray) (w : World) (hX : EnvX w0) (hT : EnvT w0) (hB : Below w0.heap.size w0 w) (hP : PlanAt w0.heap.size w p S R sm by') (hl : line.size ≤ 2000000) (hn : S.length + R.length ≤ 1500000) (L : List (List UInt8)) (hw : ∀ x ∈ L, Wh.isW x) (hne : L ≠ []) (hlw : line.data.toList = Wh.lineW L) (r : List (List UInt8)) (hr : L = Wh.stepW.getD 2 [] :: r) (hR : R = []) : Calls Tryz.prog 27 #[.pointer (some ⟨p, 0, none⟩), .string line, .bool false] w (LinePost w0.heap.size p S R sm by' line.data.toList w) := by
  have HPW := Lib.hid (pWords_any line w hl)
  have HL := Lib.hid (And.intro hw (And.intro hne hlw))
  have HR := Lib.hid hr
  have HP0 := Lib.hid hP
  have hzz := hB.size
  have hzp := hP.1
  have hpl : p < w.heap.size := by
    obtain ⟨_, sa, sc, ra, rc, h1, _⟩ := hP
    exact h1.lt
  have HXX := Lib.hid (hX.under hB)
  have HTT := Lib.hid (hT.under hB)
  subst hR
  clear hw hne hlw hr hP hB hX hT
  go_enter Tryz.func27, Tryz.ntmps27
  go_upto_region 2 with (go_at_call 77; refine HPW.out.mono ?_; rintro e w2 hpw; rcases hpw with ⟨rfl, hb1, hno⟩ | ⟨ws, a, cap, rfl, hO, hne1, hws, hlw1⟩)
  · exact absurd ⟨L, HL.out.2.1, HL.out.1, HL.out.2.2⟩ hno
  obtain ⟨g0, rfl, hg0, hg1, hcells⟩ := ownS_at hO hne1
  have HM : Hid (ws.map (·.data.toList) = L) := Lib.hid (Wh.lineW_inj hws HL.out.1 (hlw1.symm.trans HL.out.2.2))
  have HB2 := Lib.hid hO.below
  have HCl := Lib.hid hcells
  clear hO hws hlw1 hcells hne1
  obtain ⟨y0, ys, rfl⟩ : ∃ y0 ys, ws = y0 :: ys := by
    cases ws with
    | nil => exact absurd HM.out.symm HL.out.2.1
    | cons y0 ys => exact ⟨y0, ys, rfl⟩
  have x0 := HCl.out 0 y0 rfl
  have hl0 : 0 < (y0 :: ys).length := by simp
  have HY : Hid (y0.data.toList = Wh.stepW.getD 2 [] ∧ ys.map (·.data.toList) = r) := Lib.hid (by
    have := HM.out.trans HR.out
    injection this with h1 h2
    exact ⟨h1, h2⟩)
  have HBk : Hid (∀ t, Wh.StepLineL line.data.toList t → Wh.Behind 2 r t) := Lib.hid (fun t ht => Wh.behind_of (by decide) (HR.out ▸ HL.out.1) (HR.out ▸ HL.out.2.2) ht)
  have HOf : Hid (∀ t, Wh.Behind 2 r t → Wh.StepLineL line.data.toList t) := Lib.hid (fun t ht => Wh.of_behind (HR.out ▸ HL.out.2.2) ht)
  have HNr : Hid (∀ u q, ¬ Wh.RefLineL line.data.toList u q) := Lib.hid (Wh.other_ref (Wh.stepW_ref _ (by decide)) (HR.out ▸ HL.out.1) (HR.out ▸ HL.out.2.2))
  have HSz : Hid (∀ y ∈ ys, y.size ≤ line.size) := Lib.hid (fun y hy => by
    have h1 := mem_lineW (List.mem_map_of_mem (f := (·.data.toList)) (List.mem_cons_of_mem y0 hy))
    rw [HM.out, ← HL.out.2.2] at h1
    rw [Lib.size_eq, Lib.size_eq]
    exact h1)
  have hq : (y0.toList == [114, 101, 102, 117, 115, 101, 100]) = false := by
    rw [Lib.toList_data, HY.out.1]
    exact beq_eq_false_iff_ne.2 (Wh.stepW_ref _ (by decide))
  obtain ⟨_, sa, sc, ra, rc, hx⟩ := HP0.out.under HB2.out
  have HX0 : Hid (PlanX w0.heap.size w2 p S [] sm by' sa sc ra rc) := Lib.hid hx
  have c1 := hx.1.cell (j := 1) rfl
  clear hx
  have HSn := Lib.hid (fun W => stepNames_any W)
  have HIx : Hid (Lib.idxOfS (stepZs.take 11) y0 = ((2 : Nat) : Int)) := Lib.hid (by
    rcases idx_step y0 with ⟨j, k1, k2, k3⟩ | ⟨h, _⟩
    · rw [HY.out.1] at k2
      rw [k3, Wh.stepW_inj _ (Nat.lt_succ_of_le (by decide)) _ (Nat.lt_succ_of_le k1) k2]
    · exact absurd HY.out.1 (h _ (by decide)))
  have HF5 : Hid (∀ w5, w5 = w2.drew.alloc (.cells (stepZs.map Value.string).toArray 9) → Below w.heap.size w w5 ∧ BoxIs w5 w2.heap.size (stepZs.map Value.string).toArray 9 ∧ w5.cell? ⟨g0, 0, none⟩ = some (.string y0)) := Lib.hid (by
    rintro _ rfl
    exact ⟨bAlloc (drB0 HB2.out) _, BoxIs.new w2.drew _ _, ((bAlloc (drB0 (Below.refl w2.heap.size w2)) _).cell (cell_lt x0)).trans x0⟩)
  have HCl2 : Hid (∀ w5, w5 = w2.drew.alloc (.cells (stepZs.map Value.string).toArray 9) → Below w2.heap.size w2 w5) := Lib.hid (by
    rintro _ rfl
    exact bAlloc (drB0 (Below.refl w2.heap.size w2)) _)
  obtain ⟨nl, hnl⟩ : ∃ nl, (y0 :: ys).length = nl := ⟨_, rfl⟩
  have HNl := Lib.hid hnl
  rw [hnl] at hl0
  simp only [hnl]
  clear hnl
  have hl0' : (0 : Int) < (nl : Int) := by omega
  go_upto_region 20 with fail
  clear c1
  refine wp_region_seq (fun W => W.cell? ⟨g0, 0, none⟩ = some (.string y0)) [(1, true), (2, true), (3, true), (0, false), (4, false), (5, true)] (by as_aux_lemma => kernel_rfl) (by as_aux_lemma => kernel_rfl) (by decide) (by as_aux_lemma => kernel_rfl) x0 ?_
  intro OPS HO
  refine seq_take (o := ⟨_, _, _, _, _, _⟩) (v := ?_) (by rw [HO.out]; rfl) (by rfl) ?_ ?_
  rotate_left 1
  · first | ((intro W _; go_simp) <;> with_reducible rfl) | (intro W hW; have s1 := hW; (go_simp <;> with_reducible rfl))
  try simp only [Act.put, List.setIfInBounds_toArray, List.set_cons_zero, List.set_cons_succ]
  refine seq_take (o := ⟨_, _, _, _, _, _⟩) (v := ?_) (by rw [HO.out]; rfl) (by rfl) ?_ ?_
  rotate_left 1
  · first | ((intro W _; go_simp) <;> with_reducible rfl) | (intro W hW; have s1 := hW; (go_simp <;> with_reducible rfl))
  try simp only [Act.put, List.setIfInBounds_toArray, List.set_cons_zero, List.set_cons_succ]
  refine seq_take (o := ⟨_, _, _, _, _, _⟩) (v := ?_) (by rw [HO.out]; rfl) (by rfl) ?_ ?_
  rotate_left 1
  · first | ((intro W _; go_simp) <;> with_reducible rfl) | (intro W hW; have s1 := hW; (go_simp <;> with_reducible rfl))
  try simp only [Act.put, List.setIfInBounds_toArray, List.set_cons_zero, List.set_cons_succ]
  refine seq_do (o := ⟨_, _, _, _, _, _⟩) (by rw [HO.out]; rfl) (by rfl) (fun K hK => ?_)
  go_wp2_with (go_at_call 81; (with_reducible refine (HSn.out _).mono ?_); rintro e w5 ⟨rfl, hw5⟩; obtain ⟨hb5, hx5, hS⟩ := HF5.out _ hw5; have H25 := Lib.hid (HCl2.out _ hw5); have HBf := Lib.hid hb5; have HBx := Lib.hid hx5; clear hw5 hb5 hx5)
  have HSi := Lib.hid (sliceIndex_any w5 w2.heap.size y0 HBx.out)
  rw [HIx.out] at HSi
  refine hK.out _ _ hS (fun _ => ?_)
  clear hK K
  try simp only [Act.put, List.setIfInBounds_toArray, List.set_cons_zero, List.set_cons_succ]
  refine seq_do (o := ⟨_, _, _, _, _, _⟩) (by rw [HO.out]; rfl) (by rfl) (fun K hK => ?_)
  go_wp2_with (go_at_call 80; (with_reducible refine HSi.out.mono ?_); rintro e w6 ⟨rfl, hw6⟩; subst w6)
  refine hK.out _ _ hS (fun _ => ?_)
  clear hK K
  try simp only [Act.put, List.setIfInBounds_toArray, List.set_cons_zero, List.set_cons_succ]
  refine seq_take (o := ⟨_, _, _, _, _, _⟩) (v := ?_) (by rw [HO.out]; rfl) (by rfl) ?_ ?_
  rotate_left 1
  · first | ((intro W _; go_simp) <;> with_reducible rfl) | (intro W hW; have s1 := hW; (go_simp <;> with_reducible rfl))
  try simp only [Act.put, List.setIfInBounds_toArray, List.set_cons_zero, List.set_cons_succ]
  refine seq_done ?_
  have hlen : nl = 3 ∨ nl ≠ 3 := by omega
  rcases hlen with hlen | hlen
  rotate_left 1
  · have hlen' : ¬ (nl : Int) = 3 := by omega
    have HFin : Hid (LineStep S [] line.data.toList false S []) := Lib.hid (LineStep.bad (fun t ht => by
      have h1 := Wh.behind_to (by rfl) (by rfl) (by rfl) (HBk.out t ht)
      rw [← HY.out.2] at h1
      have h2 := congrArg List.length h1
      have h3 := HNl.out
      simp at h2 h3
      omega) HNr.out)
    go_wp2_with fail
    go_ret
    exact ⟨false, S, [], rfl, HP0.out.under (bAlloc HBf.out _), PKept.of (bAlloc HBf.out _) hzz, by omega, HFin.out⟩
  obtain ⟨y1, y2, rfl⟩ : ∃ y1 y2, ys = [y1, y2] := by
    have h3 := HNl.out
    rw [hlen] at h3
    match ys, h3 with
    | [y1, y2], _ => exact ⟨y1, y2, rfl⟩
  subst hlen
  have hb15 := HBf.out.size
  have hz5 : w2.heap.size ≤ w5.heap.size := H25.out.size
  have x1 : w5.cell? ⟨g0, 1, none⟩ = some (.string y1) := by
    have := HCl.out 1 y1 rfl
    exact (H25.out.cell (cell_lt this)).trans this
  have hsz1 := HSz.out y1 (by simp)
  have x2 : w5.cell? ⟨g0, 2, none⟩ = some (.string y2) := by
    have := HCl.out 2 y2 rfl
    exact (H25.out.cell (cell_lt this)).trans this
  have hsz2 := HSz.out y2 (by simp)
  have HXc : Hid (w5.cell? ⟨g0, 1, none⟩ = some (.string y1) ∧ w5.cell? ⟨g0, 2, none⟩ = some (.string y2)) := Lib.hid ⟨x1, x2⟩
  clear hS x0
  have hg5 : g0 < w5.heap.size := by omega
  have HNa := Lib.hid (BoxIs.new w5 #[.int .i64 2, .string ⟨#[]⟩, .string ⟨#[]⟩, .int .i64 0, .int .i64 0] stepTy)
  have HNb := Lib.hid (bAlloc (Below.refl w5.heap.size w5) (.cells #[.int .i64 2, .string ⟨#[]⟩, .string ⟨#[]⟩, .int .i64 0, .int .i64 0] stepTy))
  have HBe0 : w5.heap.size = w5.heap.size := rfl
  go_upto_region 24 with fail
  generalize w5.alloc _ = w6 at *
  obtain ⟨b1, hb1⟩ : ∃ b, b = w5.heap.size := ⟨_, rfl⟩
  rw [← hb1]
  rw [← hb1] at HNa
  have HBe : Hid (w2.heap.size ≤ b1) := Lib.hid (by omega)
  have hgb : g0 < b1 := by omega
  have hb1le : w5.heap.size ≤ b1 := by omega
  clear hb1 HBe0 hz5
  have HNc := Lib.hid (BoxIs.new w6 #[.int .i64 0, .int .i64 0] arrTy)
  have HNd := Lib.hid (bAlloc (Below.refl w6.heap.size w6) (.cells #[.int .i64 0, .int .i64 0] arrTy))
  go_upto_region 37 with fail
  generalize w6.alloc _ = w7 at *
  obtain ⟨b2, hb2⟩ : ∃ b, b = w6.heap.size := ⟨_, rfl⟩
  rw [← hb2]
  rw [← hb2] at HNc
  have hne : b2 ≠ b1 := by
    have := HNa.out.lt
    omega
  have hb2le : w5.heap.size ≤ b2 := by
    have := HNa.out.lt
    omega
  clear hb2
  have HN7 : Hid (BoxIs w7 b1 #[.int .i64 2, .string ⟨#[]⟩, .string ⟨#[]⟩, .int .i64 0, .int .i64 0] stepTy ∧ Below w5.heap.size w5 w7) := Lib.hid ⟨BoxIs.under HNa.out HNd.out, bTrans HNb.out HNd.out⟩
  clear HNa HNb HNd
  go_wp2_with fail
  go_loopg [131] 0 (fun g s131 wx => ∃ (i : Nat) (v0 v1 : Int), i + g = 0 ∧ s131 = .int .i64 i ∧ Hid (BoxIs wx b2 #[.int .i64 v0, .int .i64 v1] arrTy) ∧ Hid (BoxIs wx b1 #[.int .i64 2, .string ⟨#[]⟩, .string ⟨#[]⟩, .int .i64 0, .int .i64 0] stepTy) ∧ Hid (Below w5.heap.size w5 wx) ∧ Hid (NumsL y1.data.toList y2.data.toList i v0 v1))
  case atStart => exact ⟨0, 0, 0, by omega, by go_num, HNc, Lib.hid HN7.out.1, Lib.hid HN7.out.2, Lib.hid ⟨fun h => by omega, fun h => by omega, fun _ => rfl, fun _ => rfl⟩⟩
  case round =>
    obtain ⟨i, v0, v1, hi, rfl, HLb, HL1, HLw, HLn⟩ := hrel
    obtain rfl : i = 0 := by omega
    obtain rfl : v0 = 0 := HLn.out.2.2.1 rfl
    have e0 := HLb.out.cell (j := 0) rfl
    have df := Lib.frozen_of_heap HL1.out 4
    have dc := HL1.out.cell (j := 4) rfl
    go_upto_region 45 with fail
    have HA : Hid (BoxIs (wr.setCell ⟨b1, 4, none⟩ (.int .i64 0)) b1 #[.int .i64 2, .string ⟨#[]⟩, .string ⟨#[]⟩, .int .i64 0, .int .i64 0] stepTy ∧ BoxIs (wr.setCell ⟨b1, 4, none⟩ (.int .i64 0)) b2 #[.int .i64 0, .int .i64 v1] arrTy ∧ Below w5.heap.size w5 (wr.setCell ⟨b1, 4, none⟩ (.int .i64 0))) := Lib.hid ⟨BoxIs.setAt HL1.out 4 _, BoxIs.other HLb.out hne _ _, Below.setCell HLw.out hb1le _⟩
    clear e0 df dc
    generalize wr.setCell _ _ = wA at *
    have HA1 := Lib.hid HA.out.1
    have HAw := Lib.hid HA.out.2.2
    obtain ⟨wB, hwB⟩ : ∃ W, wA = W := ⟨_, rfl⟩
    subst hwB
    have HB1 := HA1
    have HBw := HAw
    have xw : wA.cell? ⟨g0, 1, none⟩ = some (.string y1) := (HBw.out.cell (cell_lt (w := w5) (p := ⟨g0, 1, none⟩) HXc.out.1)).trans HXc.out.1
    have HUn := Lib.hid (unquote_any y1 wA ((HXX.out.under HBf.out).under HBw.out) (by omega))
    go_upto_region 48 with (go_at_call 79; refine HUn.out.mono ?_; rintro e wC ⟨out1, ok1, rfl, hbC, hos, hn1, hn2⟩; have HU := Lib.hid (And.intro hn1 hn2); have df := Lib.frozen_of_heap (BoxIs.under HB1.out hbC) 1; have dc := (BoxIs.under HB1.out hbC).cell (j := 1) rfl; have HC := Lib.hid hbC; clear hbC hn1 hn2)
    clear xw df dc
    have HD : Hid (BoxIs (wC.setCell ⟨b1, 1, none⟩ (.string out1)) b1 #[.int .i64 2, .string out1, .string ⟨#[]⟩, .int .i64 0, .int .i64 0] stepTy ∧ Below w5.heap.size w5 (wC.setCell ⟨b1, 1, none⟩ (.string out1))) := Lib.hid ⟨BoxIs.setAt (BoxIs.under HB1.out HC.out) 1 _, Below.setCell (bTrans HBw.out HC.out) hb1le _⟩
    generalize wC.setCell _ _ = wD at *
    have HD1 := Lib.hid HD.out.1
    have HDw := Lib.hid HD.out.2
    cases ok1
    · have HFin : Hid (LineStep S [] line.data.toList false (S ++ [⟨2, out1, ⟨#[]⟩, 0, 0⟩]) []) := Lib.hid (LineStep.bad (fun t ht => by
          have h1 := Wh.behind_to (by rfl) (by rfl) (by rfl) (HBk.out t ht)
          rw [← HY.out.2] at h1
          simp at h1
          have h2 := HU.out.2 t.path h1.1
          cases h2) HNr.out)
      go_upto_region 50 with fail
      have HX9 : Hid (PlanX w0.heap.size wD.drew p S [] sm by' sa sc ra rc) := Lib.hid (HX0.out.under (drB0 (bTrans H25.out HDw.out)))
      have hz9 : w0.heap.size ≤ wD.drew.heap.size := by
        have := HDw.out.size
        show w0.heap.size ≤ wD.heap.size
        omega
      have c0 := HX9.out.1.cell (j := 0) rfl
      have c0a := fun ob => (BoxIs.under HX9.out.1 (bAlloc (Below.refl _ _) ob)).cell (j := 0) rfl
      have HBx9 : Hid (BoxIs wD.drew b1 #[.int .i64 2, .string out1, .string ⟨#[]⟩, .int .i64 0, .int .i64 0] stepTy) := HD1
      have HBa : Hid (∀ ob, BoxIs (wD.drew.alloc ob) b1 #[.int .i64 2, .string out1, .string ⟨#[]⟩, .int .i64 0, .int .i64 0] stepTy) := Lib.hid (fun ob => BoxIs.under HBx9.out (bAlloc (Below.refl _ _) ob))
      have HGr : Hid (∀ ob w', (wD.drew.alloc ob).grownBy w' (Value.slice sa S.length sc).ownBlock → BoxIs w' b1 #[.int .i64 2, .string out1, .string ⟨#[]⟩, .int .i64 0, .int .i64 0] stepTy) := Lib.hid (fun ob w' hg => (hg.block b1 (HBa.out ob).lt (fun e => by
        obtain ⟨_, cc, hc⟩ := HX0.out.2.1.base b1 e.symm
        have h1 := (Array.getElem?_eq_some_iff.1 hc).1
        have h2 := HBe.out
        omega)).trans (HBa.out ob))
      have HKw : Hid (PKept w0.heap.size p w wD.drew) := Lib.hid (PKept.of (drB0 (bTrans HBf.out HDw.out)) hzz)
      refine wp_region_seqU (fun W => W.cell? ⟨p, 0, none⟩ = some (.slice sa S.length sc) ∧ BoxIs W b1 #[.int .i64 2, .string out1, .string ⟨#[]⟩, .int .i64 0, .int .i64 0] stepTy) 10 [(0, true), (1, true), (2, true), (3, true), (4, true), (5, true), (6, false), (7, false), (8, true), (9, true), (10, false)] (by as_aux_lemma => kernel_rfl) (by as_aux_lemma => kernel_rfl) (by as_aux_lemma => kernel_rfl) (by decide) (by as_aux_lemma => kernel_rfl) (by decide) ⟨c0, HBx9.out⟩ ?_
      intro OPS HO
      refine seqT_take (o := ⟨_, _, _, _, _, _⟩) (v := ?_) (by rw [HO.out]; rfl) (by rfl) ?_ ?_
      rotate_left 1
      · first | ((intro W _; go_simp) <;> with_reducible rfl) | (intro W hW; have s1 := hW.1; have t0 := hW.2.cell (j := 0) rfl; have t1 := hW.2.cell (j := 1) rfl; have t2 := hW.2.cell (j := 2) rfl; have t3 := hW.2.cell (j := 3) rfl; have t4 := hW.2.cell (j := 4) rfl; (go_simp <;> with_reducible rfl))
      try simp only [Act.put, List.setIfInBounds_toArray, List.set_cons_zero, List.set_cons_succ]
      refine seqT_take (o := ⟨_, _, _, _, _, _⟩) (v := ?_) (by rw [HO.out]; rfl) (by rfl) ?_ ?_
      rotate_left 1
      · first | ((intro W _; go_simp) <;> with_reducible rfl) | (intro W hW; have s1 := hW.1; have t0 := hW.2.cell (j := 0) rfl; have t1 := hW.2.cell (j := 1) rfl; have t2 := hW.2.cell (j := 2) rfl; have t3 := hW.2.cell (j := 3) rfl; have t4 := hW.2.cell (j := 4) rfl; (go_simp <;> with_reducible rfl))
      try simp only [Act.put, List.setIfInBounds_toArray, List.set_cons_zero, List.set_cons_succ]
      refine seqT_take (o := ⟨_, _, _, _, _, _⟩) (v := ?_) (by rw [HO.out]; rfl) (by rfl) ?_ ?_
      rotate_left 1
      · first | ((intro W _; go_simp) <;> with_reducible rfl) | (intro W hW; have s1 := hW.1; have t0 := hW.2.cell (j := 0) rfl; have t1 := hW.2.cell (j := 1) rfl; have t2 := hW.2.cell (j := 2) rfl; have t3 := hW.2.cell (j := 3) rfl; have t4 := hW.2.cell (j := 4) rfl; (go_simp <;> with_reducible rfl))
      try simp only [Act.put, List.setIfInBounds_toArray, List.set_cons_zero, List.set_cons_succ]
      refine seqT_take (o := ⟨_, _, _, _, _, _⟩) (v := ?_) (by rw [HO.out]; rfl) (by rfl) ?_ ?_
      rotate_left 1
      · first | ((intro W _; go_simp) <;> with_reducible rfl) | (intro W hW; have s1 := hW.1; have t0 := hW.2.cell (j := 0) rfl; have t1 := hW.2.cell (j := 1) rfl; have t2 := hW.2.cell (j := 2) rfl; have t3 := hW.2.cell (j := 3) rfl; have t4 := hW.2.cell (j := 4) rfl; (go_simp <;> with_reducible rfl))
      try simp only [Act.put, List.setIfInBounds_toArray, List.set_cons_zero, List.set_cons_succ]
      refine seqT_take (o := ⟨_, _, _, _, _, _⟩) (v := ?_) (by rw [HO.out]; rfl) (by rfl) ?_ ?_
      rotate_left 1
      · first | ((intro W _; go_simp) <;> with_reducible rfl) | (intro W hW; have s1 := hW.1; have t0 := hW.2.cell (j := 0) rfl; have t1 := hW.2.cell (j := 1) rfl; have t2 := hW.2.cell (j := 2) rfl; have t3 := hW.2.cell (j := 3) rfl; have t4 := hW.2.cell (j := 4) rfl; (go_simp <;> with_reducible rfl))
      try simp only [Act.put, List.setIfInBounds_toArray, List.set_cons_zero, List.set_cons_succ]
      refine seqT_take (o := ⟨_, _, _, _, _, _⟩) (v := ?_) (by rw [HO.out]; rfl) (by rfl) ?_ ?_
      rotate_left 1
      · first | ((intro W _; go_simp) <;> with_reducible rfl) | (intro W hW; have s1 := hW.1; have t0 := hW.2.cell (j := 0) rfl; have t1 := hW.2.cell (j := 1) rfl; have t2 := hW.2.cell (j := 2) rfl; have t3 := hW.2.cell (j := 3) rfl; have t4 := hW.2.cell (j := 4) rfl; (go_simp <;> with_reducible rfl))
      try simp only [Act.put, List.setIfInBounds_toArray, List.set_cons_zero, List.set_cons_succ]
      refine seqT_do (o := ⟨_, _, _, _, _, _⟩) (by rw [HO.out]; rfl) (by rfl) (fun K hK => ?_)
      go_wp2_with fail
      refine hK.out _ _ (fun _ => ⟨c0a _, HBa.out _⟩) ?_
      clear hK K
      try simp only [Act.put, List.setIfInBounds_toArray, List.set_cons_zero, List.set_cons_succ]
      refine seqT_do (o := ⟨_, _, _, _, _, _⟩) (by rw [HO.out]; rfl) (by rfl) (fun K hK => ?_)
      refine wp_appSt hz9 HX9.out.2.1 (by omega) ⟨2, out1, ⟨#[]⟩, 0, 0⟩ (.tmp 188) (.tmp 190) rfl rfl rfl ?_
      intro g cap' w' hown' hg
      obtain ⟨q1, q2, q3⟩ := planAt_step hzp hz9 HX9.out.1 HX9.out.2.1 HX9.out.2.2 hown' hg
      have d1 := q1.cell (j := 0) rfl
      have df := Lib.frozen_of_heap q1 0
      have d2 := Lib.hid (HGr.out _ _ hg)
      have HQF := Lib.hid (And.intro q2 q3)
      clear q1 q2 q3 hown' hg
      refine hK.out _ _ (fun _ => ⟨d1, d2.out⟩) ?_
      clear hK K
      try simp only [Act.put, List.setIfInBounds_toArray, List.set_cons_zero, List.set_cons_succ]
      refine seqT_take (o := ⟨_, _, _, _, _, _⟩) (v := ?_) (by rw [HO.out]; rfl) (by rfl) ?_ ?_
      rotate_left 1
      · first | ((intro W _; go_simp) <;> with_reducible rfl) | (intro W hW; have s1 := hW.1; have t0 := hW.2.cell (j := 0) rfl; have t1 := hW.2.cell (j := 1) rfl; have t2 := hW.2.cell (j := 2) rfl; have t3 := hW.2.cell (j := 3) rfl; have t4 := hW.2.cell (j := 4) rfl; (go_simp <;> with_reducible rfl))
      try simp only [Act.put, List.setIfInBounds_toArray, List.set_cons_zero, List.set_cons_succ]
      refine seqT_take (o := ⟨_, _, _, _, _, _⟩) (v := ?_) (by rw [HO.out]; rfl) (by rfl) ?_ ?_
      rotate_left 1
      · first | ((intro W _; go_simp) <;> with_reducible rfl) | (intro W hW; have s1 := hW.1; have t0 := hW.2.cell (j := 0) rfl; have t1 := hW.2.cell (j := 1) rfl; have t2 := hW.2.cell (j := 2) rfl; have t3 := hW.2.cell (j := 3) rfl; have t4 := hW.2.cell (j := 4) rfl; (go_simp <;> with_reducible rfl))
      try simp only [Act.put, List.setIfInBounds_toArray, List.set_cons_zero, List.set_cons_succ]
      refine seqT_do (o := ⟨_, _, _, _, _, _⟩) (by rw [HO.out]; rfl) (by rfl) (fun K hK => ?_)
      go_wp2_with fail
      refine hK.out _ _ (fun h => absurd rfl h) ?_
      clear hK K
      try simp only [Act.put, List.setIfInBounds_toArray, List.set_cons_zero, List.set_cons_succ]
      refine seqT_done ?_
      generalize w'.setCell _ _ = wf at *
      clear d1 d2 df c0 c0a
      go_wp2_with fail
      go_ret
      refine ⟨_, S ++ [⟨2, out1, ⟨#[]⟩, 0, 0⟩], [], rfl, HQF.out.1, HKw.out.trans HQF.out.2, by simp; try omega, ?_⟩
      exact HFin.out
    · have HU1 : Hid (y1.data.toList = Wh.quotedL out1.data.toList) := Lib.hid (HU.out.1 rfl)
      have xw : wD.cell? ⟨g0, 2, none⟩ = some (.string y2) := (HDw.out.cell (cell_lt (w := w5) (p := ⟨g0, 2, none⟩) HXc.out.2)).trans HXc.out.2
      have HUn2 := Lib.hid (unquote_any y2 wD ((HXX.out.under HBf.out).under HDw.out) (by omega))
      go_upto_region 50 with (go_at_call 79; refine HUn2.out.mono ?_; rintro e wE ⟨out2, ok2, rfl, hbE, hos2, hn1, hn2⟩; have HU2 := Lib.hid (And.intro hn1 hn2); have df := Lib.frozen_of_heap (BoxIs.under HD1.out hbE) 2; have dc := (BoxIs.under HD1.out hbE).cell (j := 2) rfl; have HE := Lib.hid hbE; clear hbE hn1 hn2)
      clear xw df dc
      have HG : Hid (BoxIs (wE.setCell ⟨b1, 2, none⟩ (.string out2)) b1 #[.int .i64 2, .string out1, .string out2, .int .i64 0, .int .i64 0] stepTy ∧ Below w5.heap.size w5 (wE.setCell ⟨b1, 2, none⟩ (.string out2))) := Lib.hid ⟨BoxIs.setAt (BoxIs.under HD1.out HE.out) 2 _, Below.setCell (bTrans HDw.out HE.out) hb1le _⟩
      clear HD1 HDw HD
      generalize wE.setCell _ _ = wG at *
      have HD1 := Lib.hid HG.out.1
      have HDw := Lib.hid HG.out.2
      cases ok2
      · have HFin : Hid (LineStep S [] line.data.toList false (S ++ [⟨2, out1, out2, 0, 0⟩]) []) := Lib.hid (LineStep.bad (fun t ht => by
            have h1 := Wh.behind_to (by rfl) (by rfl) (by rfl) (HBk.out t ht)
            rw [← HY.out.2] at h1
            simp at h1
            have h2 := HU2.out.2 t.to h1.2
            cases h2) HNr.out)
        go_upto_region 50 with fail
        have HX9 : Hid (PlanX w0.heap.size wG.drew p S [] sm by' sa sc ra rc) := Lib.hid (HX0.out.under (drB0 (bTrans H25.out HDw.out)))
        have hz9 : w0.heap.size ≤ wG.drew.heap.size := by
          have := HDw.out.size
          show w0.heap.size ≤ wG.heap.size
          omega
        have c0 := HX9.out.1.cell (j := 0) rfl
        have c0a := fun ob => (BoxIs.under HX9.out.1 (bAlloc (Below.refl _ _) ob)).cell (j := 0) rfl
        have HBx9 : Hid (BoxIs wG.drew b1 #[.int .i64 2, .string out1, .string out2, .int .i64 0, .int .i64 0] stepTy) := HD1
        have HBa : Hid (∀ ob, BoxIs (wG.drew.alloc ob) b1 #[.int .i64 2, .string out1, .string out2, .int .i64 0, .int .i64 0] stepTy) := Lib.hid (fun ob => BoxIs.under HBx9.out (bAlloc (Below.refl _ _) ob))
        have HGr : Hid (∀ ob w', (wG.drew.alloc ob).grownBy w' (Value.slice sa S.length sc).ownBlock → BoxIs w' b1 #[.int .i64 2, .string out1, .string out2, .int .i64 0, .int .i64 0] stepTy) := Lib.hid (fun ob w' hg => (hg.block b1 (HBa.out ob).lt (fun e => by
          obtain ⟨_, cc, hc⟩ := HX0.out.2.1.base b1 e.symm
          have h1 := (Array.getElem?_eq_some_iff.1 hc).1
          have h2 := HBe.out
          omega)).trans (HBa.out ob))
        have HKw : Hid (PKept w0.heap.size p w wG.drew) := Lib.hid (PKept.of (drB0 (bTrans HBf.out HDw.out)) hzz)
        refine wp_region_seqU (fun W => W.cell? ⟨p, 0, none⟩ = some (.slice sa S.length sc) ∧ BoxIs W b1 #[.int .i64 2, .string out1, .string out2, .int .i64 0, .int .i64 0] stepTy) 10 [(0, true), (1, true), (2, true), (3, true), (4, true), (5, true), (6, false), (7, false), (8, true), (9, true), (10, false)] (by as_aux_lemma => kernel_rfl) (by as_aux_lemma => kernel_rfl) (by as_aux_lemma => kernel_rfl) (by decide) (by as_aux_lemma => kernel_rfl) (by decide) ⟨c0, HBx9.out⟩ ?_
        intro OPS HO
        refine seqT_take (o := ⟨_, _, _, _, _, _⟩) (v := ?_) (by rw [HO.out]; rfl) (by rfl) ?_ ?_
        rotate_left 1
        · first | ((intro W _; go_simp) <;> with_reducible rfl) | (intro W hW; have s1 := hW.1; have t0 := hW.2.cell (j := 0) rfl; have t1 := hW.2.cell (j := 1) rfl; have t2 := hW.2.cell (j := 2) rfl; have t3 := hW.2.cell (j := 3) rfl; have t4 := hW.2.cell (j := 4) rfl; (go_simp <;> with_reducible rfl))
        try simp only [Act.put, List.setIfInBounds_toArray, List.set_cons_zero, List.set_cons_succ]
        refine seqT_take (o := ⟨_, _, _, _, _, _⟩) (v := ?_) (by rw [HO.out]; rfl) (by rfl) ?_ ?_
        rotate_left 1
        · first | ((intro W _; go_simp) <;> with_reducible rfl) | (intro W hW; have s1 := hW.1; have t0 := hW.2.cell (j := 0) rfl; have t1 := hW.2.cell (j := 1) rfl; have t2 := hW.2.cell (j := 2) rfl; have t3 := hW.2.cell (j := 3) rfl; have t4 := hW.2.cell (j := 4) rfl; (go_simp <;> with_reducible rfl))
        try simp only [Act.put, List.setIfInBounds_toArray, List.set_cons_zero, List.set_cons_succ]
        refine seqT_take (o := ⟨_, _, _, _, _, _⟩) (v := ?_) (by rw [HO.out]; rfl) (by rfl) ?_ ?_
        rotate_left 1
        · first | ((intro W _; go_simp) <;> with_reducible rfl) | (intro W hW; have s1 := hW.1; have t0 := hW.2.cell (j := 0) rfl; have t1 := hW.2.cell (j := 1) rfl; have t2 := hW.2.cell (j := 2) rfl; have t3 := hW.2.cell (j := 3) rfl; have t4 := hW.2.cell (j := 4) rfl; (go_simp <;> with_reducible rfl))
        try simp only [Act.put, List.setIfInBounds_toArray, List.set_cons_zero, List.set_cons_succ]
        refine seqT_take (o := ⟨_, _, _, _, _, _⟩) (v := ?_) (by rw [HO.out]; rfl) (by rfl) ?_ ?_
        rotate_left 1
        · first | ((intro W _; go_simp) <;> with_reducible rfl) | (intro W hW; have s1 := hW.1; have t0 := hW.2.cell (j := 0) rfl; have t1 := hW.2.cell (j := 1) rfl; have t2 := hW.2.cell (j := 2) rfl; have t3 := hW.2.cell (j := 3) rfl; have t4 := hW.2.cell (j := 4) rfl; (go_simp <;> with_reducible rfl))
        try simp only [Act.put, List.setIfInBounds_toArray, List.set_cons_zero, List.set_cons_succ]
        refine seqT_take (o := ⟨_, _, _, _, _, _⟩) (v := ?_) (by rw [HO.out]; rfl) (by rfl) ?_ ?_
        rotate_left 1
        · first | ((intro W _; go_simp) <;> with_reducible rfl) | (intro W hW; have s1 := hW.1; have t0 := hW.2.cell (j := 0) rfl; have t1 := hW.2.cell (j := 1) rfl; have t2 := hW.2.cell (j := 2) rfl; have t3 := hW.2.cell (j := 3) rfl; have t4 := hW.2.cell (j := 4) rfl; (go_simp <;> with_reducible rfl))
        try simp only [Act.put, List.setIfInBounds_toArray, List.set_cons_zero, List.set_cons_succ]
        refine seqT_take (o := ⟨_, _, _, _, _, _⟩) (v := ?_) (by rw [HO.out]; rfl) (by rfl) ?_ ?_
        rotate_left 1
        · first | ((intro W _; go_simp) <;> with_reducible rfl) | (intro W hW; have s1 := hW.1; have t0 := hW.2.cell (j := 0) rfl; have t1 := hW.2.cell (j := 1) rfl; have t2 := hW.2.cell (j := 2) rfl; have t3 := hW.2.cell (j := 3) rfl; have t4 := hW.2.cell (j := 4) rfl; (go_simp <;> with_reducible rfl))
        try simp only [Act.put, List.setIfInBounds_toArray, List.set_cons_zero, List.set_cons_succ]
        refine seqT_do (o := ⟨_, _, _, _, _, _⟩) (by rw [HO.out]; rfl) (by rfl) (fun K hK => ?_)
        go_wp2_with fail
        refine hK.out _ _ (fun _ => ⟨c0a _, HBa.out _⟩) ?_
        clear hK K
        try simp only [Act.put, List.setIfInBounds_toArray, List.set_cons_zero, List.set_cons_succ]
        refine seqT_do (o := ⟨_, _, _, _, _, _⟩) (by rw [HO.out]; rfl) (by rfl) (fun K hK => ?_)
        refine wp_appSt hz9 HX9.out.2.1 (by omega) ⟨2, out1, out2, 0, 0⟩ (.tmp 188) (.tmp 190) rfl rfl rfl ?_
        intro g cap' w' hown' hg
        obtain ⟨q1, q2, q3⟩ := planAt_step hzp hz9 HX9.out.1 HX9.out.2.1 HX9.out.2.2 hown' hg
        have d1 := q1.cell (j := 0) rfl
        have df := Lib.frozen_of_heap q1 0
        have d2 := Lib.hid (HGr.out _ _ hg)
        have HQF := Lib.hid (And.intro q2 q3)
        clear q1 q2 q3 hown' hg
        refine hK.out _ _ (fun _ => ⟨d1, d2.out⟩) ?_
        clear hK K
        try simp only [Act.put, List.setIfInBounds_toArray, List.set_cons_zero, List.set_cons_succ]
        refine seqT_take (o := ⟨_, _, _, _, _, _⟩) (v := ?_) (by rw [HO.out]; rfl) (by rfl) ?_ ?_
        rotate_left 1
        · first | ((intro W _; go_simp) <;> with_reducible rfl) | (intro W hW; have s1 := hW.1; have t0 := hW.2.cell (j := 0) rfl; have t1 := hW.2.cell (j := 1) rfl; have t2 := hW.2.cell (j := 2) rfl; have t3 := hW.2.cell (j := 3) rfl; have t4 := hW.2.cell (j := 4) rfl; (go_simp <;> with_reducible rfl))
        try simp only [Act.put, List.setIfInBounds_toArray, List.set_cons_zero, List.set_cons_succ]
        refine seqT_take (o := ⟨_, _, _, _, _, _⟩) (v := ?_) (by rw [HO.out]; rfl) (by rfl) ?_ ?_
        rotate_left 1
        · first | ((intro W _; go_simp) <;> with_reducible rfl) | (intro W hW; have s1 := hW.1; have t0 := hW.2.cell (j := 0) rfl; have t1 := hW.2.cell (j := 1) rfl; have t2 := hW.2.cell (j := 2) rfl; have t3 := hW.2.cell (j := 3) rfl; have t4 := hW.2.cell (j := 4) rfl; (go_simp <;> with_reducible rfl))
        try simp only [Act.put, List.setIfInBounds_toArray, List.set_cons_zero, List.set_cons_succ]
        refine seqT_do (o := ⟨_, _, _, _, _, _⟩) (by rw [HO.out]; rfl) (by rfl) (fun K hK => ?_)
        go_wp2_with fail
        refine hK.out _ _ (fun h => absurd rfl h) ?_
        clear hK K
        try simp only [Act.put, List.setIfInBounds_toArray, List.set_cons_zero, List.set_cons_succ]
        refine seqT_done ?_
        generalize w'.setCell _ _ = wf at *
        clear d1 d2 df c0 c0a
        go_wp2_with fail
        go_ret
        refine ⟨_, S ++ [⟨2, out1, out2, 0, 0⟩], [], rfl, HQF.out.1, HKw.out.trans HQF.out.2, by simp; try omega, ?_⟩
        exact HFin.out
      · have HFin : Hid (LineStep S [] line.data.toList true (S ++ [⟨2, out1, out2, 0, 0⟩]) []) := Lib.hid ⟨fun _ => .inl ⟨⟨2, out1, out2, 0, 0⟩, HOf.out _ (Wh.to_behind (by rfl) (by rfl) (by rfl) (by decide) (by decide) (by rw [← HY.out.2]; simp [HU1.out, HU2.out.1 rfl])), rfl, rfl, rfl⟩, fun h => (by cases h)⟩
        go_upto_region 50 with fail
        have HX9 : Hid (PlanX w0.heap.size wG.drew p S [] sm by' sa sc ra rc) := Lib.hid (HX0.out.under (drB0 (bTrans H25.out HDw.out)))
        have hz9 : w0.heap.size ≤ wG.drew.heap.size := by
          have := HDw.out.size
          show w0.heap.size ≤ wG.heap.size
          omega
        have c0 := HX9.out.1.cell (j := 0) rfl
        have c0a := fun ob => (BoxIs.under HX9.out.1 (bAlloc (Below.refl _ _) ob)).cell (j := 0) rfl
        have HBx9 : Hid (BoxIs wG.drew b1 #[.int .i64 2, .string out1, .string out2, .int .i64 0, .int .i64 0] stepTy) := HD1
        have HBa : Hid (∀ ob, BoxIs (wG.drew.alloc ob) b1 #[.int .i64 2, .string out1, .string out2, .int .i64 0, .int .i64 0] stepTy) := Lib.hid (fun ob => BoxIs.under HBx9.out (bAlloc (Below.refl _ _) ob))
        have HGr : Hid (∀ ob w', (wG.drew.alloc ob).grownBy w' (Value.slice sa S.length sc).ownBlock → BoxIs w' b1 #[.int .i64 2, .string out1, .string out2, .int .i64 0, .int .i64 0] stepTy) := Lib.hid (fun ob w' hg => (hg.block b1 (HBa.out ob).lt (fun e => by
          obtain ⟨_, cc, hc⟩ := HX0.out.2.1.base b1 e.symm
          have h1 := (Array.getElem?_eq_some_iff.1 hc).1
          have h2 := HBe.out
          omega)).trans (HBa.out ob))
        have HKw : Hid (PKept w0.heap.size p w wG.drew) := Lib.hid (PKept.of (drB0 (bTrans HBf.out HDw.out)) hzz)
        refine wp_region_seqU (fun W => W.cell? ⟨p, 0, none⟩ = some (.slice sa S.length sc) ∧ BoxIs W b1 #[.int .i64 2, .string out1, .string out2, .int .i64 0, .int .i64 0] stepTy) 10 [(0, true), (1, true), (2, true), (3, true), (4, true), (5, true), (6, false), (7, false), (8, true), (9, true), (10, false)] (by as_aux_lemma => kernel_rfl) (by as_aux_lemma => kernel_rfl) (by as_aux_lemma => kernel_rfl) (by decide) (by as_aux_lemma => kernel_rfl) (by decide) ⟨c0, HBx9.out⟩ ?_
        intro OPS HO
        refine seqT_take (o := ⟨_, _, _, _, _, _⟩) (v := ?_) (by rw [HO.out]; rfl) (by rfl) ?_ ?_
        rotate_left 1
        · first | ((intro W _; go_simp) <;> with_reducible rfl) | (intro W hW; have s1 := hW.1; have t0 := hW.2.cell (j := 0) rfl; have t1 := hW.2.cell (j := 1) rfl; have t2 := hW.2.cell (j := 2) rfl; have t3 := hW.2.cell (j := 3) rfl; have t4 := hW.2.cell (j := 4) rfl; (go_simp <;> with_reducible rfl))
        try simp only [Act.put, List.setIfInBounds_toArray, List.set_cons_zero, List.set_cons_succ]
        refine seqT_take (o := ⟨_, _, _, _, _, _⟩) (v := ?_) (by rw [HO.out]; rfl) (by rfl) ?_ ?_
        rotate_left 1
        · first | ((intro W _; go_simp) <;> with_reducible rfl) | (intro W hW; have s1 := hW.1; have t0 := hW.2.cell (j := 0) rfl; have t1 := hW.2.cell (j := 1) rfl; have t2 := hW.2.cell (j := 2) rfl; have t3 := hW.2.cell (j := 3) rfl; have t4 := hW.2.cell (j := 4) rfl; (go_simp <;> with_reducible rfl))
        try simp only [Act.put, List.setIfInBounds_toArray, List.set_cons_zero, List.set_cons_succ]
        refine seqT_take (o := ⟨_, _, _, _, _, _⟩) (v := ?_) (by rw [HO.out]; rfl) (by rfl) ?_ ?_
        rotate_left 1
        · first | ((intro W _; go_simp) <;> with_reducible rfl) | (intro W hW; have s1 := hW.1; have t0 := hW.2.cell (j := 0) rfl; have t1 := hW.2.cell (j := 1) rfl; have t2 := hW.2.cell (j := 2) rfl; have t3 := hW.2.cell (j := 3) rfl; have t4 := hW.2.cell (j := 4) rfl; (go_simp <;> with_reducible rfl))
        try simp only [Act.put, List.setIfInBounds_toArray, List.set_cons_zero, List.set_cons_succ]
        refine seqT_take (o := ⟨_, _, _, _, _, _⟩) (v := ?_) (by rw [HO.out]; rfl) (by rfl) ?_ ?_
        rotate_left 1
        · first | ((intro W _; go_simp) <;> with_reducible rfl) | (intro W hW; have s1 := hW.1; have t0 := hW.2.cell (j := 0) rfl; have t1 := hW.2.cell (j := 1) rfl; have t2 := hW.2.cell (j := 2) rfl; have t3 := hW.2.cell (j := 3) rfl; have t4 := hW.2.cell (j := 4) rfl; (go_simp <;> with_reducible rfl))
        try simp only [Act.put, List.setIfInBounds_toArray, List.set_cons_zero, List.set_cons_succ]
        refine seqT_take (o := ⟨_, _, _, _, _, _⟩) (v := ?_) (by rw [HO.out]; rfl) (by rfl) ?_ ?_
        rotate_left 1
        · first | ((intro W _; go_simp) <;> with_reducible rfl) | (intro W hW; have s1 := hW.1; have t0 := hW.2.cell (j := 0) rfl; have t1 := hW.2.cell (j := 1) rfl; have t2 := hW.2.cell (j := 2) rfl; have t3 := hW.2.cell (j := 3) rfl; have t4 := hW.2.cell (j := 4) rfl; (go_simp <;> with_reducible rfl))
        try simp only [Act.put, List.setIfInBounds_toArray, List.set_cons_zero, List.set_cons_succ]
        refine seqT_take (o := ⟨_, _, _, _, _, _⟩) (v := ?_) (by rw [HO.out]; rfl) (by rfl) ?_ ?_
        rotate_left 1
        · first | ((intro W _; go_simp) <;> with_reducible rfl) | (intro W hW; have s1 := hW.1; have t0 := hW.2.cell (j := 0) rfl; have t1 := hW.2.cell (j := 1) rfl; have t2 := hW.2.cell (j := 2) rfl; have t3 := hW.2.cell (j := 3) rfl; have t4 := hW.2.cell (j := 4) rfl; (go_simp <;> with_reducible rfl))
        try simp only [Act.put, List.setIfInBounds_toArray, List.set_cons_zero, List.set_cons_succ]
        refine seqT_do (o := ⟨_, _, _, _, _, _⟩) (by rw [HO.out]; rfl) (by rfl) (fun K hK => ?_)
        go_wp2_with fail
        refine hK.out _ _ (fun _ => ⟨c0a _, HBa.out _⟩) ?_
        clear hK K
        try simp only [Act.put, List.setIfInBounds_toArray, List.set_cons_zero, List.set_cons_succ]
        refine seqT_do (o := ⟨_, _, _, _, _, _⟩) (by rw [HO.out]; rfl) (by rfl) (fun K hK => ?_)
        refine wp_appSt hz9 HX9.out.2.1 (by omega) ⟨2, out1, out2, 0, 0⟩ (.tmp 188) (.tmp 190) rfl rfl rfl ?_
        intro g cap' w' hown' hg
        obtain ⟨q1, q2, q3⟩ := planAt_step hzp hz9 HX9.out.1 HX9.out.2.1 HX9.out.2.2 hown' hg
        have d1 := q1.cell (j := 0) rfl
        have df := Lib.frozen_of_heap q1 0
        have d2 := Lib.hid (HGr.out _ _ hg)
        have HQF := Lib.hid (And.intro q2 q3)
        clear q1 q2 q3 hown' hg
        refine hK.out _ _ (fun _ => ⟨d1, d2.out⟩) ?_
        clear hK K
        try simp only [Act.put, List.setIfInBounds_toArray, List.set_cons_zero, List.set_cons_succ]
        refine seqT_take (o := ⟨_, _, _, _, _, _⟩) (v := ?_) (by rw [HO.out]; rfl) (by rfl) ?_ ?_
        rotate_left 1
        · first | ((intro W _; go_simp) <;> with_reducible rfl) | (intro W hW; have s1 := hW.1; have t0 := hW.2.cell (j := 0) rfl; have t1 := hW.2.cell (j := 1) rfl; have t2 := hW.2.cell (j := 2) rfl; have t3 := hW.2.cell (j := 3) rfl; have t4 := hW.2.cell (j := 4) rfl; (go_simp <;> with_reducible rfl))
        try simp only [Act.put, List.setIfInBounds_toArray, List.set_cons_zero, List.set_cons_succ]
        refine seqT_take (o := ⟨_, _, _, _, _, _⟩) (v := ?_) (by rw [HO.out]; rfl) (by rfl) ?_ ?_
        rotate_left 1
        · first | ((intro W _; go_simp) <;> with_reducible rfl) | (intro W hW; have s1 := hW.1; have t0 := hW.2.cell (j := 0) rfl; have t1 := hW.2.cell (j := 1) rfl; have t2 := hW.2.cell (j := 2) rfl; have t3 := hW.2.cell (j := 3) rfl; have t4 := hW.2.cell (j := 4) rfl; (go_simp <;> with_reducible rfl))
        try simp only [Act.put, List.setIfInBounds_toArray, List.set_cons_zero, List.set_cons_succ]
        refine seqT_do (o := ⟨_, _, _, _, _, _⟩) (by rw [HO.out]; rfl) (by rfl) (fun K hK => ?_)
        go_wp2_with fail
        refine hK.out _ _ (fun h => absurd rfl h) ?_
        clear hK K
        try simp only [Act.put, List.setIfInBounds_toArray, List.set_cons_zero, List.set_cons_succ]
        refine seqT_done ?_
        generalize w'.setCell _ _ = wf at *
        clear d1 d2 df c0 c0a
        go_wp2_with fail
        go_ret
        refine ⟨_, S ++ [⟨2, out1, out2, 0, 0⟩], [], rfl, HQF.out.1, HKw.out.trans HQF.out.2, by simp; try omega, ?_⟩
        exact HFin.out

set_option maxHeartbeats 8000000 in
set_option maxRecDepth 100000 in
theorem planLine_k3  (w0 : World) (p : Nat) (S : List PStep) (R : List PRef) (sm by' : Int) (line : ByteArray) (w : World) (hX : EnvX w0) (hT : EnvT w0) (hB : Below w0.heap.size w0 w) (hP : PlanAt w0.heap.size w p S R sm by') (hl : line.size ≤ 2000000) (hn : S.length + R.length ≤ 1500000) (L : List (List UInt8)) (hw : ∀ x ∈ L, Wh.isW x) (hne : L ≠ []) (hlw : line.data.toList = Wh.lineW L) (r : List (List UInt8)) (hr : L = Wh.stepW.getD 3 [] :: r) (hR : R = []) : Calls Tryz.prog 27 #[.pointer (some ⟨p, 0, none⟩), .string line, .bool false] w (LinePost w0.heap.size p S R sm by' line.data.toList w) := by
  have HPW := Lib.hid (pWords_any line w hl)
  have HL := Lib.hid (And.intro hw (And.intro hne hlw))
  have HR := Lib.hid hr
  have HP0 := Lib.hid hP
  have hzz := hB.size
  have hzp := hP.1
  have hpl : p < w.heap.size := by
    obtain ⟨_, sa, sc, ra, rc, h1, _⟩ := hP
    exact h1.lt
  have HXX := Lib.hid (hX.under hB)
  have HTT := Lib.hid (hT.under hB)
  subst hR
  clear hw hne hlw hr hP hB hX hT
  go_enter Tryz.func27, Tryz.ntmps27
  go_upto_region 2 with (go_at_call 77; refine HPW.out.mono ?_; rintro e w2 hpw; rcases hpw with ⟨rfl, hb1, hno⟩ | ⟨ws, a, cap, rfl, hO, hne1, hws, hlw1⟩)
  · exact absurd ⟨L, HL.out.2.1, HL.out.1, HL.out.2.2⟩ hno
  obtain ⟨g0, rfl, hg0, hg1, hcells⟩ := ownS_at hO hne1
  have HM : Hid (ws.map (·.data.toList) = L) := Lib.hid (Wh.lineW_inj hws HL.out.1 (hlw1.symm.trans HL.out.2.2))
  have HB2 := Lib.hid hO.below
  have HCl := Lib.hid hcells
  clear hO hws hlw1 hcells hne1
  obtain ⟨y0, ys, rfl⟩ : ∃ y0 ys, ws = y0 :: ys := by
    cases ws with
    | nil => exact absurd HM.out.symm HL.out.2.1
    | cons y0 ys => exact ⟨y0, ys, rfl⟩
  have x0 := HCl.out 0 y0 rfl
  have hl0 : 0 < (y0 :: ys).length := by simp
  have HY : Hid (y0.data.toList = Wh.stepW.getD 3 [] ∧ ys.map (·.data.toList) = r) := Lib.hid (by
    have := HM.out.trans HR.out
    injection this with h1 h2
    exact ⟨h1, h2⟩)
  have HBk : Hid (∀ t, Wh.StepLineL line.data.toList t → Wh.Behind 3 r t) := Lib.hid (fun t ht => Wh.behind_of (by decide) (HR.out ▸ HL.out.1) (HR.out ▸ HL.out.2.2) ht)
  have HOf : Hid (∀ t, Wh.Behind 3 r t → Wh.StepLineL line.data.toList t) := Lib.hid (fun t ht => Wh.of_behind (HR.out ▸ HL.out.2.2) ht)
  have HNr : Hid (∀ u q, ¬ Wh.RefLineL line.data.toList u q) := Lib.hid (Wh.other_ref (Wh.stepW_ref _ (by decide)) (HR.out ▸ HL.out.1) (HR.out ▸ HL.out.2.2))
  have HSz : Hid (∀ y ∈ ys, y.size ≤ line.size) := Lib.hid (fun y hy => by
    have h1 := mem_lineW (List.mem_map_of_mem (f := (·.data.toList)) (List.mem_cons_of_mem y0 hy))
    rw [HM.out, ← HL.out.2.2] at h1
    rw [Lib.size_eq, Lib.size_eq]
    exact h1)
  have hq : (y0.toList == [114, 101, 102, 117, 115, 101, 100]) = false := by
    rw [Lib.toList_data, HY.out.1]
    exact beq_eq_false_iff_ne.2 (Wh.stepW_ref _ (by decide))
  obtain ⟨_, sa, sc, ra, rc, hx⟩ := HP0.out.under HB2.out
  have HX0 : Hid (PlanX w0.heap.size w2 p S [] sm by' sa sc ra rc) := Lib.hid hx
  have c1 := hx.1.cell (j := 1) rfl
  clear hx
  have HSn := Lib.hid (fun W => stepNames_any W)
  have HIx : Hid (Lib.idxOfS (stepZs.take 11) y0 = ((3 : Nat) : Int)) := Lib.hid (by
    rcases idx_step y0 with ⟨j, k1, k2, k3⟩ | ⟨h, _⟩
    · rw [HY.out.1] at k2
      rw [k3, Wh.stepW_inj _ (Nat.lt_succ_of_le (by decide)) _ (Nat.lt_succ_of_le k1) k2]
    · exact absurd HY.out.1 (h _ (by decide)))
  have HF5 : Hid (∀ w5, w5 = w2.drew.alloc (.cells (stepZs.map Value.string).toArray 9) → Below w.heap.size w w5 ∧ BoxIs w5 w2.heap.size (stepZs.map Value.string).toArray 9 ∧ w5.cell? ⟨g0, 0, none⟩ = some (.string y0)) := Lib.hid (by
    rintro _ rfl
    exact ⟨bAlloc (drB0 HB2.out) _, BoxIs.new w2.drew _ _, ((bAlloc (drB0 (Below.refl w2.heap.size w2)) _).cell (cell_lt x0)).trans x0⟩)
  have HCl2 : Hid (∀ w5, w5 = w2.drew.alloc (.cells (stepZs.map Value.string).toArray 9) → Below w2.heap.size w2 w5) := Lib.hid (by
    rintro _ rfl
    exact bAlloc (drB0 (Below.refl w2.heap.size w2)) _)
  obtain ⟨nl, hnl⟩ : ∃ nl, (y0 :: ys).length = nl := ⟨_, rfl⟩
  have HNl := Lib.hid hnl
  rw [hnl] at hl0
  simp only [hnl]
  clear hnl
  have hl0' : (0 : Int) < (nl : Int) := by omega
  go_upto_region 20 with fail
  clear c1
  refine wp_region_seq (fun W => W.cell? ⟨g0, 0, none⟩ = some (.string y0)) [(1, true), (2, true), (3, true), (0, false), (4, false), (5, true)] (by as_aux_lemma => kernel_rfl) (by as_aux_lemma => kernel_rfl) (by decide) (by as_aux_lemma => kernel_rfl) x0 ?_
  intro OPS HO
  refine seq_take (o := ⟨_, _, _, _, _, _⟩) (v := ?_) (by rw [HO.out]; rfl) (by rfl) ?_ ?_
  rotate_left 1
  · first | ((intro W _; go_simp) <;> with_reducible rfl) | (intro W hW; have s1 := hW; (go_simp <;> with_reducible rfl))
  try simp only [Act.put, List.setIfInBounds_toArray, List.set_cons_zero, List.set_cons_succ]
  refine seq_take (o := ⟨_, _, _, _, _, _⟩) (v := ?_) (by rw [HO.out]; rfl) (by rfl) ?_ ?_
  rotate_left 1
  · first | ((intro W _; go_simp) <;> with_reducible rfl) | (intro W hW; have s1 := hW; (go_simp <;> with_reducible rfl))
  try simp only [Act.put, List.setIfInBounds_toArray, List.set_cons_zero, List.set_cons_succ]
  refine seq_take (o := ⟨_, _, _, _, _, _⟩) (v := ?_) (by rw [HO.out]; rfl) (by rfl) ?_ ?_
  rotate_left 1
  · first | ((intro W _; go_simp) <;> with_reducible rfl) | (intro W hW; have s1 := hW; (go_simp <;> with_reducible rfl))
  try simp only [Act.put, List.setIfInBounds_toArray, List.set_cons_zero, List.set_cons_succ]
  refine seq_do (o := ⟨_, _, _, _, _, _⟩) (by rw [HO.out]; rfl) (by rfl) (fun K hK => ?_)
  go_wp2_with (go_at_call 81; (with_reducible refine (HSn.out _).mono ?_); rintro e w5 ⟨rfl, hw5⟩; obtain ⟨hb5, hx5, hS⟩ := HF5.out _ hw5; have H25 := Lib.hid (HCl2.out _ hw5); have HBf := Lib.hid hb5; have HBx := Lib.hid hx5; clear hw5 hb5 hx5)
  have HSi := Lib.hid (sliceIndex_any w5 w2.heap.size y0 HBx.out)
  rw [HIx.out] at HSi
  refine hK.out _ _ hS (fun _ => ?_)
  clear hK K
  try simp only [Act.put, List.setIfInBounds_toArray, List.set_cons_zero, List.set_cons_succ]
  refine seq_do (o := ⟨_, _, _, _, _, _⟩) (by rw [HO.out]; rfl) (by rfl) (fun K hK => ?_)
  go_wp2_with (go_at_call 80; (with_reducible refine HSi.out.mono ?_); rintro e w6 ⟨rfl, hw6⟩; subst w6)
  refine hK.out _ _ hS (fun _ => ?_)
  clear hK K
  try simp only [Act.put, List.setIfInBounds_toArray, List.set_cons_zero, List.set_cons_succ]
  refine seq_take (o := ⟨_, _, _, _, _, _⟩) (v := ?_) (by rw [HO.out]; rfl) (by rfl) ?_ ?_
  rotate_left 1
  · first | ((intro W _; go_simp) <;> with_reducible rfl) | (intro W hW; have s1 := hW; (go_simp <;> with_reducible rfl))
  try simp only [Act.put, List.setIfInBounds_toArray, List.set_cons_zero, List.set_cons_succ]
  refine seq_done ?_
  have hlen : nl = 3 ∨ nl ≠ 3 := by omega
  rcases hlen with hlen | hlen
  rotate_left 1
  · have hlen' : ¬ (nl : Int) = 3 := by omega
    have HFin : Hid (LineStep S [] line.data.toList false S []) := Lib.hid (LineStep.bad (fun t ht => by
      have h1 := Wh.behind_to (by rfl) (by rfl) (by rfl) (HBk.out t ht)
      rw [← HY.out.2] at h1
      have h2 := congrArg List.length h1
      have h3 := HNl.out
      simp at h2 h3
      omega) HNr.out)
    go_wp2_with fail
    go_ret
    exact ⟨false, S, [], rfl, HP0.out.under (bAlloc HBf.out _), PKept.of (bAlloc HBf.out _) hzz, by omega, HFin.out⟩
  obtain ⟨y1, y2, rfl⟩ : ∃ y1 y2, ys = [y1, y2] := by
    have h3 := HNl.out
    rw [hlen] at h3
    match ys, h3 with
    | [y1, y2], _ => exact ⟨y1, y2, rfl⟩
  subst hlen
  have hb15 := HBf.out.size
  have hz5 : w2.heap.size ≤ w5.heap.size := H25.out.size
  have x1 : w5.cell? ⟨g0, 1, none⟩ = some (.string y1) := by
    have := HCl.out 1 y1 rfl
    exact (H25.out.cell (cell_lt this)).trans this
  have hsz1 := HSz.out y1 (by simp)
  have x2 : w5.cell? ⟨g0, 2, none⟩ = some (.string y2) := by
    have := HCl.out 2 y2 rfl
    exact (H25.out.cell (cell_lt this)).trans this
  have hsz2 := HSz.out y2 (by simp)
  have HXc : Hid (w5.cell? ⟨g0, 1, none⟩ = some (.string y1) ∧ w5.cell? ⟨g0, 2, none⟩ = some (.string y2)) := Lib.hid ⟨x1, x2⟩
  clear hS x0
  have hg5 : g0 < w5.heap.size := by omega
  have HNa := Lib.hid (BoxIs.new w5 #[.int .i64 3, .string ⟨#[]⟩, .string ⟨#[]⟩, .int .i64 0, .int .i64 0] stepTy)
  have HNb := Lib.hid (bAlloc (Below.refl w5.heap.size w5) (.cells #[.int .i64 3, .string ⟨#[]⟩, .string ⟨#[]⟩, .int .i64 0, .int .i64 0] stepTy))
  have HBe0 : w5.heap.size = w5.heap.size := rfl
  go_upto_region 24 with fail
  generalize w5.alloc _ = w6 at *
  obtain ⟨b1, hb1⟩ : ∃ b, b = w5.heap.size := ⟨_, rfl⟩
  rw [← hb1]
  rw [← hb1] at HNa
  have HBe : Hid (w2.heap.size ≤ b1) := Lib.hid (by omega)
  have hgb : g0 < b1 := by omega
  have hb1le : w5.heap.size ≤ b1 := by omega
  clear hb1 HBe0 hz5
  have HNc := Lib.hid (BoxIs.new w6 #[.int .i64 0, .int .i64 0] arrTy)
  have HNd := Lib.hid (bAlloc (Below.refl w6.heap.size w6) (.cells #[.int .i64 0, .int .i64 0] arrTy))
  go_upto_region 37 with fail
  generalize w6.alloc _ = w7 at *
  obtain ⟨b2, hb2⟩ : ∃ b, b = w6.heap.size := ⟨_, rfl⟩
  rw [← hb2]
  rw [← hb2] at HNc
  have hne : b2 ≠ b1 := by
    have := HNa.out.lt
    omega
  have hb2le : w5.heap.size ≤ b2 := by
    have := HNa.out.lt
    omega
  clear hb2
  have HN7 : Hid (BoxIs w7 b1 #[.int .i64 3, .string ⟨#[]⟩, .string ⟨#[]⟩, .int .i64 0, .int .i64 0] stepTy ∧ Below w5.heap.size w5 w7) := Lib.hid ⟨BoxIs.under HNa.out HNd.out, bTrans HNb.out HNd.out⟩
  clear HNa HNb HNd
  go_wp2_with fail
  go_loopg [131] 0 (fun g s131 wx => ∃ (i : Nat) (v0 v1 : Int), i + g = 0 ∧ s131 = .int .i64 i ∧ Hid (BoxIs wx b2 #[.int .i64 v0, .int .i64 v1] arrTy) ∧ Hid (BoxIs wx b1 #[.int .i64 3, .string ⟨#[]⟩, .string ⟨#[]⟩, .int .i64 0, .int .i64 0] stepTy) ∧ Hid (Below w5.heap.size w5 wx) ∧ Hid (NumsL y1.data.toList y2.data.toList i v0 v1))
  case atStart => exact ⟨0, 0, 0, by omega, by go_num, HNc, Lib.hid HN7.out.1, Lib.hid HN7.out.2, Lib.hid ⟨fun h => by omega, fun h => by omega, fun _ => rfl, fun _ => rfl⟩⟩
  case round =>
    obtain ⟨i, v0, v1, hi, rfl, HLb, HL1, HLw, HLn⟩ := hrel
    obtain rfl : i = 0 := by omega
    obtain rfl : v0 = 0 := HLn.out.2.2.1 rfl
    have e0 := HLb.out.cell (j := 0) rfl
    have df := Lib.frozen_of_heap HL1.out 4
    have dc := HL1.out.cell (j := 4) rfl
    go_upto_region 45 with fail
    have HA : Hid (BoxIs (wr.setCell ⟨b1, 4, none⟩ (.int .i64 0)) b1 #[.int .i64 3, .string ⟨#[]⟩, .string ⟨#[]⟩, .int .i64 0, .int .i64 0] stepTy ∧ BoxIs (wr.setCell ⟨b1, 4, none⟩ (.int .i64 0)) b2 #[.int .i64 0, .int .i64 v1] arrTy ∧ Below w5.heap.size w5 (wr.setCell ⟨b1, 4, none⟩ (.int .i64 0))) := Lib.hid ⟨BoxIs.setAt HL1.out 4 _, BoxIs.other HLb.out hne _ _, Below.setCell HLw.out hb1le _⟩
    clear e0 df dc
    generalize wr.setCell _ _ = wA at *
    have HA1 := Lib.hid HA.out.1
    have HAw := Lib.hid HA.out.2.2
    obtain ⟨wB, hwB⟩ : ∃ W, wA = W := ⟨_, rfl⟩
    subst hwB
    have HB1 := HA1
    have HBw := HAw
    have xw : wA.cell? ⟨g0, 1, none⟩ = some (.string y1) := (HBw.out.cell (cell_lt (w := w5) (p := ⟨g0, 1, none⟩) HXc.out.1)).trans HXc.out.1
    have HUn := Lib.hid (unquote_any y1 wA ((HXX.out.under HBf.out).under HBw.out) (by omega))
    go_upto_region 48 with (go_at_call 79; refine HUn.out.mono ?_; rintro e wC ⟨out1, ok1, rfl, hbC, hos, hn1, hn2⟩; have HU := Lib.hid (And.intro hn1 hn2); have df := Lib.frozen_of_heap (BoxIs.under HB1.out hbC) 1; have dc := (BoxIs.under HB1.out hbC).cell (j := 1) rfl; have HC := Lib.hid hbC; clear hbC hn1 hn2)
    clear xw df dc
    have HD : Hid (BoxIs (wC.setCell ⟨b1, 1, none⟩ (.string out1)) b1 #[.int .i64 3, .string out1, .string ⟨#[]⟩, .int .i64 0, .int .i64 0] stepTy ∧ Below w5.heap.size w5 (wC.setCell ⟨b1, 1, none⟩ (.string out1))) := Lib.hid ⟨BoxIs.setAt (BoxIs.under HB1.out HC.out) 1 _, Below.setCell (bTrans HBw.out HC.out) hb1le _⟩
    generalize wC.setCell _ _ = wD at *
    have HD1 := Lib.hid HD.out.1
    have HDw := Lib.hid HD.out.2
    cases ok1
    · have HFin : Hid (LineStep S [] line.data.toList false (S ++ [⟨3, out1, ⟨#[]⟩, 0, 0⟩]) []) := Lib.hid (LineStep.bad (fun t ht => by
          have h1 := Wh.behind_to (by rfl) (by rfl) (by rfl) (HBk.out t ht)
          rw [← HY.out.2] at h1
          simp at h1
          have h2 := HU.out.2 t.path h1.1
          cases h2) HNr.out)
      go_upto_region 50 with fail
      have HX9 : Hid (PlanX w0.heap.size wD.drew p S [] sm by' sa sc ra rc) := Lib.hid (HX0.out.under (drB0 (bTrans H25.out HDw.out)))
      have hz9 : w0.heap.size ≤ wD.drew.heap.size := by
        have := HDw.out.size
        show w0.heap.size ≤ wD.heap.size
        omega
      have c0 := HX9.out.1.cell (j := 0) rfl
      have c0a := fun ob => (BoxIs.under HX9.out.1 (bAlloc (Below.refl _ _) ob)).cell (j := 0) rfl
      have HBx9 : Hid (BoxIs wD.drew b1 #[.int .i64 3, .string out1, .string ⟨#[]⟩, .int .i64 0, .int .i64 0] stepTy) := HD1
      have HBa : Hid (∀ ob, BoxIs (wD.drew.alloc ob) b1 #[.int .i64 3, .string out1, .string ⟨#[]⟩, .int .i64 0, .int .i64 0] stepTy) := Lib.hid (fun ob => BoxIs.under HBx9.out (bAlloc (Below.refl _ _) ob))
      have HGr : Hid (∀ ob w', (wD.drew.alloc ob).grownBy w' (Value.slice sa S.length sc).ownBlock → BoxIs w' b1 #[.int .i64 3, .string out1, .string ⟨#[]⟩, .int .i64 0, .int .i64 0] stepTy) := Lib.hid (fun ob w' hg => (hg.block b1 (HBa.out ob).lt (fun e => by
        obtain ⟨_, cc, hc⟩ := HX0.out.2.1.base b1 e.symm
        have h1 := (Array.getElem?_eq_some_iff.1 hc).1
        have h2 := HBe.out
        omega)).trans (HBa.out ob))
      have HKw : Hid (PKept w0.heap.size p w wD.drew) := Lib.hid (PKept.of (drB0 (bTrans HBf.out HDw.out)) hzz)
      refine wp_region_seqU (fun W => W.cell? ⟨p, 0, none⟩ = some (.slice sa S.length sc) ∧ BoxIs W b1 #[.int .i64 3, .string out1, .string ⟨#[]⟩, .int .i64 0, .int .i64 0] stepTy) 10 [(0, true), (1, true), (2, true), (3, true), (4, true), (5, true), (6, false), (7, false), (8, true), (9, true), (10, false)] (by as_aux_lemma => kernel_rfl) (by as_aux_lemma => kernel_rfl) (by as_aux_lemma => kernel_rfl) (by decide) (by as_aux_lemma => kernel_rfl) (by decide) ⟨c0, HBx9.out⟩ ?_
      intro OPS HO
      refine seqT_take (o := ⟨_, _, _, _, _, _⟩) (v := ?_) (by rw [HO.out]; rfl) (by rfl) ?_ ?_
      rotate_left 1
      · first | ((intro W _; go_simp) <;> with_reducible rfl) | (intro W hW; have s1 := hW.1; have t0 := hW.2.cell (j := 0) rfl; have t1 := hW.2.cell (j := 1) rfl; have t2 := hW.2.cell (j := 2) rfl; have t3 := hW.2.cell (j := 3) rfl; have t4 := hW.2.cell (j := 4) rfl; (go_simp <;> with_reducible rfl))
      try simp only [Act.put, List.setIfInBounds_toArray, List.set_cons_zero, List.set_cons_succ]
      refine seqT_take (o := ⟨_, _, _, _, _, _⟩) (v := ?_) (by rw [HO.out]; rfl) (by rfl) ?_ ?_
      rotate_left 1
      · first | ((intro W _; go_simp) <;> with_reducible rfl) | (intro W hW; have s1 := hW.1; have t0 := hW.2.cell (j := 0) rfl; have t1 := hW.2.cell (j := 1) rfl; have t2 := hW.2.cell (j := 2) rfl; have t3 := hW.2.cell (j := 3) rfl; have t4 := hW.2.cell (j := 4) rfl; (go_simp <;> with_reducible rfl))
      try simp only [Act.put, List.setIfInBounds_toArray, List.set_cons_zero, List.set_cons_succ]
      refine seqT_take (o := ⟨_, _, _, _, _, _⟩) (v := ?_) (by rw [HO.out]; rfl) (by rfl) ?_ ?_
      rotate_left 1
      · first | ((intro W _; go_simp) <;> with_reducible rfl) | (intro W hW; have s1 := hW.1; have t0 := hW.2.cell (j := 0) rfl; have t1 := hW.2.cell (j := 1) rfl; have t2 := hW.2.cell (j := 2) rfl; have t3 := hW.2.cell (j := 3) rfl; have t4 := hW.2.cell (j := 4) rfl; (go_simp <;> with_reducible rfl))
      try simp only [Act.put, List.setIfInBounds_toArray, List.set_cons_zero, List.set_cons_succ]
      refine seqT_take (o := ⟨_, _, _, _, _, _⟩) (v := ?_) (by rw [HO.out]; rfl) (by rfl) ?_ ?_
      rotate_left 1
      · first | ((intro W _; go_simp) <;> with_reducible rfl) | (intro W hW; have s1 := hW.1; have t0 := hW.2.cell (j := 0) rfl; have t1 := hW.2.cell (j := 1) rfl; have t2 := hW.2.cell (j := 2) rfl; have t3 := hW.2.cell (j := 3) rfl; have t4 := hW.2.cell (j := 4) rfl; (go_simp <;> with_reducible rfl))
      try simp only [Act.put, List.setIfInBounds_toArray, List.set_cons_zero, List.set_cons_succ]
      refine seqT_take (o := ⟨_, _, _, _, _, _⟩) (v := ?_) (by rw [HO.out]; rfl) (by rfl) ?_ ?_
      rotate_left 1
      · first | ((intro W _; go_simp) <;> with_reducible rfl) | (intro W hW; have s1 := hW.1; have t0 := hW.2.cell (j := 0) rfl; have t1 := hW.2.cell (j := 1) rfl; have t2 := hW.2.cell (j := 2) rfl; have t3 := hW.2.cell (j := 3) rfl; have t4 := hW.2.cell (j := 4) rfl; (go_simp <;> with_reducible rfl))
      try simp only [Act.put, List.setIfInBounds_toArray, List.set_cons_zero, List.set_cons_succ]
      refine seqT_take (o := ⟨_, _, _, _, _, _⟩) (v := ?_) (by rw [HO.out]; rfl) (by rfl) ?_ ?_
      rotate_left 1
      · first | ((intro W _; go_simp) <;> with_reducible rfl) | (intro W hW; have s1 := hW.1; have t0 := hW.2.cell (j := 0) rfl; have t1 := hW.2.cell (j := 1) rfl; have t2 := hW.2.cell (j := 2) rfl; have t3 := hW.2.cell (j := 3) rfl; have t4 := hW.2.cell (j := 4) rfl; (go_simp <;> with_reducible rfl))
      try simp only [Act.put, List.setIfInBounds_toArray, List.set_cons_zero, List.set_cons_succ]
      refine seqT_do (o := ⟨_, _, _, _, _, _⟩) (by rw [HO.out]; rfl) (by rfl) (fun K hK => ?_)
      go_wp2_with fail
      refine hK.out _ _ (fun _ => ⟨c0a _, HBa.out _⟩) ?_
      clear hK K
      try simp only [Act.put, List.setIfInBounds_toArray, List.set_cons_zero, List.set_cons_succ]
      refine seqT_do (o := ⟨_, _, _, _, _, _⟩) (by rw [HO.out]; rfl) (by rfl) (fun K hK => ?_)
      refine wp_appSt hz9 HX9.out.2.1 (by omega) ⟨3, out1, ⟨#[]⟩, 0, 0⟩ (.tmp 188) (.tmp 190) rfl rfl rfl ?_
      intro g cap' w' hown' hg
      obtain ⟨q1, q2, q3⟩ := planAt_step hzp hz9 HX9.out.1 HX9.out.2.1 HX9.out.2.2 hown' hg
      have d1 := q1.cell (j := 0) rfl
      have df := Lib.frozen_of_heap q1 0
      have d2 := Lib.hid (HGr.out _ _ hg)
      have HQF := Lib.hid (And.intro q2 q3)
      clear q1 q2 q3 hown' hg
      refine hK.out _ _ (fun _ => ⟨d1, d2.out⟩) ?_
      clear hK K
      try simp only [Act.put, List.setIfInBounds_toArray, List.set_cons_zero, List.set_cons_succ]
      refine seqT_take (o := ⟨_, _, _, _, _, _⟩) (v := ?_) (by rw [HO.out]; rfl) (by rfl) ?_ ?_
      rotate_left 1
      · first | ((intro W _; go_simp) <;> with_reducible rfl) | (intro W hW; have s1 := hW.1; have t0 := hW.2.cell (j := 0) rfl; have t1 := hW.2.cell (j := 1) rfl; have t2 := hW.2.cell (j := 2) rfl; have t3 := hW.2.cell (j := 3) rfl; have t4 := hW.2.cell (j := 4) rfl; (go_simp <;> with_reducible rfl))
      try simp only [Act.put, List.setIfInBounds_toArray, List.set_cons_zero, List.set_cons_succ]
      refine seqT_take (o := ⟨_, _, _, _, _, _⟩) (v := ?_) (by rw [HO.out]; rfl) (by rfl) ?_ ?_
      rotate_left 1
      · first | ((intro W _; go_simp) <;> with_reducible rfl) | (intro W hW; have s1 := hW.1; have t0 := hW.2.cell (j := 0) rfl; have t1 := hW.2.cell (j := 1) rfl; have t2 := hW.2.cell (j := 2) rfl; have t3 := hW.2.cell (j := 3) rfl; have t4 := hW.2.cell (j := 4) rfl; (go_simp <;> with_reducible rfl))
      try simp only [Act.put, List.setIfInBounds_toArray, List.set_cons_zero, List.set_cons_succ]
      refine seqT_do (o := ⟨_, _, _, _, _, _⟩) (by rw [HO.out]; rfl) (by rfl) (fun K hK => ?_)
      go_wp2_with fail
      refine hK.out _ _ (fun h => absurd rfl h) ?_
      clear hK K
      try simp only [Act.put, List.setIfInBounds_toArray, List.set_cons_zero, List.set_cons_succ]
      refine seqT_done ?_
      generalize w'.setCell _ _ = wf at *
      clear d1 d2 df c0 c0a
      go_wp2_with fail
      go_ret
      refine ⟨_, S ++ [⟨3, out1, ⟨#[]⟩, 0, 0⟩], [], rfl, HQF.out.1, HKw.out.trans HQF.out.2, by simp; try omega, ?_⟩
      exact HFin.out
    · have HU1 : Hid (y1.data.toList = Wh.quotedL out1.data.toList) := Lib.hid (HU.out.1 rfl)
      have xw : wD.cell? ⟨g0, 2, none⟩ = some (.string y2) := (HDw.out.cell (cell_lt (w := w5) (p := ⟨g0, 2, none⟩) HXc.out.2)).trans HXc.out.2
      have HUn2 := Lib.hid (unquote_any y2 wD ((HXX.out.under HBf.out).under HDw.out) (by omega))
      go_upto_region 50 with (go_at_call 79; refine HUn2.out.mono ?_; rintro e wE ⟨out2, ok2, rfl, hbE, hos2, hn1, hn2⟩; have HU2 := Lib.hid (And.intro hn1 hn2); have df := Lib.frozen_of_heap (BoxIs.under HD1.out hbE) 2; have dc := (BoxIs.under HD1.out hbE).cell (j := 2) rfl; have HE := Lib.hid hbE; clear hbE hn1 hn2)
      clear xw df dc
      have HG : Hid (BoxIs (wE.setCell ⟨b1, 2, none⟩ (.string out2)) b1 #[.int .i64 3, .string out1, .string out2, .int .i64 0, .int .i64 0] stepTy ∧ Below w5.heap.size w5 (wE.setCell ⟨b1, 2, none⟩ (.string out2))) := Lib.hid ⟨BoxIs.setAt (BoxIs.under HD1.out HE.out) 2 _, Below.setCell (bTrans HDw.out HE.out) hb1le _⟩
      clear HD1 HDw HD
      generalize wE.setCell _ _ = wG at *
      have HD1 := Lib.hid HG.out.1
      have HDw := Lib.hid HG.out.2
      cases ok2
      · have HFin : Hid (LineStep S [] line.data.toList false (S ++ [⟨3, out1, out2, 0, 0⟩]) []) := Lib.hid (LineStep.bad (fun t ht => by
            have h1 := Wh.behind_to (by rfl) (by rfl) (by rfl) (HBk.out t ht)
            rw [← HY.out.2] at h1
            simp at h1
            have h2 := HU2.out.2 t.to h1.2
            cases h2) HNr.out)
        go_upto_region 50 with fail
        have HX9 : Hid (PlanX w0.heap.size wG.drew p S [] sm by' sa sc ra rc) := Lib.hid (HX0.out.under (drB0 (bTrans H25.out HDw.out)))
        have hz9 : w0.heap.size ≤ wG.drew.heap.size := by
          have := HDw.out.size
          show w0.heap.size ≤ wG.heap.size
          omega
        have c0 := HX9.out.1.cell (j := 0) rfl
        have c0a := fun ob => (BoxIs.under HX9.out.1 (bAlloc (Below.refl _ _) ob)).cell (j := 0) rfl
        have HBx9 : Hid (BoxIs wG.drew b1 #[.int .i64 3, .string out1, .string out2, .int .i64 0, .int .i64 0] stepTy) := HD1
        have HBa : Hid (∀ ob, BoxIs (wG.drew.alloc ob) b1 #[.int .i64 3, .string out1, .string out2, .int .i64 0, .int .i64 0] stepTy) := Lib.hid (fun ob => BoxIs.under HBx9.out (bAlloc (Below.refl _ _) ob))
        have HGr : Hid (∀ ob w', (wG.drew.alloc ob).grownBy w' (Value.slice sa S.length sc).ownBlock → BoxIs w' b1 #[.int .i64 3, .string out1, .string out2, .int .i64 0, .int .i64 0] stepTy) := Lib.hid (fun ob w' hg => (hg.block b1 (HBa.out ob).lt (fun e => by
          obtain ⟨_, cc, hc⟩ := HX0.out.2.1.base b1 e.symm
          have h1 := (Array.getElem?_eq_some_iff.1 hc).1
          have h2 := HBe.out
          omega)).trans (HBa.out ob))
        have HKw : Hid (PKept w0.heap.size p w wG.drew) := Lib.hid (PKept.of (drB0 (bTrans HBf.out HDw.out)) hzz)
        refine wp_region_seqU (fun W => W.cell? ⟨p, 0, none⟩ = some (.slice sa S.length sc) ∧ BoxIs W b1 #[.int .i64 3, .string out1, .string out2, .int .i64 0, .int .i64 0] stepTy) 10 [(0, true), (1, true), (2, true), (3, true), (4, true), (5, true), (6, false), (7, false), (8, true), (9, true), (10, false)] (by as_aux_lemma => kernel_rfl) (by as_aux_lemma => kernel_rfl) (by as_aux_lemma => kernel_rfl) (by decide) (by as_aux_lemma => kernel_rfl) (by decide) ⟨c0, HBx9.out⟩ ?_
        intro OPS HO
        refine seqT_take (o := ⟨_, _, _, _, _, _⟩) (v := ?_) (by rw [HO.out]; rfl) (by rfl) ?_ ?_
        rotate_left 1
        · first | ((intro W _; go_simp) <;> with_reducible rfl) | (intro W hW; have s1 := hW.1; have t0 := hW.2.cell (j := 0) rfl; have t1 := hW.2.cell (j := 1) rfl; have t2 := hW.2.cell (j := 2) rfl; have t3 := hW.2.cell (j := 3) rfl; have t4 := hW.2.cell (j := 4) rfl; (go_simp <;> with_reducible rfl))
        try simp only [Act.put, List.setIfInBounds_toArray, List.set_cons_zero, List.set_cons_succ]
        refine seqT_take (o := ⟨_, _, _, _, _, _⟩) (v := ?_) (by rw [HO.out]; rfl) (by rfl) ?_ ?_
        rotate_left 1
        · first | ((intro W _; go_simp) <;> with_reducible rfl) | (intro W hW; have s1 := hW.1; have t0 := hW.2.cell (j := 0) rfl; have t1 := hW.2.cell (j := 1) rfl; have t2 := hW.2.cell (j := 2) rfl; have t3 := hW.2.cell (j := 3) rfl; have t4 := hW.2.cell (j := 4) rfl; (go_simp <;> with_reducible rfl))
        try simp only [Act.put, List.setIfInBounds_toArray, List.set_cons_zero, List.set_cons_succ]
        refine seqT_take (o := ⟨_, _, _, _, _, _⟩) (v := ?_) (by rw [HO.out]; rfl) (by rfl) ?_ ?_
        rotate_left 1
        · first | ((intro W _; go_simp) <;> with_reducible rfl) | (intro W hW; have s1 := hW.1; have t0 := hW.2.cell (j := 0) rfl; have t1 := hW.2.cell (j := 1) rfl; have t2 := hW.2.cell (j := 2) rfl; have t3 := hW.2.cell (j := 3) rfl; have t4 := hW.2.cell (j := 4) rfl; (go_simp <;> with_reducible rfl))
        try simp only [Act.put, List.setIfInBounds_toArray, List.set_cons_zero, List.set_cons_succ]
        refine seqT_take (o := ⟨_, _, _, _, _, _⟩) (v := ?_) (by rw [HO.out]; rfl) (by rfl) ?_ ?_
        rotate_left 1
        · first | ((intro W _; go_simp) <;> with_reducible rfl) | (intro W hW; have s1 := hW.1; have t0 := hW.2.cell (j := 0) rfl; have t1 := hW.2.cell (j := 1) rfl; have t2 := hW.2.cell (j := 2) rfl; have t3 := hW.2.cell (j := 3) rfl; have t4 := hW.2.cell (j := 4) rfl; (go_simp <;> with_reducible rfl))
        try simp only [Act.put, List.setIfInBounds_toArray, List.set_cons_zero, List.set_cons_succ]
        refine seqT_take (o := ⟨_, _, _, _, _, _⟩) (v := ?_) (by rw [HO.out]; rfl) (by rfl) ?_ ?_
        rotate_left 1
        · first | ((intro W _; go_simp) <;> with_reducible rfl) | (intro W hW; have s1 := hW.1; have t0 := hW.2.cell (j := 0) rfl; have t1 := hW.2.cell (j := 1) rfl; have t2 := hW.2.cell (j := 2) rfl; have t3 := hW.2.cell (j := 3) rfl; have t4 := hW.2.cell (j := 4) rfl; (go_simp <;> with_reducible rfl))
        try simp only [Act.put, List.setIfInBounds_toArray, List.set_cons_zero, List.set_cons_succ]
        refine seqT_take (o := ⟨_, _, _, _, _, _⟩) (v := ?_) (by rw [HO.out]; rfl) (by rfl) ?_ ?_
        rotate_left 1
        · first | ((intro W _; go_simp) <;> with_reducible rfl) | (intro W hW; have s1 := hW.1; have t0 := hW.2.cell (j := 0) rfl; have t1 := hW.2.cell (j := 1) rfl; have t2 := hW.2.cell (j := 2) rfl; have t3 := hW.2.cell (j := 3) rfl; have t4 := hW.2.cell (j := 4) rfl; (go_simp <;> with_reducible rfl))
        try simp only [Act.put, List.setIfInBounds_toArray, List.set_cons_zero, List.set_cons_succ]
        refine seqT_do (o := ⟨_, _, _, _, _, _⟩) (by rw [HO.out]; rfl) (by rfl) (fun K hK => ?_)
        go_wp2_with fail
        refine hK.out _ _ (fun _ => ⟨c0a _, HBa.out _⟩) ?_
        clear hK K
        try simp only [Act.put, List.setIfInBounds_toArray, List.set_cons_zero, List.set_cons_succ]
        refine seqT_do (o := ⟨_, _, _, _, _, _⟩) (by rw [HO.out]; rfl) (by rfl) (fun K hK => ?_)
        refine wp_appSt hz9 HX9.out.2.1 (by omega) ⟨3, out1, out2, 0, 0⟩ (.tmp 188) (.tmp 190) rfl rfl rfl ?_
        intro g cap' w' hown' hg
        obtain ⟨q1, q2, q3⟩ := planAt_step hzp hz9 HX9.out.1 HX9.out.2.1 HX9.out.2.2 hown' hg
        have d1 := q1.cell (j := 0) rfl
        have df := Lib.frozen_of_heap q1 0
        have d2 := Lib.hid (HGr.out _ _ hg)
        have HQF := Lib.hid (And.intro q2 q3)
        clear q1 q2 q3 hown' hg
        refine hK.out _ _ (fun _ => ⟨d1, d2.out⟩) ?_
        clear hK K
        try simp only [Act.put, List.setIfInBounds_toArray, List.set_cons_zero, List.set_cons_succ]
        refine seqT_take (o := ⟨_, _, _, _, _, _⟩) (v := ?_) (by rw [HO.out]; rfl) (by rfl) ?_ ?_
        rotate_left 1
        · first | ((intro W _; go_simp) <;> with_reducible rfl) | (intro W hW; have s1 := hW.1; have t0 := hW.2.cell (j := 0) rfl; have t1 := hW.2.cell (j := 1) rfl; have t2 := hW.2.cell (j := 2) rfl; have t3 := hW.2.cell (j := 3) rfl; have t4 := hW.2.cell (j := 4) rfl; (go_simp <;> with_reducible rfl))
        try simp only [Act.put, List.setIfInBounds_toArray, List.set_cons_zero, List.set_cons_succ]
        refine seqT_take (o := ⟨_, _, _, _, _, _⟩) (v := ?_) (by rw [HO.out]; rfl) (by rfl) ?_ ?_
        rotate_left 1
        · first | ((intro W _; go_simp) <;> with_reducible rfl) | (intro W hW; have s1 := hW.1; have t0 := hW.2.cell (j := 0) rfl; have t1 := hW.2.cell (j := 1) rfl; have t2 := hW.2.cell (j := 2) rfl; have t3 := hW.2.cell (j := 3) rfl; have t4 := hW.2.cell (j := 4) rfl; (go_simp <;> with_reducible rfl))
        try simp only [Act.put, List.setIfInBounds_toArray, List.set_cons_zero, List.set_cons_succ]
        refine seqT_do (o := ⟨_, _, _, _, _, _⟩) (by rw [HO.out]; rfl) (by rfl) (fun K hK => ?_)
        go_wp2_with fail
        refine hK.out _ _ (fun h => absurd rfl h) ?_
        clear hK K
        try simp only [Act.put, List.setIfInBounds_toArray, List.set_cons_zero, List.set_cons_succ]
        refine seqT_done ?_
        generalize w'.setCell _ _ = wf at *
        clear d1 d2 df c0 c0a
        go_wp2_with fail
        go_ret
        refine ⟨_, S ++ [⟨3, out1, out2, 0, 0⟩], [], rfl, HQF.out.1, HKw.out.trans HQF.out.2, by simp; try omega, ?_⟩
        exact HFin.out
      · have HFin : Hid (LineStep S [] line.data.toList true (S ++ [⟨3, out1, out2, 0, 0⟩]) []) := Lib.hid ⟨fun _ => .inl ⟨⟨3, out1, out2, 0, 0⟩, HOf.out _ (Wh.to_behind (by rfl) (by rfl) (by rfl) (by decide) (by decide) (by rw [← HY.out.2]; simp [HU1.out, HU2.out.1 rfl])), rfl, rfl, rfl⟩, fun h => (by cases h)⟩
        go_upto_region 50 with fail
        have HX9 : Hid (PlanX w0.heap.size wG.drew p S [] sm by' sa sc ra rc) := Lib.hid (HX0.out.under (drB0 (bTrans H25.out HDw.out)))
        have hz9 : w0.heap.size ≤ wG.drew.heap.size := by
          have := HDw.out.size
          show w0.heap.size ≤ wG.heap.size
          omega
        have c0 := HX9.out.1.cell (j := 0) rfl
        have c0a := fun ob => (BoxIs.under HX9.out.1 (bAlloc (Below.refl _ _) ob)).cell (j := 0) rfl
        have HBx9 : Hid (BoxIs wG.drew b1 #[.int .i64 3, .string out1, .string out2, .int .i64 0, .int .i64 0] stepTy) := HD1
        have HBa : Hid (∀ ob, BoxIs (wG.drew.alloc ob) b1 #[.int .i64 3, .string out1, .string out2, .int .i64 0, .int .i64 0] stepTy) := Lib.hid (fun ob => BoxIs.under HBx9.out (bAlloc (Below.refl _ _) ob))
        have HGr : Hid (∀ ob w', (wG.drew.alloc ob).grownBy w' (Value.slice sa S.length sc).ownBlock → BoxIs w' b1 #[.int .i64 3, .string out1, .string out2, .int .i64 0, .int .i64 0] stepTy) := Lib.hid (fun ob w' hg => (hg.block b1 (HBa.out ob).lt (fun e => by
          obtain ⟨_, cc, hc⟩ := HX0.out.2.1.base b1 e.symm
          have h1 := (Array.getElem?_eq_some_iff.1 hc).1
          have h2 := HBe.out
          omega)).trans (HBa.out ob))
        have HKw : Hid (PKept w0.heap.size p w wG.drew) := Lib.hid (PKept.of (drB0 (bTrans HBf.out HDw.out)) hzz)
        refine wp_region_seqU (fun W => W.cell? ⟨p, 0, none⟩ = some (.slice sa S.length sc) ∧ BoxIs W b1 #[.int .i64 3, .string out1, .string out2, .int .i64 0, .int .i64 0] stepTy) 10 [(0, true), (1, true), (2, true), (3, true), (4, true), (5, true), (6, false), (7, false), (8, true), (9, true), (10, false)] (by as_aux_lemma => kernel_rfl) (by as_aux_lemma => kernel_rfl) (by as_aux_lemma => kernel_rfl) (by decide) (by as_aux_lemma => kernel_rfl) (by decide) ⟨c0, HBx9.out⟩ ?_
        intro OPS HO
        refine seqT_take (o := ⟨_, _, _, _, _, _⟩) (v := ?_) (by rw [HO.out]; rfl) (by rfl) ?_ ?_
        rotate_left 1
        · first | ((intro W _; go_simp) <;> with_reducible rfl) | (intro W hW; have s1 := hW.1; have t0 := hW.2.cell (j := 0) rfl; have t1 := hW.2.cell (j := 1) rfl; have t2 := hW.2.cell (j := 2) rfl; have t3 := hW.2.cell (j := 3) rfl; have t4 := hW.2.cell (j := 4) rfl; (go_simp <;> with_reducible rfl))
        try simp only [Act.put, List.setIfInBounds_toArray, List.set_cons_zero, List.set_cons_succ]
        refine seqT_take (o := ⟨_, _, _, _, _, _⟩) (v := ?_) (by rw [HO.out]; rfl) (by rfl) ?_ ?_
        rotate_left 1
        · first | ((intro W _; go_simp) <;> with_reducible rfl) | (intro W hW; have s1 := hW.1; have t0 := hW.2.cell (j := 0) rfl; have t1 := hW.2.cell (j := 1) rfl; have t2 := hW.2.cell (j := 2) rfl; have t3 := hW.2.cell (j := 3) rfl; have t4 := hW.2.cell (j := 4) rfl; (go_simp <;> with_reducible rfl))
        try simp only [Act.put, List.setIfInBounds_toArray, List.set_cons_zero, List.set_cons_succ]
        refine seqT_take (o := ⟨_, _, _, _, _, _⟩) (v := ?_) (by rw [HO.out]; rfl) (by rfl) ?_ ?_
        rotate_left 1
        · first | ((intro W _; go_simp) <;> with_reducible rfl) | (intro W hW; have s1 := hW.1; have t0 := hW.2.cell (j := 0) rfl; have t1 := hW.2.cell (j := 1) rfl; have t2 := hW.2.cell (j := 2) rfl; have t3 := hW.2.cell (j := 3) rfl; have t4 := hW.2.cell (j := 4) rfl; (go_simp <;> with_reducible rfl))
        try simp only [Act.put, List.setIfInBounds_toArray, List.set_cons_zero, List.set_cons_succ]
        refine seqT_take (o := ⟨_, _, _, _, _, _⟩) (v := ?_) (by rw [HO.out]; rfl) (by rfl) ?_ ?_
        rotate_left 1
        · first | ((intro W _; go_simp) <;> with_reducible rfl) | (intro W hW; have s1 := hW.1; have t0 := hW.2.cell (j := 0) rfl; have t1 := hW.2.cell (j := 1) rfl; have t2 := hW.2.cell (j := 2) rfl; have t3 := hW.2.cell (j := 3) rfl; have t4 := hW.2.cell (j := 4) rfl; (go_simp <;> with_reducible rfl))
        try simp only [Act.put, List.setIfInBounds_toArray, List.set_cons_zero, List.set_cons_succ]
        refine seqT_take (o := ⟨_, _, _, _, _, _⟩) (v := ?_) (by rw [HO.out]; rfl) (by rfl) ?_ ?_
        rotate_left 1
        · first | ((intro W _; go_simp) <;> with_reducible rfl) | (intro W hW; have s1 := hW.1; have t0 := hW.2.cell (j := 0) rfl; have t1 := hW.2.cell (j := 1) rfl; have t2 := hW.2.cell (j := 2) rfl; have t3 := hW.2.cell (j := 3) rfl; have t4 := hW.2.cell (j := 4) rfl; (go_simp <;> with_reducible rfl))
        try simp only [Act.put, List.setIfInBounds_toArray, List.set_cons_zero, List.set_cons_succ]
        refine seqT_take (o := ⟨_, _, _, _, _, _⟩) (v := ?_) (by rw [HO.out]; rfl) (by rfl) ?_ ?_
        rotate_left 1
        · first | ((intro W _; go_simp) <;> with_reducible rfl) | (intro W hW; have s1 := hW.1; have t0 := hW.2.cell (j := 0) rfl; have t1 := hW.2.cell (j := 1) rfl; have t2 := hW.2.cell (j := 2) rfl; have t3 := hW.2.cell (j := 3) rfl; have t4 := hW.2.cell (j := 4) rfl; (go_simp <;> with_reducible rfl))
        try simp only [Act.put, List.setIfInBounds_toArray, List.set_cons_zero, List.set_cons_succ]
        refine seqT_do (o := ⟨_, _, _, _, _, _⟩) (by rw [HO.out]; rfl) (by rfl) (fun K hK => ?_)
        go_wp2_with fail
        refine hK.out _ _ (fun _ => ⟨c0a _, HBa.out _⟩) ?_
        clear hK K
        try simp only [Act.put, List.setIfInBounds_toArray, List.set_cons_zero, List.set_cons_succ]
        refine seqT_do (o := ⟨_, _, _, _, _, _⟩) (by rw [HO.out]; rfl) (by rfl) (fun K hK => ?_)
        refine wp_appSt hz9 HX9.out.2.1 (by omega) ⟨3, out1, out2, 0, 0⟩ (.tmp 188) (.tmp 190) rfl rfl rfl ?_
        intro g cap' w' hown' hg
        obtain ⟨q1, q2, q3⟩ := planAt_step hzp hz9 HX9.out.1 HX9.out.2.1 HX9.out.2.2 hown' hg
        have d1 := q1.cell (j := 0) rfl
        have df := Lib.frozen_of_heap q1 0
        have d2 := Lib.hid (HGr.out _ _ hg)
        have HQF := Lib.hid (And.intro q2 q3)
        clear q1 q2 q3 hown' hg
        refine hK.out _ _ (fun _ => ⟨d1, d2.out⟩) ?_
        clear hK K
        try simp only [Act.put, List.setIfInBounds_toArray, List.set_cons_zero, List.set_cons_succ]
        refine seqT_take (o := ⟨_, _, _, _, _, _⟩) (v := ?_) (by rw [HO.out]; rfl) (by rfl) ?_ ?_
        rotate_left 1
        · first | ((intro W _; go_simp) <;> with_reducible rfl) | (intro W hW; have s1 := hW.1; have t0 := hW.2.cell (j := 0) rfl; have t1 := hW.2.cell (j := 1) rfl; have t2 := hW.2.cell (j := 2) rfl; have t3 := hW.2.cell (j := 3) rfl; have t4 := hW.2.cell (j := 4) rfl; (go_simp <;> with_reducible rfl))
        try simp only [Act.put, List.setIfInBounds_toArray, List.set_cons_zero, List.set_cons_succ]
        refine seqT_take (o := ⟨_, _, _, _, _, _⟩) (v := ?_) (by rw [HO.out]; rfl) (by rfl) ?_ ?_
        rotate_left 1
        · first | ((intro W _; go_simp) <;> with_reducible rfl) | (intro W hW; have s1 := hW.1; have t0 := hW.2.cell (j := 0) rfl; have t1 := hW.2.cell (j := 1) rfl; have t2 := hW.2.cell (j := 2) rfl; have t3 := hW.2.cell (j := 3) rfl; have t4 := hW.2.cell (j := 4) rfl; (go_simp <;> with_reducible rfl))
        try simp only [Act.put, List.setIfInBounds_toArray, List.set_cons_zero, List.set_cons_succ]
        refine seqT_do (o := ⟨_, _, _, _, _, _⟩) (by rw [HO.out]; rfl) (by rfl) (fun K hK => ?_)
        go_wp2_with fail
        refine hK.out _ _ (fun h => absurd rfl h) ?_
        clear hK K
        try simp only [Act.put, List.setIfInBounds_toArray, List.set_cons_zero, List.set_cons_succ]
        refine seqT_done ?_
        generalize w'.setCell _ _ = wf at *
        clear d1 d2 df c0 c0a
        go_wp2_with fail
        go_ret
        refine ⟨_, S ++ [⟨3, out1, out2, 0, 0⟩], [], rfl, HQF.out.1, HKw.out.trans HQF.out.2, by simp; try omega, ?_⟩
        exact HFin.out

set_option maxHeartbeats 8000000 in
set_option maxRecDepth 100000 in
theorem planLine_kx (k : Nat) (hk1 : 1 ≤ k) (hk10 : k ≤ 10) (hk2 : (k == 2 || k == 3) = false) (hk4 : (k == 4 || k == 5) = false) (hk6 : (k == 6) = false)  (w0 : World) (p : Nat) (S : List PStep) (R : List PRef) (sm by' : Int) (line : ByteArray) (w : World) (hX : EnvX w0) (hT : EnvT w0) (hB : Below w0.heap.size w0 w) (hP : PlanAt w0.heap.size w p S R sm by') (hl : line.size ≤ 2000000) (hn : S.length + R.length ≤ 1500000) (L : List (List UInt8)) (hw : ∀ x ∈ L, Wh.isW x) (hne : L ≠ []) (hlw : line.data.toList = Wh.lineW L) (r : List (List UInt8)) (hr : L = Wh.stepW.getD k [] :: r) (hR : R = []) : Calls Tryz.prog 27 #[.pointer (some ⟨p, 0, none⟩), .string line, .bool false] w (LinePost w0.heap.size p S R sm by' line.data.toList w) := by
  have HPW := Lib.hid (pWords_any line w hl)
  have HL := Lib.hid (And.intro hw (And.intro hne hlw))
  have HR := Lib.hid hr
  have HP0 := Lib.hid hP
  have hzz := hB.size
  have hzp := hP.1
  have hpl : p < w.heap.size := by
    obtain ⟨_, sa, sc, ra, rc, h1, _⟩ := hP
    exact h1.lt
  have HXX := Lib.hid (hX.under hB)
  have HTT := Lib.hid (hT.under hB)
  subst hR
  have HKb := Lib.hid (And.intro hk2 (And.intro hk4 hk6))
  have ki1 : ¬ (k : Int) < 1 := by omega
  have ki2 : ((k : Int) == 2) = false := by
    rw [Bool.or_eq_false_iff] at hk2
    have := hk2.1
    simp at this ⊢
    omega
  have ki3 : ((k : Int) == 3) = false := by
    rw [Bool.or_eq_false_iff] at hk2
    have := hk2.2
    simp at this ⊢
    omega
  have ki4 : ((k : Int) == 4) = false := by
    rw [Bool.or_eq_false_iff] at hk4
    have := hk4.1
    simp at this ⊢
    omega
  have ki5 : ((k : Int) == 5) = false := by
    rw [Bool.or_eq_false_iff] at hk4
    have := hk4.2
    simp at this ⊢
    omega
  have ki6 : ((k : Int) == 6) = false := by
    simp at hk6 ⊢
    omega
  clear hk2 hk4 hk6
  clear hw hne hlw hr hP hB hX hT
  go_enter Tryz.func27, Tryz.ntmps27
  go_upto_region 2 with (go_at_call 77; refine HPW.out.mono ?_; rintro e w2 hpw; rcases hpw with ⟨rfl, hb1, hno⟩ | ⟨ws, a, cap, rfl, hO, hne1, hws, hlw1⟩)
  · exact absurd ⟨L, HL.out.2.1, HL.out.1, HL.out.2.2⟩ hno
  obtain ⟨g0, rfl, hg0, hg1, hcells⟩ := ownS_at hO hne1
  have HM : Hid (ws.map (·.data.toList) = L) := Lib.hid (Wh.lineW_inj hws HL.out.1 (hlw1.symm.trans HL.out.2.2))
  have HB2 := Lib.hid hO.below
  have HCl := Lib.hid hcells
  clear hO hws hlw1 hcells hne1
  obtain ⟨y0, ys, rfl⟩ : ∃ y0 ys, ws = y0 :: ys := by
    cases ws with
    | nil => exact absurd HM.out.symm HL.out.2.1
    | cons y0 ys => exact ⟨y0, ys, rfl⟩
  have x0 := HCl.out 0 y0 rfl
  have hl0 : 0 < (y0 :: ys).length := by simp
  have HY : Hid (y0.data.toList = Wh.stepW.getD k [] ∧ ys.map (·.data.toList) = r) := Lib.hid (by
    have := HM.out.trans HR.out
    injection this with h1 h2
    exact ⟨h1, h2⟩)
  have HBk : Hid (∀ t, Wh.StepLineL line.data.toList t → Wh.Behind k r t) := Lib.hid (fun t ht => Wh.behind_of hk10 (HR.out ▸ HL.out.1) (HR.out ▸ HL.out.2.2) ht)
  have HOf : Hid (∀ t, Wh.Behind k r t → Wh.StepLineL line.data.toList t) := Lib.hid (fun t ht => Wh.of_behind (HR.out ▸ HL.out.2.2) ht)
  have HNr : Hid (∀ u q, ¬ Wh.RefLineL line.data.toList u q) := Lib.hid (Wh.other_ref (Wh.stepW_ref _ hk10) (HR.out ▸ HL.out.1) (HR.out ▸ HL.out.2.2))
  have HSz : Hid (∀ y ∈ ys, y.size ≤ line.size) := Lib.hid (fun y hy => by
    have h1 := mem_lineW (List.mem_map_of_mem (f := (·.data.toList)) (List.mem_cons_of_mem y0 hy))
    rw [HM.out, ← HL.out.2.2] at h1
    rw [Lib.size_eq, Lib.size_eq]
    exact h1)
  have hq : (y0.toList == [114, 101, 102, 117, 115, 101, 100]) = false := by
    rw [Lib.toList_data, HY.out.1]
    exact beq_eq_false_iff_ne.2 (Wh.stepW_ref _ hk10)
  obtain ⟨_, sa, sc, ra, rc, hx⟩ := HP0.out.under HB2.out
  have HX0 : Hid (PlanX w0.heap.size w2 p S [] sm by' sa sc ra rc) := Lib.hid hx
  have c1 := hx.1.cell (j := 1) rfl
  clear hx
  have HSn := Lib.hid (fun W => stepNames_any W)
  have HIx : Hid (Lib.idxOfS (stepZs.take 11) y0 = ((k : Nat) : Int)) := Lib.hid (by
    rcases idx_step y0 with ⟨j, k1, k2, k3⟩ | ⟨h, _⟩
    · rw [HY.out.1] at k2
      rw [k3, Wh.stepW_inj _ (Nat.lt_succ_of_le hk10) _ (Nat.lt_succ_of_le k1) k2]
    · exact absurd HY.out.1 (h _ hk10))
  have HF5 : Hid (∀ w5, w5 = w2.drew.alloc (.cells (stepZs.map Value.string).toArray 9) → Below w.heap.size w w5 ∧ BoxIs w5 w2.heap.size (stepZs.map Value.string).toArray 9 ∧ w5.cell? ⟨g0, 0, none⟩ = some (.string y0)) := Lib.hid (by
    rintro _ rfl
    exact ⟨bAlloc (drB0 HB2.out) _, BoxIs.new w2.drew _ _, ((bAlloc (drB0 (Below.refl w2.heap.size w2)) _).cell (cell_lt x0)).trans x0⟩)
  have HCl2 : Hid (∀ w5, w5 = w2.drew.alloc (.cells (stepZs.map Value.string).toArray 9) → Below w2.heap.size w2 w5) := Lib.hid (by
    rintro _ rfl
    exact bAlloc (drB0 (Below.refl w2.heap.size w2)) _)
  obtain ⟨nl, hnl⟩ : ∃ nl, (y0 :: ys).length = nl := ⟨_, rfl⟩
  have HNl := Lib.hid hnl
  rw [hnl] at hl0
  simp only [hnl]
  clear hnl
  have hl0' : (0 : Int) < (nl : Int) := by omega
  go_upto_region 20 with fail
  clear c1
  refine wp_region_seq (fun W => W.cell? ⟨g0, 0, none⟩ = some (.string y0)) [(1, true), (2, true), (3, true), (0, false), (4, false), (5, true)] (by as_aux_lemma => kernel_rfl) (by as_aux_lemma => kernel_rfl) (by decide) (by as_aux_lemma => kernel_rfl) x0 ?_
  intro OPS HO
  refine seq_take (o := ⟨_, _, _, _, _, _⟩) (v := ?_) (by rw [HO.out]; rfl) (by rfl) ?_ ?_
  rotate_left 1
  · first | ((intro W _; go_simp) <;> with_reducible rfl) | (intro W hW; have s1 := hW; (go_simp <;> with_reducible rfl))
  try simp only [Act.put, List.setIfInBounds_toArray, List.set_cons_zero, List.set_cons_succ]
  refine seq_take (o := ⟨_, _, _, _, _, _⟩) (v := ?_) (by rw [HO.out]; rfl) (by rfl) ?_ ?_
  rotate_left 1
  · first | ((intro W _; go_simp) <;> with_reducible rfl) | (intro W hW; have s1 := hW; (go_simp <;> with_reducible rfl))
  try simp only [Act.put, List.setIfInBounds_toArray, List.set_cons_zero, List.set_cons_succ]
  refine seq_take (o := ⟨_, _, _, _, _, _⟩) (v := ?_) (by rw [HO.out]; rfl) (by rfl) ?_ ?_
  rotate_left 1
  · first | ((intro W _; go_simp) <;> with_reducible rfl) | (intro W hW; have s1 := hW; (go_simp <;> with_reducible rfl))
  try simp only [Act.put, List.setIfInBounds_toArray, List.set_cons_zero, List.set_cons_succ]
  refine seq_do (o := ⟨_, _, _, _, _, _⟩) (by rw [HO.out]; rfl) (by rfl) (fun K hK => ?_)
  go_wp2_with (go_at_call 81; (with_reducible refine (HSn.out _).mono ?_); rintro e w5 ⟨rfl, hw5⟩; obtain ⟨hb5, hx5, hS⟩ := HF5.out _ hw5; have H25 := Lib.hid (HCl2.out _ hw5); have HBf := Lib.hid hb5; have HBx := Lib.hid hx5; clear hw5 hb5 hx5)
  have HSi := Lib.hid (sliceIndex_any w5 w2.heap.size y0 HBx.out)
  rw [HIx.out] at HSi
  refine hK.out _ _ hS (fun _ => ?_)
  clear hK K
  try simp only [Act.put, List.setIfInBounds_toArray, List.set_cons_zero, List.set_cons_succ]
  refine seq_do (o := ⟨_, _, _, _, _, _⟩) (by rw [HO.out]; rfl) (by rfl) (fun K hK => ?_)
  go_wp2_with (go_at_call 80; (with_reducible refine HSi.out.mono ?_); rintro e w6 ⟨rfl, hw6⟩; subst w6)
  refine hK.out _ _ hS (fun _ => ?_)
  clear hK K
  try simp only [Act.put, List.setIfInBounds_toArray, List.set_cons_zero, List.set_cons_succ]
  refine seq_take (o := ⟨_, _, _, _, _, _⟩) (v := ?_) (by rw [HO.out]; rfl) (by rfl) ?_ ?_
  rotate_left 1
  · first | ((intro W _; go_simp) <;> with_reducible rfl) | (intro W hW; have s1 := hW; (go_simp <;> with_reducible rfl))
  try simp only [Act.put, List.setIfInBounds_toArray, List.set_cons_zero, List.set_cons_succ]
  refine seq_done ?_
  have hlen : nl = 2 ∨ nl ≠ 2 := by omega
  rcases hlen with hlen | hlen
  rotate_left 1
  · have hlen' : ¬ (nl : Int) = 2 := by omega
    have HFin : Hid (LineStep S [] line.data.toList false S []) := Lib.hid (LineStep.bad (fun t ht => by
      have h1 := Wh.behind_none HKb.out.1 HKb.out.2.1 HKb.out.2.2 (HBk.out t ht)
      rw [← HY.out.2] at h1
      have h2 := congrArg List.length h1
      have h3 := HNl.out
      simp at h2 h3
      omega) HNr.out)
    go_wp2_with fail
    go_ret
    exact ⟨false, S, [], rfl, HP0.out.under (bAlloc HBf.out _), PKept.of (bAlloc HBf.out _) hzz, by omega, HFin.out⟩
  obtain ⟨y1, rfl⟩ : ∃ y1, ys = [y1] := by
    have h3 := HNl.out
    rw [hlen] at h3
    match ys, h3 with
    | [y1], _ => exact ⟨y1, rfl⟩
  subst hlen
  have hb15 := HBf.out.size
  have hz5 : w2.heap.size ≤ w5.heap.size := H25.out.size
  have x1 : w5.cell? ⟨g0, 1, none⟩ = some (.string y1) := by
    have := HCl.out 1 y1 rfl
    exact (H25.out.cell (cell_lt this)).trans this
  have hsz1 := HSz.out y1 (by simp)
  have HXc : Hid (w5.cell? ⟨g0, 1, none⟩ = some (.string y1)) := Lib.hid x1
  clear hS x0
  have hg5 : g0 < w5.heap.size := by omega
  have HNa := Lib.hid (BoxIs.new w5 #[.int .i64 (k : Int), .string ⟨#[]⟩, .string ⟨#[]⟩, .int .i64 0, .int .i64 0] stepTy)
  have HNb := Lib.hid (bAlloc (Below.refl w5.heap.size w5) (.cells #[.int .i64 (k : Int), .string ⟨#[]⟩, .string ⟨#[]⟩, .int .i64 0, .int .i64 0] stepTy))
  have HBe0 : w5.heap.size = w5.heap.size := rfl
  go_upto_region 24 with fail
  generalize w5.alloc _ = w6 at *
  obtain ⟨b1, hb1⟩ : ∃ b, b = w5.heap.size := ⟨_, rfl⟩
  rw [← hb1]
  rw [← hb1] at HNa
  have HBe : Hid (w2.heap.size ≤ b1) := Lib.hid (by omega)
  have hgb : g0 < b1 := by omega
  have hb1le : w5.heap.size ≤ b1 := by omega
  clear hb1 HBe0 hz5
  have HNc := Lib.hid (BoxIs.new w6 #[.int .i64 0, .int .i64 0] arrTy)
  have HNd := Lib.hid (bAlloc (Below.refl w6.heap.size w6) (.cells #[.int .i64 0, .int .i64 0] arrTy))
  go_upto_region 37 with fail
  generalize w6.alloc _ = w7 at *
  obtain ⟨b2, hb2⟩ : ∃ b, b = w6.heap.size := ⟨_, rfl⟩
  rw [← hb2]
  rw [← hb2] at HNc
  have hne : b2 ≠ b1 := by
    have := HNa.out.lt
    omega
  have hb2le : w5.heap.size ≤ b2 := by
    have := HNa.out.lt
    omega
  clear hb2
  have HN7 : Hid (BoxIs w7 b1 #[.int .i64 (k : Int), .string ⟨#[]⟩, .string ⟨#[]⟩, .int .i64 0, .int .i64 0] stepTy ∧ Below w5.heap.size w5 w7) := Lib.hid ⟨BoxIs.under HNa.out HNd.out, bTrans HNb.out HNd.out⟩
  clear HNa HNb HNd
  go_wp2_with fail
  go_loopg [131] 0 (fun g s131 wx => ∃ (i : Nat) (v0 v1 : Int), i + g = 0 ∧ s131 = .int .i64 i ∧ Hid (BoxIs wx b2 #[.int .i64 v0, .int .i64 v1] arrTy) ∧ Hid (BoxIs wx b1 #[.int .i64 (k : Int), .string ⟨#[]⟩, .string ⟨#[]⟩, .int .i64 0, .int .i64 0] stepTy) ∧ Hid (Below w5.heap.size w5 wx) ∧ Hid (NumsL y1.data.toList y1.data.toList i v0 v1))
  case atStart => exact ⟨0, 0, 0, by omega, by go_num, HNc, Lib.hid HN7.out.1, Lib.hid HN7.out.2, Lib.hid ⟨fun h => by omega, fun h => by omega, fun _ => rfl, fun _ => rfl⟩⟩
  case round =>
    obtain ⟨i, v0, v1, hi, rfl, HLb, HL1, HLw, HLn⟩ := hrel
    obtain rfl : i = 0 := by omega
    obtain rfl : v0 = 0 := HLn.out.2.2.1 rfl
    have e0 := HLb.out.cell (j := 0) rfl
    have df := Lib.frozen_of_heap HL1.out 4
    have dc := HL1.out.cell (j := 4) rfl
    go_upto_region 45 with fail
    have HA : Hid (BoxIs (wr.setCell ⟨b1, 4, none⟩ (.int .i64 0)) b1 #[.int .i64 (k : Int), .string ⟨#[]⟩, .string ⟨#[]⟩, .int .i64 0, .int .i64 0] stepTy ∧ BoxIs (wr.setCell ⟨b1, 4, none⟩ (.int .i64 0)) b2 #[.int .i64 0, .int .i64 v1] arrTy ∧ Below w5.heap.size w5 (wr.setCell ⟨b1, 4, none⟩ (.int .i64 0))) := Lib.hid ⟨BoxIs.setAt HL1.out 4 _, BoxIs.other HLb.out hne _ _, Below.setCell HLw.out hb1le _⟩
    clear e0 df dc
    generalize wr.setCell _ _ = wA at *
    have HA1 := Lib.hid HA.out.1
    have HAw := Lib.hid HA.out.2.2
    obtain ⟨wB, hwB⟩ : ∃ W, wA = W := ⟨_, rfl⟩
    subst hwB
    have HB1 := HA1
    have HBw := HAw
    have xw : wA.cell? ⟨g0, 1, none⟩ = some (.string y1) := (HBw.out.cell (cell_lt (w := w5) (p := ⟨g0, 1, none⟩) HXc.out)).trans HXc.out
    have HUn := Lib.hid (unquote_any y1 wA ((HXX.out.under HBf.out).under HBw.out) (by omega))
    go_upto_region 48 with (go_at_call 79; refine HUn.out.mono ?_; rintro e wC ⟨out1, ok1, rfl, hbC, hos, hn1, hn2⟩; have HU := Lib.hid (And.intro hn1 hn2); have df := Lib.frozen_of_heap (BoxIs.under HB1.out hbC) 1; have dc := (BoxIs.under HB1.out hbC).cell (j := 1) rfl; have HC := Lib.hid hbC; clear hbC hn1 hn2)
    clear xw df dc
    have HD : Hid (BoxIs (wC.setCell ⟨b1, 1, none⟩ (.string out1)) b1 #[.int .i64 (k : Int), .string out1, .string ⟨#[]⟩, .int .i64 0, .int .i64 0] stepTy ∧ Below w5.heap.size w5 (wC.setCell ⟨b1, 1, none⟩ (.string out1))) := Lib.hid ⟨BoxIs.setAt (BoxIs.under HB1.out HC.out) 1 _, Below.setCell (bTrans HBw.out HC.out) hb1le _⟩
    generalize wC.setCell _ _ = wD at *
    have HD1 := Lib.hid HD.out.1
    have HDw := Lib.hid HD.out.2
    cases ok1
    · have HFin : Hid (LineStep S [] line.data.toList false (S ++ [⟨k, out1, ⟨#[]⟩, 0, 0⟩]) []) := Lib.hid (LineStep.bad (fun t ht => by
          have h1 := Wh.behind_none HKb.out.1 HKb.out.2.1 HKb.out.2.2 (HBk.out t ht)
          rw [← HY.out.2] at h1
          simp at h1
          have h2 := HU.out.2 t.path h1
          cases h2) HNr.out)
      go_upto_region 50 with fail
      have HX9 : Hid (PlanX w0.heap.size wD.drew p S [] sm by' sa sc ra rc) := Lib.hid (HX0.out.under (drB0 (bTrans H25.out HDw.out)))
      have hz9 : w0.heap.size ≤ wD.drew.heap.size := by
        have := HDw.out.size
        show w0.heap.size ≤ wD.heap.size
        omega
      have c0 := HX9.out.1.cell (j := 0) rfl
      have c0a := fun ob => (BoxIs.under HX9.out.1 (bAlloc (Below.refl _ _) ob)).cell (j := 0) rfl
      have HBx9 : Hid (BoxIs wD.drew b1 #[.int .i64 (k : Int), .string out1, .string ⟨#[]⟩, .int .i64 0, .int .i64 0] stepTy) := HD1
      have HBa : Hid (∀ ob, BoxIs (wD.drew.alloc ob) b1 #[.int .i64 (k : Int), .string out1, .string ⟨#[]⟩, .int .i64 0, .int .i64 0] stepTy) := Lib.hid (fun ob => BoxIs.under HBx9.out (bAlloc (Below.refl _ _) ob))
      have HGr : Hid (∀ ob w', (wD.drew.alloc ob).grownBy w' (Value.slice sa S.length sc).ownBlock → BoxIs w' b1 #[.int .i64 (k : Int), .string out1, .string ⟨#[]⟩, .int .i64 0, .int .i64 0] stepTy) := Lib.hid (fun ob w' hg => (hg.block b1 (HBa.out ob).lt (fun e => by
        obtain ⟨_, cc, hc⟩ := HX0.out.2.1.base b1 e.symm
        have h1 := (Array.getElem?_eq_some_iff.1 hc).1
        have h2 := HBe.out
        omega)).trans (HBa.out ob))
      have HKw : Hid (PKept w0.heap.size p w wD.drew) := Lib.hid (PKept.of (drB0 (bTrans HBf.out HDw.out)) hzz)
      refine wp_region_seqU (fun W => W.cell? ⟨p, 0, none⟩ = some (.slice sa S.length sc) ∧ BoxIs W b1 #[.int .i64 (k : Int), .string out1, .string ⟨#[]⟩, .int .i64 0, .int .i64 0] stepTy) 10 [(0, true), (1, true), (2, true), (3, true), (4, true), (5, true), (6, false), (7, false), (8, true), (9, true), (10, false)] (by as_aux_lemma => kernel_rfl) (by as_aux_lemma => kernel_rfl) (by as_aux_lemma => kernel_rfl) (by decide) (by as_aux_lemma => kernel_rfl) (by decide) ⟨c0, HBx9.out⟩ ?_
      intro OPS HO
      refine seqT_take (o := ⟨_, _, _, _, _, _⟩) (v := ?_) (by rw [HO.out]; rfl) (by rfl) ?_ ?_
      rotate_left 1
      · first | ((intro W _; go_simp) <;> with_reducible rfl) | (intro W hW; have s1 := hW.1; have t0 := hW.2.cell (j := 0) rfl; have t1 := hW.2.cell (j := 1) rfl; have t2 := hW.2.cell (j := 2) rfl; have t3 := hW.2.cell (j := 3) rfl; have t4 := hW.2.cell (j := 4) rfl; (go_simp <;> with_reducible rfl))
      try simp only [Act.put, List.setIfInBounds_toArray, List.set_cons_zero, List.set_cons_succ]
      refine seqT_take (o := ⟨_, _, _, _, _, _⟩) (v := ?_) (by rw [HO.out]; rfl) (by rfl) ?_ ?_
      rotate_left 1
      · first | ((intro W _; go_simp) <;> with_reducible rfl) | (intro W hW; have s1 := hW.1; have t0 := hW.2.cell (j := 0) rfl; have t1 := hW.2.cell (j := 1) rfl; have t2 := hW.2.cell (j := 2) rfl; have t3 := hW.2.cell (j := 3) rfl; have t4 := hW.2.cell (j := 4) rfl; (go_simp <;> with_reducible rfl))
      try simp only [Act.put, List.setIfInBounds_toArray, List.set_cons_zero, List.set_cons_succ]
      refine seqT_take (o := ⟨_, _, _, _, _, _⟩) (v := ?_) (by rw [HO.out]; rfl) (by rfl) ?_ ?_
      rotate_left 1
      · first | ((intro W _; go_simp) <;> with_reducible rfl) | (intro W hW; have s1 := hW.1; have t0 := hW.2.cell (j := 0) rfl; have t1 := hW.2.cell (j := 1) rfl; have t2 := hW.2.cell (j := 2) rfl; have t3 := hW.2.cell (j := 3) rfl; have t4 := hW.2.cell (j := 4) rfl; (go_simp <;> with_reducible rfl))
      try simp only [Act.put, List.setIfInBounds_toArray, List.set_cons_zero, List.set_cons_succ]
      refine seqT_take (o := ⟨_, _, _, _, _, _⟩) (v := ?_) (by rw [HO.out]; rfl) (by rfl) ?_ ?_
      rotate_left 1
      · first | ((intro W _; go_simp) <;> with_reducible rfl) | (intro W hW; have s1 := hW.1; have t0 := hW.2.cell (j := 0) rfl; have t1 := hW.2.cell (j := 1) rfl; have t2 := hW.2.cell (j := 2) rfl; have t3 := hW.2.cell (j := 3) rfl; have t4 := hW.2.cell (j := 4) rfl; (go_simp <;> with_reducible rfl))
      try simp only [Act.put, List.setIfInBounds_toArray, List.set_cons_zero, List.set_cons_succ]
      refine seqT_take (o := ⟨_, _, _, _, _, _⟩) (v := ?_) (by rw [HO.out]; rfl) (by rfl) ?_ ?_
      rotate_left 1
      · first | ((intro W _; go_simp) <;> with_reducible rfl) | (intro W hW; have s1 := hW.1; have t0 := hW.2.cell (j := 0) rfl; have t1 := hW.2.cell (j := 1) rfl; have t2 := hW.2.cell (j := 2) rfl; have t3 := hW.2.cell (j := 3) rfl; have t4 := hW.2.cell (j := 4) rfl; (go_simp <;> with_reducible rfl))
      try simp only [Act.put, List.setIfInBounds_toArray, List.set_cons_zero, List.set_cons_succ]
      refine seqT_take (o := ⟨_, _, _, _, _, _⟩) (v := ?_) (by rw [HO.out]; rfl) (by rfl) ?_ ?_
      rotate_left 1
      · first | ((intro W _; go_simp) <;> with_reducible rfl) | (intro W hW; have s1 := hW.1; have t0 := hW.2.cell (j := 0) rfl; have t1 := hW.2.cell (j := 1) rfl; have t2 := hW.2.cell (j := 2) rfl; have t3 := hW.2.cell (j := 3) rfl; have t4 := hW.2.cell (j := 4) rfl; (go_simp <;> with_reducible rfl))
      try simp only [Act.put, List.setIfInBounds_toArray, List.set_cons_zero, List.set_cons_succ]
      refine seqT_do (o := ⟨_, _, _, _, _, _⟩) (by rw [HO.out]; rfl) (by rfl) (fun K hK => ?_)
      go_wp2_with fail
      refine hK.out _ _ (fun _ => ⟨c0a _, HBa.out _⟩) ?_
      clear hK K
      try simp only [Act.put, List.setIfInBounds_toArray, List.set_cons_zero, List.set_cons_succ]
      refine seqT_do (o := ⟨_, _, _, _, _, _⟩) (by rw [HO.out]; rfl) (by rfl) (fun K hK => ?_)
      refine wp_appSt hz9 HX9.out.2.1 (by omega) ⟨k, out1, ⟨#[]⟩, 0, 0⟩ (.tmp 188) (.tmp 190) rfl rfl rfl ?_
      intro g cap' w' hown' hg
      obtain ⟨q1, q2, q3⟩ := planAt_step hzp hz9 HX9.out.1 HX9.out.2.1 HX9.out.2.2 hown' hg
      have d1 := q1.cell (j := 0) rfl
      have df := Lib.frozen_of_heap q1 0
      have d2 := Lib.hid (HGr.out _ _ hg)
      have HQF := Lib.hid (And.intro q2 q3)
      clear q1 q2 q3 hown' hg
      refine hK.out _ _ (fun _ => ⟨d1, d2.out⟩) ?_
      clear hK K
      try simp only [Act.put, List.setIfInBounds_toArray, List.set_cons_zero, List.set_cons_succ]
      refine seqT_take (o := ⟨_, _, _, _, _, _⟩) (v := ?_) (by rw [HO.out]; rfl) (by rfl) ?_ ?_
      rotate_left 1
      · first | ((intro W _; go_simp) <;> with_reducible rfl) | (intro W hW; have s1 := hW.1; have t0 := hW.2.cell (j := 0) rfl; have t1 := hW.2.cell (j := 1) rfl; have t2 := hW.2.cell (j := 2) rfl; have t3 := hW.2.cell (j := 3) rfl; have t4 := hW.2.cell (j := 4) rfl; (go_simp <;> with_reducible rfl))
      try simp only [Act.put, List.setIfInBounds_toArray, List.set_cons_zero, List.set_cons_succ]
      refine seqT_take (o := ⟨_, _, _, _, _, _⟩) (v := ?_) (by rw [HO.out]; rfl) (by rfl) ?_ ?_
      rotate_left 1
      · first | ((intro W _; go_simp) <;> with_reducible rfl) | (intro W hW; have s1 := hW.1; have t0 := hW.2.cell (j := 0) rfl; have t1 := hW.2.cell (j := 1) rfl; have t2 := hW.2.cell (j := 2) rfl; have t3 := hW.2.cell (j := 3) rfl; have t4 := hW.2.cell (j := 4) rfl; (go_simp <;> with_reducible rfl))
      try simp only [Act.put, List.setIfInBounds_toArray, List.set_cons_zero, List.set_cons_succ]
      refine seqT_do (o := ⟨_, _, _, _, _, _⟩) (by rw [HO.out]; rfl) (by rfl) (fun K hK => ?_)
      go_wp2_with fail
      refine hK.out _ _ (fun h => absurd rfl h) ?_
      clear hK K
      try simp only [Act.put, List.setIfInBounds_toArray, List.set_cons_zero, List.set_cons_succ]
      refine seqT_done ?_
      generalize w'.setCell _ _ = wf at *
      clear d1 d2 df c0 c0a
      go_wp2_with fail
      go_ret
      refine ⟨_, S ++ [⟨k, out1, ⟨#[]⟩, 0, 0⟩], [], rfl, HQF.out.1, HKw.out.trans HQF.out.2, by simp; try omega, ?_⟩
      exact HFin.out
    · have HFin : Hid (LineStep S [] line.data.toList true (S ++ [⟨k, out1, ⟨#[]⟩, 0, 0⟩]) []) := Lib.hid ⟨fun _ => .inl ⟨⟨k, out1, ⟨#[]⟩, 0, 0⟩, HOf.out _ (Wh.none_behind HKb.out.1 HKb.out.2.1 HKb.out.2.2 hk1 hk10 (by rw [← HY.out.2]; simp [HU.out.1 rfl])), rfl, rfl, rfl⟩, fun h => (by cases h)⟩
      go_upto_region 50 with fail
      have HX9 : Hid (PlanX w0.heap.size wD.drew p S [] sm by' sa sc ra rc) := Lib.hid (HX0.out.under (drB0 (bTrans H25.out HDw.out)))
      have hz9 : w0.heap.size ≤ wD.drew.heap.size := by
        have := HDw.out.size
        show w0.heap.size ≤ wD.heap.size
        omega
      have c0 := HX9.out.1.cell (j := 0) rfl
      have c0a := fun ob => (BoxIs.under HX9.out.1 (bAlloc (Below.refl _ _) ob)).cell (j := 0) rfl
      have HBx9 : Hid (BoxIs wD.drew b1 #[.int .i64 (k : Int), .string out1, .string ⟨#[]⟩, .int .i64 0, .int .i64 0] stepTy) := HD1
      have HBa : Hid (∀ ob, BoxIs (wD.drew.alloc ob) b1 #[.int .i64 (k : Int), .string out1, .string ⟨#[]⟩, .int .i64 0, .int .i64 0] stepTy) := Lib.hid (fun ob => BoxIs.under HBx9.out (bAlloc (Below.refl _ _) ob))
      have HGr : Hid (∀ ob w', (wD.drew.alloc ob).grownBy w' (Value.slice sa S.length sc).ownBlock → BoxIs w' b1 #[.int .i64 (k : Int), .string out1, .string ⟨#[]⟩, .int .i64 0, .int .i64 0] stepTy) := Lib.hid (fun ob w' hg => (hg.block b1 (HBa.out ob).lt (fun e => by
        obtain ⟨_, cc, hc⟩ := HX0.out.2.1.base b1 e.symm
        have h1 := (Array.getElem?_eq_some_iff.1 hc).1
        have h2 := HBe.out
        omega)).trans (HBa.out ob))
      have HKw : Hid (PKept w0.heap.size p w wD.drew) := Lib.hid (PKept.of (drB0 (bTrans HBf.out HDw.out)) hzz)
      refine wp_region_seqU (fun W => W.cell? ⟨p, 0, none⟩ = some (.slice sa S.length sc) ∧ BoxIs W b1 #[.int .i64 (k : Int), .string out1, .string ⟨#[]⟩, .int .i64 0, .int .i64 0] stepTy) 10 [(0, true), (1, true), (2, true), (3, true), (4, true), (5, true), (6, false), (7, false), (8, true), (9, true), (10, false)] (by as_aux_lemma => kernel_rfl) (by as_aux_lemma => kernel_rfl) (by as_aux_lemma => kernel_rfl) (by decide) (by as_aux_lemma => kernel_rfl) (by decide) ⟨c0, HBx9.out⟩ ?_
      intro OPS HO
      refine seqT_take (o := ⟨_, _, _, _, _, _⟩) (v := ?_) (by rw [HO.out]; rfl) (by rfl) ?_ ?_
      rotate_left 1
      · first | ((intro W _; go_simp) <;> with_reducible rfl) | (intro W hW; have s1 := hW.1; have t0 := hW.2.cell (j := 0) rfl; have t1 := hW.2.cell (j := 1) rfl; have t2 := hW.2.cell (j := 2) rfl; have t3 := hW.2.cell (j := 3) rfl; have t4 := hW.2.cell (j := 4) rfl; (go_simp <;> with_reducible rfl))
      try simp only [Act.put, List.setIfInBounds_toArray, List.set_cons_zero, List.set_cons_succ]
      refine seqT_take (o := ⟨_, _, _, _, _, _⟩) (v := ?_) (by rw [HO.out]; rfl) (by rfl) ?_ ?_
      rotate_left 1
      · first | ((intro W _; go_simp) <;> with_reducible rfl) | (intro W hW; have s1 := hW.1; have t0 := hW.2.cell (j := 0) rfl; have t1 := hW.2.cell (j := 1) rfl; have t2 := hW.2.cell (j := 2) rfl; have t3 := hW.2.cell (j := 3) rfl; have t4 := hW.2.cell (j := 4) rfl; (go_simp <;> with_reducible rfl))
      try simp only [Act.put, List.setIfInBounds_toArray, List.set_cons_zero, List.set_cons_succ]
      refine seqT_take (o := ⟨_, _, _, _, _, _⟩) (v := ?_) (by rw [HO.out]; rfl) (by rfl) ?_ ?_
      rotate_left 1
      · first | ((intro W _; go_simp) <;> with_reducible rfl) | (intro W hW; have s1 := hW.1; have t0 := hW.2.cell (j := 0) rfl; have t1 := hW.2.cell (j := 1) rfl; have t2 := hW.2.cell (j := 2) rfl; have t3 := hW.2.cell (j := 3) rfl; have t4 := hW.2.cell (j := 4) rfl; (go_simp <;> with_reducible rfl))
      try simp only [Act.put, List.setIfInBounds_toArray, List.set_cons_zero, List.set_cons_succ]
      refine seqT_take (o := ⟨_, _, _, _, _, _⟩) (v := ?_) (by rw [HO.out]; rfl) (by rfl) ?_ ?_
      rotate_left 1
      · first | ((intro W _; go_simp) <;> with_reducible rfl) | (intro W hW; have s1 := hW.1; have t0 := hW.2.cell (j := 0) rfl; have t1 := hW.2.cell (j := 1) rfl; have t2 := hW.2.cell (j := 2) rfl; have t3 := hW.2.cell (j := 3) rfl; have t4 := hW.2.cell (j := 4) rfl; (go_simp <;> with_reducible rfl))
      try simp only [Act.put, List.setIfInBounds_toArray, List.set_cons_zero, List.set_cons_succ]
      refine seqT_take (o := ⟨_, _, _, _, _, _⟩) (v := ?_) (by rw [HO.out]; rfl) (by rfl) ?_ ?_
      rotate_left 1
      · first | ((intro W _; go_simp) <;> with_reducible rfl) | (intro W hW; have s1 := hW.1; have t0 := hW.2.cell (j := 0) rfl; have t1 := hW.2.cell (j := 1) rfl; have t2 := hW.2.cell (j := 2) rfl; have t3 := hW.2.cell (j := 3) rfl; have t4 := hW.2.cell (j := 4) rfl; (go_simp <;> with_reducible rfl))
      try simp only [Act.put, List.setIfInBounds_toArray, List.set_cons_zero, List.set_cons_succ]
      refine seqT_take (o := ⟨_, _, _, _, _, _⟩) (v := ?_) (by rw [HO.out]; rfl) (by rfl) ?_ ?_
      rotate_left 1
      · first | ((intro W _; go_simp) <;> with_reducible rfl) | (intro W hW; have s1 := hW.1; have t0 := hW.2.cell (j := 0) rfl; have t1 := hW.2.cell (j := 1) rfl; have t2 := hW.2.cell (j := 2) rfl; have t3 := hW.2.cell (j := 3) rfl; have t4 := hW.2.cell (j := 4) rfl; (go_simp <;> with_reducible rfl))
      try simp only [Act.put, List.setIfInBounds_toArray, List.set_cons_zero, List.set_cons_succ]
      refine seqT_do (o := ⟨_, _, _, _, _, _⟩) (by rw [HO.out]; rfl) (by rfl) (fun K hK => ?_)
      go_wp2_with fail
      refine hK.out _ _ (fun _ => ⟨c0a _, HBa.out _⟩) ?_
      clear hK K
      try simp only [Act.put, List.setIfInBounds_toArray, List.set_cons_zero, List.set_cons_succ]
      refine seqT_do (o := ⟨_, _, _, _, _, _⟩) (by rw [HO.out]; rfl) (by rfl) (fun K hK => ?_)
      refine wp_appSt hz9 HX9.out.2.1 (by omega) ⟨k, out1, ⟨#[]⟩, 0, 0⟩ (.tmp 188) (.tmp 190) rfl rfl rfl ?_
      intro g cap' w' hown' hg
      obtain ⟨q1, q2, q3⟩ := planAt_step hzp hz9 HX9.out.1 HX9.out.2.1 HX9.out.2.2 hown' hg
      have d1 := q1.cell (j := 0) rfl
      have df := Lib.frozen_of_heap q1 0
      have d2 := Lib.hid (HGr.out _ _ hg)
      have HQF := Lib.hid (And.intro q2 q3)
      clear q1 q2 q3 hown' hg
      refine hK.out _ _ (fun _ => ⟨d1, d2.out⟩) ?_
      clear hK K
      try simp only [Act.put, List.setIfInBounds_toArray, List.set_cons_zero, List.set_cons_succ]
      refine seqT_take (o := ⟨_, _, _, _, _, _⟩) (v := ?_) (by rw [HO.out]; rfl) (by rfl) ?_ ?_
      rotate_left 1
      · first | ((intro W _; go_simp) <;> with_reducible rfl) | (intro W hW; have s1 := hW.1; have t0 := hW.2.cell (j := 0) rfl; have t1 := hW.2.cell (j := 1) rfl; have t2 := hW.2.cell (j := 2) rfl; have t3 := hW.2.cell (j := 3) rfl; have t4 := hW.2.cell (j := 4) rfl; (go_simp <;> with_reducible rfl))
      try simp only [Act.put, List.setIfInBounds_toArray, List.set_cons_zero, List.set_cons_succ]
      refine seqT_take (o := ⟨_, _, _, _, _, _⟩) (v := ?_) (by rw [HO.out]; rfl) (by rfl) ?_ ?_
      rotate_left 1
      · first | ((intro W _; go_simp) <;> with_reducible rfl) | (intro W hW; have s1 := hW.1; have t0 := hW.2.cell (j := 0) rfl; have t1 := hW.2.cell (j := 1) rfl; have t2 := hW.2.cell (j := 2) rfl; have t3 := hW.2.cell (j := 3) rfl; have t4 := hW.2.cell (j := 4) rfl; (go_simp <;> with_reducible rfl))
      try simp only [Act.put, List.setIfInBounds_toArray, List.set_cons_zero, List.set_cons_succ]
      refine seqT_do (o := ⟨_, _, _, _, _, _⟩) (by rw [HO.out]; rfl) (by rfl) (fun K hK => ?_)
      go_wp2_with fail
      refine hK.out _ _ (fun h => absurd rfl h) ?_
      clear hK K
      try simp only [Act.put, List.setIfInBounds_toArray, List.set_cons_zero, List.set_cons_succ]
      refine seqT_done ?_
      generalize w'.setCell _ _ = wf at *
      clear d1 d2 df c0 c0a
      go_wp2_with fail
      go_ret
      refine ⟨_, S ++ [⟨k, out1, ⟨#[]⟩, 0, 0⟩], [], rfl, HQF.out.1, HKw.out.trans HQF.out.2, by simp; try omega, ?_⟩
      exact HFin.out
end Go.Proofs.YtfenmeacimfiaaaGreatDoor
