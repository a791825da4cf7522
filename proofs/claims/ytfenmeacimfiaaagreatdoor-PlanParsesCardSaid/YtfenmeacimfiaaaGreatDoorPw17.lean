/-
  plan.ParsePlan.
-/
import Derived.Test.YtfenmeacimfiaaaGreatDoorPw16
namespace Wh
open Go
theorem planW_no : ∀ b ∈ planW, b ≠ 32 := by decide
/-- The first line, read word by word. -/
theorem head_read {line s r r2 r3 : List UInt8} {b1 b2 b3 : Bool} {n m : Int} (hw1 : b1 = false → CutW line s r) (hw2 : ∀ v q, CutW line v q → b1 = false)
    (h2 : NumR r b1 n r2 b2) (hn : inI n) (h3 : NumR r2 b2 m r3 b3) (hm : inI m) : (s = planW ∧ b3 = false ∧ r3 = [] → inI n ∧ inI m ∧ line = lineW (headWordsL n m)) ∧ (∀ u v, inI u ∧ inI v ∧ line = lineW (headWordsL u v) → s = planW ∧ b3 = false ∧ r3 = []) := by
  constructor
  · rintro ⟨hs, hb, hr⟩
    obtain ⟨x3, y3⟩ := h3.1 hb
    obtain ⟨x2, y2⟩ := h2.1 x3
    refine ⟨hn, hm, ?_⟩
    subst hs
    refine (cutW_line planW_no (itoa_isW n)).1 ⟨r, hw1 x2, ?_⟩
    refine (cutW_line (itoa_no n) (itoa_isW m)).1 ⟨r2, y2, ?_⟩
    rcases y3 with ⟨_, ⟨y, _⟩ | ⟨_, y⟩⟩
    · rw [y]; simp [lineW, behindW]
    · exact absurd hr y
  · rintro u v ⟨hu, hv, hl⟩
    obtain ⟨r', k1, k2⟩ := (cutW_line planW_no (itoa_isW u)).2 hl
    have x1 := hw2 _ _ k1
    obtain ⟨e1, rfl⟩ := cutW_uniq k1 (hw1 x1)
    obtain ⟨q2, k3, k4⟩ := (cutW_line (ws := []) (itoa_no u) (itoa_isW v)).2 k2
    obtain ⟨x2, _, rfl⟩ := h2.both x1 hu k3
    have k5 : CutW q2 (Lib.itoa v) [] := ⟨itoa_no v, .inl ⟨by rw [k4]; simp [lineW, behindW], rfl⟩⟩
    obtain ⟨x3, _, h⟩ := h3.both x2 hv k5
    exact ⟨e1.symm, x3, h.symm⟩
end Wh
namespace Go.Proofs.YtfenmeacimfiaaaGreatDoor
open Go.RowKit

theorem LineStep.bad_same {S : List PStep} {R : List PRef} {l : List UInt8} {S' : List PStep} {R' : List PRef} (h : LineStep S R l false S' R') : LineStep S R l false S R := h.bad_any

set_option maxHeartbeats 4000000 in
set_option maxRecDepth 100000 in
theorem parse_any (t : ByteArray) (w : World) (hE : Env w) (hX : EnvX w) (hT : EnvT w) (hS : EnvS w) : Calls Tryz.prog 9 #[.string t] w (ParsePost t w) := by
  have HE := Lib.hid hE
  have HX := Lib.hid hX
  have HT := Lib.hid hT
  have HSt := Lib.hid hS
  have HR0 := Lib.hid (BoxIs.new w #[.slice none 0 0, .slice none 0 0, .int .i64 0, .int .i64 0] planTy)
  have HRb := Lib.hid (bAlloc (Below.refl w.heap.size w) (.cells #[.slice none 0 0, .slice none 0 0, .int .i64 0, .int .i64 0] planTy))
  clear hE hX hT hS
  go_enter Tryz.func9, Tryz.ntmps9
  go_upto_region 1 with fail
  generalize w.alloc _ = w1 at *
  by_cases hbig : 1048576 < t.size
  · have hbg : (1048576 : Int) < (t.size : Int) := by omega
    have HPr : Hid (ParseR t (zeroR 0 8)) := Lib.hid (.inl ⟨hbig, rfl⟩)
    clear hbig
    have d0 := HR0.out.cell (j := 0) rfl
    have d1 := HR0.out.cell (j := 1) rfl
    have d2 := HR0.out.cell (j := 2) rfl
    have d3 := HR0.out.cell (j := 3) rfl
    have g0 := Lib.frozen_of_heap HR0.out 0
    have g1 := Lib.frozen_of_heap HR0.out 1
    have g2 := Lib.frozen_of_heap HR0.out 2
    have g3 := Lib.frozen_of_heap HR0.out 3
    have HFn := Lib.hid (filled_is HRb.out HR0.out (Nat.le_refl _) (.slice none 0 0) (.slice none 0 0) (.int .i64 0) (.int .i64 0))
    go_wp2_with fail
    clear d0 d1 d2 d3 g0 g1 g2 g3
    generalize (((World.setCell w1 _ _).setCell _ _).setCell _ _).setCell _ _ = wf at *
    have d0 := HFn.out.1.cell (j := 0) rfl
    have d1 := HFn.out.1.cell (j := 1) rfl
    have d2 := HFn.out.1.cell (j := 2) rfl
    have d3 := HFn.out.1.cell (j := 3) rfl
    refine bodyPost_ret (v := .tuple #[.agg #[.slice none 0 0, .slice none 0 0, .int .i64 0, .int .i64 0], .int .i64 0, .int .i64 8]) ?_ rfl ?_
    · simp [results, Tryz.f9]
      go_simp
    · exact ⟨zeroR 0 8, none, none, 0, 0, HPr.out, rfl, .inl rfl, .inl rfl, HFn.out.2.1⟩
  have hbg : ¬ (1048576 : Int) < (t.size : Int) := by omega
  have ht : t.size ≤ 1048576 := by omega
  have hw1 := HRb.out.size
  have hlt1 := HR0.out.lt
  clear hbig
  have HSp := Lib.hid (split_one 10 t w1 (HE.out.under HRb.out) (by omega))
  have HRow := Lib.hid (BoxIs.new w1 ((Wh.pieces 10 t).map Value.string).toArray 9)
  have HRw := Lib.hid (bAlloc (Below.refl w1.heap.size w1) (.cells ((Wh.pieces 10 t).map Value.string).toArray 9))
  have hnp := Wh.pieces_pos 10 t
  have hnl := Wh.pieces_le 10 t
  have HLs : Hid (∀ (i : Nat) (l : ByteArray), (Wh.pieces 10 t)[i]? = some l → (linesOf t)[i]? = some l.data.toList ∧ l.size ≤ 1048576) := Lib.hid (fun i l h => ⟨lines_get h, by have := Wh.pieces_size (List.mem_of_getElem? h); omega⟩)
  obtain ⟨m, hm⟩ : ∃ m, (Wh.pieces 10 t).length = m + 1 := ⟨(Wh.pieces 10 t).length - 1, by omega⟩
  obtain ⟨lz, hlz⟩ : ∃ lz, (Wh.pieces 10 t)[m]? = some lz := ⟨_, List.getElem?_eq_getElem (by rw [hm]; exact Nat.lt_succ_self m)⟩
  have HN := Lib.hid hm
  have HLz : Hid ((linesOf t).getD m [] = lz.data.toList) := Lib.hid (by
    rw [List.getD_eq_getElem?_getD, (HLs.out _ _ hlz).1]
    rfl)
  have HPs : Hid (∀ r, LinesR (linesOf t) m lz.data.toList r → ParseR t r) := Lib.hid (fun r h => .inr ⟨ht, m, _, HN.out.symm, (HLs.out _ _ hlz).1, h⟩)
  have HGo := Lib.hid (lines_len ht)
  have HZc := Lib.hid hlz
  rw [hm] at hnp hnl
  clear hlz
  have hs0 : (0 : Int) ≤ (m : Int) := by omega
  go_upto_region 4 with (go_at_call 22; refine HSp.out.mono ?_; rintro e w2 ⟨rfl, hw2⟩; rw [← hw2] at HRow HRw; clear hw2)
  obtain ⟨q, hq⟩ : ∃ q, q = w1.heap.size := ⟨_, rfl⟩
  rw [← hq]
  rw [← hq] at HRow
  have hwq : w.heap.size < q := by omega
  clear hq
  try simp only [hm]
  clear hm
  have HB2 : Hid (Below w.heap.size w w2) := Lib.hid (bTrans HRb.out HRw.out)
  have HR2 := Lib.hid (BoxIs.under HR0.out HRw.out)
  have hlt2 := HRow.out.lt
  have hz2 := HB2.out.size
  have xz : w2.cell? ⟨q, m, none⟩ = some (.string lz) := HRow.out.cell (by simp [HZc.out])
  obtain ⟨N, hNN⟩ : ∃ N, N = m + 1 := ⟨_, rfl⟩
  rw [← hNN]
  have hNm : (N : Int) - 1 = (m : Int) := by omega
  have hNm2 : m < N := by omega
  have HNN := Lib.hid hNN
  clear hNN
  go_upto_region 6 with fail
  clear xz
  have HP0 := Lib.hid (BoxIs.new w2 #[.slice none 0 0, .slice none 0 0, .int .i64 0, .int .i64 0] planTy)
  have HPb := Lib.hid (bAlloc (Below.refl w2.heap.size w2) (.cells #[.slice none 0 0, .slice none 0 0, .int .i64 0, .int .i64 0] planTy))
  go_upto_region 7 with fail
  obtain ⟨p, hp⟩ : ∃ p, p = w2.heap.size := ⟨_, rfl⟩
  rw [← hp]
  rw [← hp] at HP0
  have hqp : q < p := by omega
  have hwp : w.heap.size < p := by omega
  clear hp
  generalize w2.alloc _ = w3 at *
  have HB3 : Hid (Below w.heap.size w w3) := Lib.hid (bTrans HB2.out HPb.out)
  have HR3 := Lib.hid (BoxIs.under HR2.out HPb.out)
  have HRow3 := Lib.hid (BoxIs.under HRow.out HPb.out)
  have hpw3 := HP0.out.lt
  have HA3 : Hid (PlanAt w.heap.size w3 p [] [] 0 0) := Lib.hid ⟨by omega, none, 0, none, 0, HP0.out, OwnR.nil _ _ _ _ _, OwnR.nil _ _ _ _ _⟩
  clear HR0 HRb HP0 HPb HSp HRw HB2 HR2 HRow hw1 hlt1 hlt2 hz2
  go_wp2_with fail
  go_loopg [32] m (fun g s32 wx => ∃ (i : Nat) (S : List PStep) (R : List PRef) (a b : Int), i + g = m ∧ s32 = .int .i64 i ∧ Hid (PlanAt w.heap.size wx p S R a b) ∧ Hid (PKept w.heap.size p w3 wx) ∧ Hid (PlanRun (linesOf t) i S R a b))
  case atStart => exact ⟨0, [], [], 0, 0, by omega, by go_num, HA3, Lib.hid (PKept.refl _ _ _), Lib.hid (planRun_zero _)⟩
  case round =>
    obtain ⟨i, S, R, a, b, hi, rfl, HAt, HKp, HRun⟩ := hrel
    have HBw : Hid (Below w.heap.size w wr) := Lib.hid (HB3.out.trans HKp.out.below)
    have HBox : Hid (BoxIs wr w.heap.size #[.slice none 0 0, .slice none 0 0, .int .i64 0, .int .i64 0] planTy) := Lib.hid (BoxIs.pkept HR3.out HKp.out (by omega) (by decide) (by decide))
    have hgood := (HRun.out.good HGo.out).2.2.1
    have hwz := HBw.out.size
    by_cases hlt : i < m
    · have hltI : (i : Int) < (m : Int) := by omega
      obtain ⟨g, rfl⟩ : ∃ g, gk = g + 1 := ⟨gk - 1, by omega⟩
      obtain ⟨l, hl⟩ : ∃ l, (Wh.pieces 10 t)[i]? = some l := ⟨_, List.getElem?_eq_getElem (by rw [HN.out]; omega)⟩
      have HLi := Lib.hid (HLs.out i l hl)
      have HRx : Hid (BoxIs wr q ((Wh.pieces 10 t).map Value.string).toArray 9) := Lib.hid (BoxIs.pkept HRow3.out HKp.out (by omega) (by decide) (by decide))
      have x0 : wr.cell? ⟨q, i, none⟩ = some (.string l) := HRx.out.cell (by simp [hl])
      have hlz2 : l.size ≤ 2000000 := by
        have := HLi.out.2
        omega
      clear hl
      by_cases hi0 : i = 0
      · subst hi0
        obtain ⟨rfl, rfl, rfl, rfl⟩ := HRun.out.zero
        go_upto_region 13 with fail
        clear x0
        have H1 : Hid (WordsIs (wr.alloc (.cells #[.string l, .bool false] 53)) wr.heap.size l false ∧ Below wr.heap.size wr (wr.alloc (.cells #[.string l, .bool false] 53))) := Lib.hid ⟨BoxIs.new _ _ _, bAlloc (Below.refl _ _) _⟩
        generalize wr.alloc _ = w4 at *
        obtain ⟨bk, hbk⟩ : ∃ bk, bk = wr.heap.size := ⟨_, rfl⟩
        rw [← hbk] at H1
        rw [← hbk]
        have HC1 : Hid (∀ W, Below bk wr W → Ctx w bk W) := Lib.hid (fun W hW => ⟨HE.out, HX.out, HT.out, by omega, HBw.out.trans (hW.mono (by omega))⟩)
        have hw4 := H1.out.1.lt
        have HW := Lib.hid (word_any w bk l false w4 (HC1.out _ H1.out.2) H1.out.1 hlz2)
        have HA4 : Hid (PlanAt w.heap.size w4 p [] [] 0 0) := Lib.hid (HAt.out.under (by have := H1.out.2; rw [hbk] at this; exact this))
        have HK4 : Hid (PKept w.heap.size p wr w4) := Lib.hid (PKept.of (by have := H1.out.2; rw [hbk] at this; exact this) (by omega))
        have hbp : bk ≠ p := by
          have := HKp.out.below.size
          omega
        have HBk := Lib.hid hbk
        clear hbk
        go_upto_region 14 with (go_at_call 23; refine HW.out.mono ?_; rintro e w5 ⟨s, r, bad1, rfl, hw5, ha5, hs1, hr1, hk1, hk2⟩; have H5 := Lib.hid hw5; have HA5 := Lib.hid ha5; have HK1 : Hid (bad1 = false → Wh.CutW l.data.toList s.data.toList r.data.toList) := Lib.hid (fun h => (hk1 h).2); have HK2 : Hid (∀ v q, Wh.CutW l.data.toList v q → bad1 = false) := Lib.hid (fun v q h => hk2 rfl v q h); clear hw5 ha5 hk1 hk2)
        have HB5 : Hid (Below bk wr w5) := Lib.hid (H1.out.2.trans (HA5.out.below (Nat.le_refl _) (by omega)))
        have HNum := Lib.hid (number_any w bk r bad1 w5 (HC1.out _ HB5.out) H5.out (by omega))
        go_upto_region 15 with (first | (go_at_call 24; refine HNum.out.mono ?_; rintro e w6 ⟨n1, r2, bad2, rfl, hw6, ha6, hr2, n10, n11, hq1, hq2⟩; have HQ2 : Hid (Wh.NumR r.data.toList bad1 n1 r2.data.toList bad2) := Lib.hid ⟨hq1, fun hb u q hu => hq2 hb u q hu.1 hu.2⟩; have HI1 : Hid (Wh.inI n1) := Lib.hid ⟨n10, n11⟩; have H6 := Lib.hid hw6; have HA6 := Lib.hid ha6; clear hq1 hq2 hw6 ha6 HNum n10 n11; have HB6 : Hid (Below bk wr w6) := Lib.hid (HB5.out.trans (HA6.out.below (Nat.le_refl _) (by have h1 := HB5.out.size; have h2 := HBk.out; omega))); have HNum2 := Lib.hid (number_any w bk r2 bad2 w6 (HC1.out _ HB6.out) H6.out (by omega))) | (go_at_call 24; refine HNum2.out.mono ?_; rintro e w7 ⟨n2, r3, bad3, rfl, hw7, ha7, hr3, n20, n21, hq1, hq2⟩; have HQ3 : Hid (Wh.NumR r2.data.toList bad2 n2 r3.data.toList bad3) := Lib.hid ⟨hq1, fun hb u q hu => hq2 hb u q hu.1 hu.2⟩; have HI2 : Hid (Wh.inI n2) := Lib.hid ⟨n20, n21⟩; have H7 := Lib.hid hw7; have HA7 := Lib.hid ha7; clear hq1 hq2 hw7 ha7 HNum2 n20 n21; have HB7 : Hid (Below wr.heap.size wr w7) := Lib.hid (by have h1 := HB6.out.size; have h2 := HBk.out; have h3 := HB6.out.trans (HA7.out.below (Nat.le_refl _) (by omega)); rw [h2] at h3; exact h3); have HP7 := Lib.hid (HAt.out.under HB7.out); obtain ⟨_, sa7, sc7, ra7, rc7, hx7, _, _⟩ := HP7.out; have d2 := hx7.cell (j := 2) rfl; have d3 := hx7.cell (j := 3) rfl; have g2 := Lib.frozen_of_heap hx7 2; have g3 := Lib.frozen_of_heap hx7 3; clear hx7))
        have HS2 := Lib.hid (planAt_set (j := 2) HP7.out n1 n1 0 (.inl ⟨rfl, rfl, rfl⟩))
        have HS3 := Lib.hid (planAt_set (j := 3) HS2.out.1 n2 n1 n2 (.inr ⟨rfl, rfl, rfl⟩))
        have HK8 : Hid (PKept w.heap.size p w7 ((w7.setCell ⟨p, 2, none⟩ (.int .i64 n1)).setCell ⟨p, 3, none⟩ (.int .i64 n2))) := Lib.hid (HS2.out.2.trans HS3.out.2)
        have HP8 := Lib.hid HS3.out.1
        clear HS2 HS3 d2 d3 g2 g3
        generalize World.setCell (World.setCell w7 _ _) _ _ = w8 at *
        have HWF : Hid (WordsIs w8 bk r3 bad3) := Lib.hid (BoxIs.pkept H7.out HK8.out (by omega) (by decide) (by decide))
        have x0 := HWF.out.cell (j := 0) rfl
        have x1 := HWF.out.cell (j := 1) rfl
        have HKF : Hid (PKept w.heap.size p w3 w8) := Lib.hid (HKp.out.trans ((PKept.of HB7.out (by omega)).trans HK8.out))
        have he : r3.toList.isEmpty = r3.data.toList.isEmpty := by rw [Lib.toList_data]
        have HHd := Lib.hid (Wh.head_read HK1.out HK2.out HQ2.out HI1.out HQ3.out HI2.out)
        have HBw8 : Hid (Below w.heap.size w w8) := Lib.hid (HB3.out.trans HKF.out.below)
        have HBox8 : Hid (BoxIs w8 w.heap.size #[.slice none 0 0, .slice none 0 0, .int .i64 0, .int .i64 0] planTy) := Lib.hid (BoxIs.pkept HR3.out HKF.out (by omega) (by decide) (by decide))
        have HBad : Hid ((∀ u v, ¬ HeadL l.data.toList u v) → ParseR t (zeroR 0 9)) := Lib.hid (fun h => HPs.out _ (.inl ⟨0, [], [], 0, 0, hlt, HRun.out, ⟨_, HLi.out.1, .inl ⟨rfl, h⟩⟩, rfl⟩))
        clear HBox HBw HKp
        cases hq : (s.toList == [112, 108, 97, 110])
        case false =>
          have HPr : Hid (ParseR t (zeroR 0 9)) := Lib.hid (HBad.out (fun u v h => by
            have := (HHd.out.2 u v h).1
            rw [Lib.toList_data, this] at hq
            exact absurd hq (by decide)))
          have d0 := HBox8.out.cell (j := 0) rfl
          have d1 := HBox8.out.cell (j := 1) rfl
          have d2 := HBox8.out.cell (j := 2) rfl
          have d3 := HBox8.out.cell (j := 3) rfl
          have g0 := Lib.frozen_of_heap HBox8.out 0
          have g1 := Lib.frozen_of_heap HBox8.out 1
          have g2 := Lib.frozen_of_heap HBox8.out 2
          have g3 := Lib.frozen_of_heap HBox8.out 3
          have HFn := Lib.hid (filled_is HBw8.out HBox8.out (Nat.le_refl _) (.slice none 0 0) (.slice none 0 0) (.int .i64 0) (.int .i64 0))
          go_wp2_with fail
          clear d0 d1 d2 d3 g0 g1 g2 g3
          generalize (((World.setCell w8 _ _).setCell _ _).setCell _ _).setCell _ _ = wf at *
          have d0 := HFn.out.1.cell (j := 0) rfl
          have d1 := HFn.out.1.cell (j := 1) rfl
          have d2 := HFn.out.1.cell (j := 2) rfl
          have d3 := HFn.out.1.cell (j := 3) rfl
          refine bodyPost_ret (v := .tuple #[.agg #[.slice none 0 0, .slice none 0 0, .int .i64 0, .int .i64 0], .int .i64 0, .int .i64 9]) ?_ rfl ?_
          · simp [results, Tryz.f9]
            go_simp
          · exact ⟨zeroR 0 9, none, none, 0, 0, HPr.out, rfl, .inl rfl, .inl rfl, HFn.out.2.1⟩
        case true =>
          cases bad3
          case true =>
            have HPr : Hid (ParseR t (zeroR 0 9)) := Lib.hid (HBad.out (fun u v h => by
              have := (HHd.out.2 u v h).2.1
              cases this))
            have d0 := HBox8.out.cell (j := 0) rfl
            have d1 := HBox8.out.cell (j := 1) rfl
            have d2 := HBox8.out.cell (j := 2) rfl
            have d3 := HBox8.out.cell (j := 3) rfl
            have g0 := Lib.frozen_of_heap HBox8.out 0
            have g1 := Lib.frozen_of_heap HBox8.out 1
            have g2 := Lib.frozen_of_heap HBox8.out 2
            have g3 := Lib.frozen_of_heap HBox8.out 3
            have HFn := Lib.hid (filled_is HBw8.out HBox8.out (Nat.le_refl _) (.slice none 0 0) (.slice none 0 0) (.int .i64 0) (.int .i64 0))
            go_wp2_with fail
            clear d0 d1 d2 d3 g0 g1 g2 g3
            generalize (((World.setCell w8 _ _).setCell _ _).setCell _ _).setCell _ _ = wf at *
            have d0 := HFn.out.1.cell (j := 0) rfl
            have d1 := HFn.out.1.cell (j := 1) rfl
            have d2 := HFn.out.1.cell (j := 2) rfl
            have d3 := HFn.out.1.cell (j := 3) rfl
            refine bodyPost_ret (v := .tuple #[.agg #[.slice none 0 0, .slice none 0 0, .int .i64 0, .int .i64 0], .int .i64 0, .int .i64 9]) ?_ rfl ?_
            · simp [results, Tryz.f9]
              go_simp
            · exact ⟨zeroR 0 9, none, none, 0, 0, HPr.out, rfl, .inl rfl, .inl rfl, HFn.out.2.1⟩
          case false =>
            cases hre : r3.data.toList.isEmpty
            case false =>
              have HPr : Hid (ParseR t (zeroR 0 9)) := Lib.hid (HBad.out (fun u v h => by
                have := (HHd.out.2 u v h).2.2
                rw [this] at hre
                cases hre))
              rw [hre] at he
              have d0 := HBox8.out.cell (j := 0) rfl
              have d1 := HBox8.out.cell (j := 1) rfl
              have d2 := HBox8.out.cell (j := 2) rfl
              have d3 := HBox8.out.cell (j := 3) rfl
              have g0 := Lib.frozen_of_heap HBox8.out 0
              have g1 := Lib.frozen_of_heap HBox8.out 1
              have g2 := Lib.frozen_of_heap HBox8.out 2
              have g3 := Lib.frozen_of_heap HBox8.out 3
              have HFn := Lib.hid (filled_is HBw8.out HBox8.out (Nat.le_refl _) (.slice none 0 0) (.slice none 0 0) (.int .i64 0) (.int .i64 0))
              go_wp2_with fail
              clear d0 d1 d2 d3 g0 g1 g2 g3
              generalize (((World.setCell w8 _ _).setCell _ _).setCell _ _).setCell _ _ = wf at *
              have d0 := HFn.out.1.cell (j := 0) rfl
              have d1 := HFn.out.1.cell (j := 1) rfl
              have d2 := HFn.out.1.cell (j := 2) rfl
              have d3 := HFn.out.1.cell (j := 3) rfl
              refine bodyPost_ret (v := .tuple #[.agg #[.slice none 0 0, .slice none 0 0, .int .i64 0, .int .i64 0], .int .i64 0, .int .i64 9]) ?_ rfl ?_
              · simp [results, Tryz.f9]
                go_simp
              · exact ⟨zeroR 0 9, none, none, 0, 0, HPr.out, rfl, .inl rfl, .inl rfl, HFn.out.2.1⟩
            case true =>
              have HRun2 : Hid (PlanRun (linesOf t) 1 [] [] n1 n2) := Lib.hid (PlanRun.head HLi.out.1 (HHd.out.1 ⟨by rw [Lib.toList_data] at hq; exact beq_iff_eq.1 hq, rfl, List.isEmpty_iff.1 hre⟩))
              rw [hre] at he
              go_wp2_with fail
              go_roundg g
              case measure => omega
              case rel => exact ⟨1, [], [], n1, n2, by omega, by go_num, HP8, HKF, HRun2⟩
      · have hi0' : ((i : Int) == 0) = false := by
          have : ¬ (i : Int) = 0 := by omega
          simpa using this
        have HPh := Lib.hid (readLine_any w p S R a b l wr HE.out HX.out HT.out HSt.out HBw.out HAt.out hlz2 (by omega))
        go_upto_region 18 with (go_at_call 25; (with_reducible refine HPh.out.mono ?_); rintro e w5 ⟨ok, S5, R5, rfl, hp5, hk5, hsz5, hst⟩; have HP5 := Lib.hid hp5; have HK5 := Lib.hid (HKp.out.trans hk5); have HLs5 := Lib.hid hst; clear hp5 hk5 hsz5 hst; cases ok)
        · have HBw5 : Hid (Below w.heap.size w w5) := Lib.hid (HB3.out.trans HK5.out.below)
          have HBox5 : Hid (BoxIs w5 w.heap.size #[.slice none 0 0, .slice none 0 0, .int .i64 0, .int .i64 0] planTy) := Lib.hid (BoxIs.pkept HR3.out HK5.out (by omega) (by decide) (by decide))
          have HPr : Hid (ParseR t (zeroR i 9)) := Lib.hid (HPs.out _ (.inl ⟨i, S, R, a, b, hlt, HRun.out, ⟨_, HLi.out.1, .inr ⟨hi0, HLs5.out.bad_any⟩⟩, rfl⟩))
          clear HBox HBw HKp
          have d0 := HBox5.out.cell (j := 0) rfl
          have d1 := HBox5.out.cell (j := 1) rfl
          have d2 := HBox5.out.cell (j := 2) rfl
          have d3 := HBox5.out.cell (j := 3) rfl
          have g0 := Lib.frozen_of_heap HBox5.out 0
          have g1 := Lib.frozen_of_heap HBox5.out 1
          have g2 := Lib.frozen_of_heap HBox5.out 2
          have g3 := Lib.frozen_of_heap HBox5.out 3
          have HFn := Lib.hid (filled_is HBw5.out HBox5.out (Nat.le_refl _) (.slice none 0 0) (.slice none 0 0) (.int .i64 0) (.int .i64 0))
          go_wp2_with fail
          clear d0 d1 d2 d3 g0 g1 g2 g3
          generalize (((World.setCell w5 _ _).setCell _ _).setCell _ _).setCell _ _ = wf at *
          have d0 := HFn.out.1.cell (j := 0) rfl
          have d1 := HFn.out.1.cell (j := 1) rfl
          have d2 := HFn.out.1.cell (j := 2) rfl
          have d3 := HFn.out.1.cell (j := 3) rfl
          refine bodyPost_ret (v := .tuple #[.agg #[.slice none 0 0, .slice none 0 0, .int .i64 0, .int .i64 0], .int .i64 i, .int .i64 9]) ?_ rfl ?_
          · simp [results, Tryz.f9]
            go_simp
          · exact ⟨zeroR i 9, none, none, 0, 0, HPr.out, rfl, .inl rfl, .inl rfl, HFn.out.2.1⟩
        · have HRun2 : Hid (PlanRun (linesOf t) (i + 1) S5 R5 a b) := Lib.hid (HRun.out.line hi0 HLi.out.1 HLs5.out)
          go_roundg g
          case measure => omega
          case rel => exact ⟨i + 1, S5, R5, a, b, by omega, by go_num, HP5, HK5, HRun2⟩
    · have him : m = i := by omega
      subst him
      clear hlt
      have hcase : lz.data.toList.isEmpty = false ∨ (lz.data.toList.isEmpty = true ∧ m = 0) ∨ (lz.data.toList.isEmpty = true ∧ m ≠ 0) := by
        cases lz.data.toList.isEmpty
        · exact .inl rfl
        · by_cases h : m = 0
          · exact .inr (.inl ⟨rfl, h⟩)
          · exact .inr (.inr ⟨rfl, h⟩)
      have hle : lz.toList.isEmpty = lz.data.toList.isEmpty := by rw [Lib.toList_data]
      rcases hcase with hem | ⟨hem, hm0⟩ | ⟨hem, hm0⟩
      · have HPr : Hid (ParseR t (zeroR m 9)) := Lib.hid (HPs.out _ (.inr ⟨S, R, a, b, HRun.out, .inl ⟨.inl (fun h => by
          rw [h] at hem
          cases hem), rfl⟩⟩))
        rw [hem] at hle
        have d0 := HBox.out.cell (j := 0) rfl
        have d1 := HBox.out.cell (j := 1) rfl
        have d2 := HBox.out.cell (j := 2) rfl
        have d3 := HBox.out.cell (j := 3) rfl
        have g0 := Lib.frozen_of_heap HBox.out 0
        have g1 := Lib.frozen_of_heap HBox.out 1
        have g2 := Lib.frozen_of_heap HBox.out 2
        have g3 := Lib.frozen_of_heap HBox.out 3
        have HFn := Lib.hid (filled_is HBw.out HBox.out (Nat.le_refl _) (.slice none 0 0) (.slice none 0 0) (.int .i64 0) (.int .i64 0))
        go_wp2_with fail
        clear d0 d1 d2 d3 g0 g1 g2 g3
        generalize (((World.setCell wr _ _).setCell _ _).setCell _ _).setCell _ _ = wf at *
        have d0 := HFn.out.1.cell (j := 0) rfl
        have d1 := HFn.out.1.cell (j := 1) rfl
        have d2 := HFn.out.1.cell (j := 2) rfl
        have d3 := HFn.out.1.cell (j := 3) rfl
        refine bodyPost_ret (v := .tuple #[.agg #[.slice none 0 0, .slice none 0 0, .int .i64 0, .int .i64 0], .int .i64 m, .int .i64 9]) ?_ rfl ?_
        · simp [results, Tryz.f9]
          go_simp
        · exact ⟨zeroR m 9, none, none, 0, 0, HPr.out, rfl, .inl rfl, .inl rfl, HFn.out.2.1⟩
      · have HPr : Hid (ParseR t (zeroR m 9)) := Lib.hid (HPs.out _ (.inr ⟨S, R, a, b, HRun.out, .inl ⟨.inr hm0, rfl⟩⟩))
        have hm0I : ((m : Int) == 0) = true := by
          have : (m : Int) = 0 := by omega
          simpa using this
        rw [hem] at hle
        have d0 := HBox.out.cell (j := 0) rfl
        have d1 := HBox.out.cell (j := 1) rfl
        have d2 := HBox.out.cell (j := 2) rfl
        have d3 := HBox.out.cell (j := 3) rfl
        have g0 := Lib.frozen_of_heap HBox.out 0
        have g1 := Lib.frozen_of_heap HBox.out 1
        have g2 := Lib.frozen_of_heap HBox.out 2
        have g3 := Lib.frozen_of_heap HBox.out 3
        have HFn := Lib.hid (filled_is HBw.out HBox.out (Nat.le_refl _) (.slice none 0 0) (.slice none 0 0) (.int .i64 0) (.int .i64 0))
        go_wp2_with fail
        clear d0 d1 d2 d3 g0 g1 g2 g3
        generalize (((World.setCell wr _ _).setCell _ _).setCell _ _).setCell _ _ = wf at *
        have d0 := HFn.out.1.cell (j := 0) rfl
        have d1 := HFn.out.1.cell (j := 1) rfl
        have d2 := HFn.out.1.cell (j := 2) rfl
        have d3 := HFn.out.1.cell (j := 3) rfl
        refine bodyPost_ret (v := .tuple #[.agg #[.slice none 0 0, .slice none 0 0, .int .i64 0, .int .i64 0], .int .i64 m, .int .i64 9]) ?_ rfl ?_
        · simp [results, Tryz.f9]
          go_simp
        · exact ⟨zeroR m 9, none, none, 0, 0, HPr.out, rfl, .inl rfl, .inl rfl, HFn.out.2.1⟩
      · have hm0I : ((m : Int) == 0) = false := by
          have : ¬ (m : Int) = 0 := by omega
          simpa using this
        have HLn : Hid (lz.data.toList = []) := Lib.hid (List.isEmpty_iff.1 hem)
        have HPl : Hid (∀ r, (checkV S R a b ≠ 0 ∧ r = zeroR 0 (checkV S R a b) ∨ checkV S R a b = 0 ∧ r = ⟨S, R, a, b, 0, 0⟩) → ParseR t r) := Lib.hid (fun r h => HPs.out _ (.inr ⟨S, R, a, b, HRun.out, .inr ⟨⟨HLn.out, hm0⟩, h⟩⟩))
        rw [hem] at hle
        obtain ⟨good1, good2, good3, good4, good5⟩ := HRun.out.good HGo.out
        obtain ⟨_, sa, sc, ra, rc, hbx, hS, hR⟩ := HAt.out
        have HCk := Lib.hid (checkPlan_any S R a b sa ra sc rc wr (HE.out.under HBw.out) good1 good2 (by omega) (hS.holds (by decide) stepCells_len) (hR.holds (by decide) refCells_len) good5 good4)
        have HSo := Lib.hid hS
        have HRo := Lib.hid hR
        have HBx := Lib.hid hbx
        clear good1 good2 good3 good4 good5 hS hR hbx
        generalize checkV S R a b = V at *
        have e0 := HBx.out.cell (j := 0) rfl
        have e1 := HBx.out.cell (j := 1) rfl
        have e2 := HBx.out.cell (j := 2) rfl
        have e3 := HBx.out.cell (j := 3) rfl
        go_upto_region 23 with (go_at_call 26; refine HCk.out.mono ?_; rintro e w5 ⟨rfl, hb5⟩; have HB5 := Lib.hid hb5; clear hb5)
        clear e0 e1 e2 e3
        have HBw5 : Hid (Below w.heap.size w w5) := Lib.hid (bTrans HBw.out HB5.out)
        have HBox5 := Lib.hid (BoxIs.under HBox.out HB5.out)
        by_cases hv : V = 0
        · subst hv
          have HPr : Hid (ParseR t ⟨S, R, a, b, 0, 0⟩) := Lib.hid (HPl.out _ (.inr ⟨rfl, rfl⟩))
          have HBx5 := Lib.hid (BoxIs.under HBx.out HB5.out)
          have e0 := HBx5.out.cell (j := 0) rfl
          have e1 := HBx5.out.cell (j := 1) rfl
          have e2 := HBx5.out.cell (j := 2) rfl
          have e3 := HBx5.out.cell (j := 3) rfl
          have d0 := HBox5.out.cell (j := 0) rfl
          have d1 := HBox5.out.cell (j := 1) rfl
          have d2 := HBox5.out.cell (j := 2) rfl
          have d3 := HBox5.out.cell (j := 3) rfl
          have g0 := Lib.frozen_of_heap HBox5.out 0
          have g1 := Lib.frozen_of_heap HBox5.out 1
          have g2 := Lib.frozen_of_heap HBox5.out 2
          have g3 := Lib.frozen_of_heap HBox5.out 3
          have HFn := Lib.hid (filled_is HBw5.out HBox5.out (Nat.le_refl _) (.slice sa S.length sc) (.slice ra R.length rc) (.int .i64 a) (.int .i64 b))
          go_wp2_with fail
          clear d0 d1 d2 d3 g0 g1 g2 g3
          generalize (((World.setCell w5 _ _).setCell _ _).setCell _ _).setCell _ _ = wf at *
          have d0 := HFn.out.1.cell (j := 0) rfl
          have d1 := HFn.out.1.cell (j := 1) rfl
          have d2 := HFn.out.1.cell (j := 2) rfl
          have d3 := HFn.out.1.cell (j := 3) rfl
          refine bodyPost_ret (v := .tuple #[.agg #[.slice sa S.length sc, .slice ra R.length rc, .int .i64 a, .int .i64 b], .int .i64 0, .int .i64 0]) ?_ rfl ?_
          · simp [results, Tryz.f9]
            go_simp
          · exact ⟨⟨S, R, a, b, 0, 0⟩, sa, ra, sc, rc, HPr.out, rfl, ((HSo.out.keep (fun k _ _ _ hk => HB5.out.block k (Array.getElem?_eq_some_iff.1 hk).1)).other HBox5.out (by decide) HFn.out.2.2).holds (by decide) stepCells_len, ((HRo.out.keep (fun k _ _ _ hk => HB5.out.block k (Array.getElem?_eq_some_iff.1 hk).1)).other HBox5.out (by decide) HFn.out.2.2).holds (by decide) refCells_len, HFn.out.2.1⟩
        · have hv2 : (V != 0) = true := by simpa using hv
          have HPr : Hid (ParseR t (zeroR 0 V)) := Lib.hid (HPl.out _ (.inl ⟨hv, rfl⟩))
          clear hv
          have d0 := HBox5.out.cell (j := 0) rfl
          have d1 := HBox5.out.cell (j := 1) rfl
          have d2 := HBox5.out.cell (j := 2) rfl
          have d3 := HBox5.out.cell (j := 3) rfl
          have g0 := Lib.frozen_of_heap HBox5.out 0
          have g1 := Lib.frozen_of_heap HBox5.out 1
          have g2 := Lib.frozen_of_heap HBox5.out 2
          have g3 := Lib.frozen_of_heap HBox5.out 3
          have HFn := Lib.hid (filled_is HBw5.out HBox5.out (Nat.le_refl _) (.slice none 0 0) (.slice none 0 0) (.int .i64 0) (.int .i64 0))
          go_wp2_with fail
          clear d0 d1 d2 d3 g0 g1 g2 g3
          generalize (((World.setCell w5 _ _).setCell _ _).setCell _ _).setCell _ _ = wf at *
          have d0 := HFn.out.1.cell (j := 0) rfl
          have d1 := HFn.out.1.cell (j := 1) rfl
          have d2 := HFn.out.1.cell (j := 2) rfl
          have d3 := HFn.out.1.cell (j := 3) rfl
          refine bodyPost_ret (v := .tuple #[.agg #[.slice none 0 0, .slice none 0 0, .int .i64 0, .int .i64 0], .int .i64 0, .int .i64 V]) ?_ rfl ?_
          · simp [results, Tryz.f9]
            go_simp
          · exact ⟨zeroR 0 V, none, none, 0, 0, HPr.out, rfl, .inl rfl, .inl rfl, HFn.out.2.1⟩
end Go.Proofs.YtfenmeacimfiaaaGreatDoor
