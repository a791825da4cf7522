/-
  The reference's ParsePlan.
-/
import Derived.Test.YtfenmeacimfiaaaGreatDoorPl10
namespace Go.Proofs.YtfenmeacimfiaaaGreatDoor
open Go.RowKit

/-- The lines of a text. -/
def linesOf (t : ByteArray) : List (List UInt8) := (Wh.pieces 10 t).map (·.data.toList)
/-- What ParsePlan answers to a text. -/
def ParseR (t : ByteArray) (r : PRes) : Prop :=
  (1048576 < t.size ∧ r = zeroR 0 8) ∨ (t.size ≤ 1048576 ∧ ∃ (m : Nat) (last : List UInt8), m + 1 = (Wh.pieces 10 t).length ∧ (linesOf t)[m]? = some last ∧ LinesR (linesOf t) m last r)
theorem ParseR.det {t : ByteArray} {r r2 : PRes} (h : ParseR t r) (h2 : ParseR t r2) : r = r2 := by
  rcases h with ⟨h1, rfl⟩ | ⟨h1, m, last, e1, e2, e3⟩ <;> rcases h2 with ⟨k1, rfl⟩ | ⟨k1, m', last', f1, f2, f3⟩
  · rfl
  · omega
  · omega
  · obtain rfl : m = m' := by omega
    rw [e2] at f2
    injection f2 with f2
    subst f2
    exact e3.det (by have := (List.getElem?_eq_some_iff.1 e2).1; omega) f3
/-- What both ParsePlan return. -/
def ParsePost (t : ByteArray) (w : World) (e : Ending) (w' : World) : Prop :=
  ∃ (r : PRes) (sa ra : Option Addr) (sc rc : Nat), ParseR t r ∧ e = .returned (.tuple #[.agg #[.slice sa r.S.length sc, .slice ra r.R.length rc, .int .i64 r.same, .int .i64 r.bytes], .int .i64 r.n, .int .i64 r.err]) ∧
    HoldsR w' sa 5 (r.S.map stepCells) ∧ HoldsR w' ra 2 (r.R.map refCells) ∧ Below w.heap.size w w'

/-- The result's box is filled. -/
theorem filled_is {w W : World} {b : Nat} {v0 v1 v2 v3 : Value} (hB : Below w.heap.size w W) (hb : BoxIs W b #[v0, v1, v2, v3] planTy) (hz : w.heap.size ≤ b) (u0 u1 u2 u3 : Value) :
    BoxIs ((((W.setCell ⟨b, 0, none⟩ u0).setCell ⟨b, 1, none⟩ u1).setCell ⟨b, 2, none⟩ u2).setCell ⟨b, 3, none⟩ u3) b #[u0, u1, u2, u3] planTy ∧ Below w.heap.size w ((((W.setCell ⟨b, 0, none⟩ u0).setCell ⟨b, 1, none⟩ u1).setCell ⟨b, 2, none⟩ u2).setCell ⟨b, 3, none⟩ u3) ∧ ∀ k, k ≠ b → (((((W.setCell ⟨b, 0, none⟩ u0).setCell ⟨b, 1, none⟩ u1).setCell ⟨b, 2, none⟩ u2).setCell ⟨b, 3, none⟩ u3)).heap[k]? = W.heap[k]? := by
  refine ⟨(((hb.setAt 0 u0).setAt 1 u1).setAt 2 u2).setAt 3 u3, Below.setCell (Below.setCell (Below.setCell (Below.setCell hB hz _) hz _) hz _) hz _, fun k hk => ?_⟩
  rw [Below.heap_setCell _ _ _ _ (fun e => hk e), Below.heap_setCell _ _ _ _ (fun e => hk e), Below.heap_setCell _ _ _ _ (fun e => hk e), Below.heap_setCell _ _ _ _ (fun e => hk e)]
theorem OwnR.other {α : Type} {ty : TypeId} {n : Nat} {cells : α → List Value} {z b : Nat} {W W' : World} {a : Option Addr} {cap : Nat} {xs : List α} {vs : Array Value} {t : TypeId} (h : OwnR ty n cells z W a cap xs) (hb : BoxIs W b vs t) (hne : t ≠ ty) (hk : ∀ k, k ≠ b → W'.heap[k]? = W.heap[k]?) : OwnR ty n cells z W' a cap xs :=
  h.keep (fun k c fz _ hc => hk k (fun e => by
    subst e
    unfold BoxIs at hb
    rw [hc] at hb
    injection hb with hb
    injection hb with _ hb
    exact hne hb.symm))

theorem stepCells_len (s : PStep) : (stepCells s).length = 5 := rfl
theorem refCells_len (s : PRef) : (refCells s).length = 2 := rfl
theorem lines_get {t l : ByteArray} {i : Nat} (h : (Wh.pieces 10 t)[i]? = some l) : (linesOf t)[i]? = some l.data.toList := by unfold linesOf; simp [h]
theorem lines_len {t : ByteArray} (ht : t.size ≤ 1048576) : ∀ l ∈ linesOf t, l.length ≤ 2000000 := by
  intro l hl
  obtain ⟨x, hx, rfl⟩ := List.mem_map.1 hl
  have := Wh.pieces_size hx
  rw [← Lib.size_eq]
  omega
theorem PlanRun.zero {ls : List (List UInt8)} {S : List PStep} {R : List PRef} {a b : Int} (h : PlanRun ls 0 S R a b) : S = [] ∧ R = [] ∧ a = 0 ∧ b = 0 := by
  unfold PlanRun at h
  rw [List.take_zero] at h
  exact h
theorem planRun_zero (ls : List (List UInt8)) : PlanRun ls 0 [] [] 0 0 := by unfold PlanRun; simp

set_option maxHeartbeats 4000000 in
set_option maxRecDepth 100000 in
theorem refParse_any (t : ByteArray) (w : World) (hE : Env w) (hX : EnvX w) (hT : EnvT w) : Calls Tryz.prog 10 #[.string t] w (ParsePost t w) := by
  have HE := Lib.hid hE
  have HX := Lib.hid hX
  have HT := Lib.hid hT
  have HR0 := Lib.hid (BoxIs.new w #[.slice none 0 0, .slice none 0 0, .int .i64 0, .int .i64 0] planTy)
  have HRb := Lib.hid (bAlloc (Below.refl w.heap.size w) (.cells #[.slice none 0 0, .slice none 0 0, .int .i64 0, .int .i64 0] planTy))
  clear hE hX hT
  go_enter Tryz.func10, Tryz.ntmps10
  go_upto_region 1 with fail
  generalize w.alloc _ = w1 at *
  by_cases hbig : 1048576 < t.size
  · have hbg : (1048576 : Int) < (t.size : Int) := by omega
    have HPr : Hid (ParseR t (zeroR 0 8)) := Lib.hid (.inl ⟨hbig, rfl⟩)
    clear hbig
    have d0 := HR0.out.cell (j := 0) rfl
    have d1 := HR0.out.cell (j := 1) rfl
    have d2 := HR0.out.cell (j := 2) rfl
    have d3 := HR0.out.cell (j := 3) rfl
    have g0 := Lib.frozen_of_heap HR0.out 0
    have g1 := Lib.frozen_of_heap HR0.out 1
    have g2 := Lib.frozen_of_heap HR0.out 2
    have g3 := Lib.frozen_of_heap HR0.out 3
    have HFn := Lib.hid (filled_is HRb.out HR0.out (Nat.le_refl _) (.slice none 0 0) (.slice none 0 0) (.int .i64 0) (.int .i64 0))
    go_wp2_with fail
    clear d0 d1 d2 d3 g0 g1 g2 g3
    generalize (((World.setCell w1 _ _).setCell _ _).setCell _ _).setCell _ _ = wf at *
    have d0 := HFn.out.1.cell (j := 0) rfl
    have d1 := HFn.out.1.cell (j := 1) rfl
    have d2 := HFn.out.1.cell (j := 2) rfl
    have d3 := HFn.out.1.cell (j := 3) rfl
    refine bodyPost_ret (v := .tuple #[.agg #[.slice none 0 0, .slice none 0 0, .int .i64 0, .int .i64 0], .int .i64 0, .int .i64 8]) ?_ rfl ?_
    · simp [results, Tryz.f10]
      go_simp
    · exact ⟨zeroR 0 8, none, none, 0, 0, HPr.out, rfl, .inl rfl, .inl rfl, HFn.out.2.1⟩
  have hbg : ¬ (1048576 : Int) < (t.size : Int) := by omega
  have ht : t.size ≤ 1048576 := by omega
  have HP0 := Lib.hid (BoxIs.new w1 #[.slice none 0 0, .slice none 0 0, .int .i64 0, .int .i64 0] planTy)
  have HPb := Lib.hid (bAlloc (Below.refl w1.heap.size w1) (.cells #[.slice none 0 0, .slice none 0 0, .int .i64 0, .int .i64 0] planTy))
  have hw1 := HRb.out.size
  have hlt1 := HR0.out.lt
  clear hbig
  go_upto_region 4 with fail
  obtain ⟨p, hp⟩ : ∃ p, p = w1.heap.size := ⟨_, rfl⟩
  rw [← hp]
  rw [← hp] at HP0
  have hwp : w.heap.size < p := by omega
  clear hp
  generalize w1.alloc _ = w2 at *
  have HB2 : Hid (Below w.heap.size w w2) := Lib.hid (bTrans HRb.out HPb.out)
  have HSp := Lib.hid (split_one 10 t w2 (HE.out.under HB2.out) (by omega))
  have HRow := Lib.hid (BoxIs.new w2 ((Wh.pieces 10 t).map Value.string).toArray 9)
  have HRw := Lib.hid (bAlloc (Below.refl w2.heap.size w2) (.cells ((Wh.pieces 10 t).map Value.string).toArray 9))
  have hlt2 := HP0.out.lt
  go_upto_region 5 with (go_at_call 22; refine HSp.out.mono ?_; rintro e w3 ⟨rfl, hw3⟩; rw [← hw3] at HRow HRw; clear hw3)
  obtain ⟨q, hq⟩ : ∃ q, q = w2.heap.size := ⟨_, rfl⟩
  rw [← hq]
  rw [← hq] at HRow
  have hpq : p < q := by omega
  clear hq
  have HB3 : Hid (Below w.heap.size w w3) := Lib.hid (bTrans HB2.out HRw.out)
  have HR3 := Lib.hid (BoxIs.under HR0.out (bTrans HPb.out HRw.out))
  have HA3 : Hid (PlanAt w.heap.size w3 p [] [] 0 0) := Lib.hid ⟨by omega, none, 0, none, 0, BoxIs.under HP0.out HRw.out, OwnR.nil _ _ _ _ _, OwnR.nil _ _ _ _ _⟩
  clear HR0 HRb HP0 HPb HSp HRw HB2 hw1 hlt1 hlt2
  have hnp := Wh.pieces_pos 10 t
  have hnl := Wh.pieces_le 10 t
  have HLs : Hid (∀ (i : Nat) (l : ByteArray), (Wh.pieces 10 t)[i]? = some l → (linesOf t)[i]? = some l.data.toList ∧ l.size ≤ 1048576) := Lib.hid (fun i l h => ⟨lines_get h, by have := Wh.pieces_size (List.mem_of_getElem? h); omega⟩)
  obtain ⟨n, hn⟩ : ∃ n, (Wh.pieces 10 t).length = n := ⟨_, rfl⟩
  have HN := Lib.hid hn
  rw [hn] at hnp hnl
  simp only [hn]
  clear hn
  have HPs : Hid (∀ r, LinesR (linesOf t) (n - 1) ((linesOf t).getD (n - 1) []) r → ParseR t r) := Lib.hid (fun r h => .inr ⟨ht, n - 1, _, by rw [HN.out]; omega, by
    have hl : n - 1 < (linesOf t).length := by unfold linesOf; rw [List.length_map, HN.out]; omega
    rw [List.getD_eq_getElem?_getD, List.getElem?_eq_getElem hl]
    rfl, h⟩)
  have HLl : Hid (∀ l : ByteArray, (Wh.pieces 10 t)[n - 1]? = some l → (linesOf t).getD (n - 1) [] = l.data.toList) := Lib.hid (fun l h => by
    rw [List.getD_eq_getElem?_getD, (HLs.out _ _ h).1]
    rfl)
  have HGo := Lib.hid (lines_len ht)
  go_wp2_with fail
  go_loopg [18] n (fun g s18 wx => ∃ (i : Nat) (S : List PStep) (R : List PRef) (a b : Int), i + g = n ∧ i + 1 ≤ n ∧ s18 = .int .i64 i ∧ Hid (PlanAt w.heap.size wx p S R a b) ∧ Hid (PKept w.heap.size p w3 wx) ∧ Hid (PlanRun (linesOf t) i S R a b))
  case atStart => exact ⟨0, [], [], 0, 0, by omega, by omega, by go_num, HA3, Lib.hid (PKept.refl _ _ _), Lib.hid (planRun_zero _)⟩
  case round =>
    obtain ⟨i, S, R, a, b, hi, hi1, rfl, HAt, HKp, HRun⟩ := hrel
    by_cases hlt : i < n
    · obtain ⟨l, hl⟩ : ∃ l, (Wh.pieces 10 t)[i]? = some l := ⟨_, List.getElem?_eq_getElem (by rw [HN.out]; exact hlt)⟩
      have HLi := Lib.hid (HLs.out i l hl)
      have HRx : Hid (BoxIs wr q ((Wh.pieces 10 t).map Value.string).toArray 9) := Lib.hid (BoxIs.pkept HRow.out HKp.out (by omega) (by decide) (by decide))
      have x0 : wr.cell? ⟨q, i, none⟩ = some (.string l) := HRx.out.cell (by simp [hl])
      have HBw : Hid (Below w.heap.size w wr) := Lib.hid (HB3.out.trans HKp.out.below)
      have HBox : Hid (BoxIs wr w.heap.size #[.slice none 0 0, .slice none 0 0, .int .i64 0, .int .i64 0] planTy) := Lib.hid (BoxIs.pkept HR3.out HKp.out (by omega) (by decide) (by decide))
      by_cases hlast : i = n - 1
      · have hl1 : ((i : Int) == (n : Int) - 1) = true := by
          have : (i : Int) = (n : Int) - 1 := by omega
          simpa using this
        have HLz : Hid ((linesOf t).getD (n - 1) [] = l.data.toList) := Lib.hid (HLl.out l (by rw [← hlast]; exact hl))
        have hle : l.toList.isEmpty = l.data.toList.isEmpty := by rw [Lib.toList_data]
        have hcase : l.data.toList.isEmpty = false ∨ (l.data.toList.isEmpty = true ∧ i = 0) ∨ (l.data.toList.isEmpty = true ∧ i ≠ 0) := by
          cases l.data.toList.isEmpty
          · exact .inl rfl
          · by_cases h : i = 0
            · exact .inr (.inl ⟨rfl, h⟩)
            · exact .inr (.inr ⟨rfl, h⟩)
        have HLa := Lib.hid hlast
        clear hlast
        rcases hcase with hem | ⟨hem, rfl⟩ | ⟨hem, hi0⟩
        · have HPr : Hid (ParseR t (zeroR i 9)) := Lib.hid (HPs.out _ (.inr ⟨S, R, a, b, HLa.out ▸ HRun.out, .inl ⟨.inl (by
            rw [HLz.out]
            intro h
            rw [h] at hem
            cases hem), by rw [← HLa.out]⟩⟩))
          rw [hem] at hle
          have d0 := HBox.out.cell (j := 0) rfl
          have d1 := HBox.out.cell (j := 1) rfl
          have d2 := HBox.out.cell (j := 2) rfl
          have d3 := HBox.out.cell (j := 3) rfl
          have g0 := Lib.frozen_of_heap HBox.out 0
          have g1 := Lib.frozen_of_heap HBox.out 1
          have g2 := Lib.frozen_of_heap HBox.out 2
          have g3 := Lib.frozen_of_heap HBox.out 3
          have HFn := Lib.hid (filled_is HBw.out HBox.out (Nat.le_refl _) (.slice none 0 0) (.slice none 0 0) (.int .i64 0) (.int .i64 0))
          go_wp2_with fail
          clear d0 d1 d2 d3 g0 g1 g2 g3
          generalize (((World.setCell wr _ _).setCell _ _).setCell _ _).setCell _ _ = wf at *
          have d0 := HFn.out.1.cell (j := 0) rfl
          have d1 := HFn.out.1.cell (j := 1) rfl
          have d2 := HFn.out.1.cell (j := 2) rfl
          have d3 := HFn.out.1.cell (j := 3) rfl
          refine bodyPost_ret (v := .tuple #[.agg #[.slice none 0 0, .slice none 0 0, .int .i64 0, .int .i64 0], .int .i64 i, .int .i64 9]) ?_ rfl ?_
          · simp [results, Tryz.f10]
            go_simp
          · exact ⟨zeroR i 9, none, none, 0, 0, HPr.out, rfl, .inl rfl, .inl rfl, HFn.out.2.1⟩
        · have HPr : Hid (ParseR t (zeroR 0 9)) := Lib.hid (HPs.out _ (.inr ⟨S, R, a, b, HLa.out ▸ HRun.out, .inl ⟨.inr HLa.out.symm, by rw [← HLa.out]; rfl⟩⟩))
          rw [hem] at hle
          have d0 := HBox.out.cell (j := 0) rfl
          have d1 := HBox.out.cell (j := 1) rfl
          have d2 := HBox.out.cell (j := 2) rfl
          have d3 := HBox.out.cell (j := 3) rfl
          have g0 := Lib.frozen_of_heap HBox.out 0
          have g1 := Lib.frozen_of_heap HBox.out 1
          have g2 := Lib.frozen_of_heap HBox.out 2
          have g3 := Lib.frozen_of_heap HBox.out 3
          have HFn := Lib.hid (filled_is HBw.out HBox.out (Nat.le_refl _) (.slice none 0 0) (.slice none 0 0) (.int .i64 0) (.int .i64 0))
          go_wp2_with fail
          clear d0 d1 d2 d3 g0 g1 g2 g3
          generalize (((World.setCell wr _ _).setCell _ _).setCell _ _).setCell _ _ = wf at *
          have d0 := HFn.out.1.cell (j := 0) rfl
          have d1 := HFn.out.1.cell (j := 1) rfl
          have d2 := HFn.out.1.cell (j := 2) rfl
          have d3 := HFn.out.1.cell (j := 3) rfl
          refine bodyPost_ret (v := .tuple #[.agg #[.slice none 0 0, .slice none 0 0, .int .i64 0, .int .i64 0], .int .i64 0, .int .i64 9]) ?_ rfl ?_
          · simp [results, Tryz.f10]
            go_simp
          · exact ⟨zeroR 0 9, none, none, 0, 0, HPr.out, rfl, .inl rfl, .inl rfl, HFn.out.2.1⟩
        · have hi0' : ¬ (i : Int) = 0 := by omega
          have HLn : Hid ((linesOf t).getD (n - 1) [] = []) := Lib.hid (by
            rw [HLz.out]
            exact List.isEmpty_iff.1 hem)
          have HPl : Hid (∀ r, (checkV S R a b ≠ 0 ∧ r = zeroR 0 (checkV S R a b) ∨ checkV S R a b = 0 ∧ r = ⟨S, R, a, b, 0, 0⟩) → ParseR t r) := Lib.hid (fun r h => HPs.out _ (.inr ⟨S, R, a, b, HLa.out ▸ HRun.out, .inr ⟨⟨HLn.out, by rw [← HLa.out]; exact hi0⟩, h⟩⟩))
          rw [hem] at hle
          obtain ⟨good1, good2, good3, good4, good5⟩ := HRun.out.good HGo.out
          obtain ⟨_, sa, sc, ra, rc, hbx, hS, hR⟩ := HAt.out
          have HCk := Lib.hid (refCheckPlan_any S R a b sa ra sc rc wr (HE.out.under HBw.out) good1 good2 (by omega) (hS.holds (by decide) stepCells_len) (hR.holds (by decide) refCells_len) good5 good4)
          have HSo := Lib.hid hS
          have HRo := Lib.hid hR
          have HBx := Lib.hid hbx
          clear good1 good2 good3 good4 good5 hS hR hbx
          generalize checkV S R a b = V at *
          have e0 := HBx.out.cell (j := 0) rfl
          have e1 := HBx.out.cell (j := 1) rfl
          have e2 := HBx.out.cell (j := 2) rfl
          have e3 := HBx.out.cell (j := 3) rfl
          go_upto_region 15 with (go_at_call 28; refine HCk.out.mono ?_; rintro e w5 ⟨rfl, hb5⟩; have HB5 := Lib.hid hb5; clear hb5)
          clear e0 e1 e2 e3
          have HBw5 : Hid (Below w.heap.size w w5) := Lib.hid (bTrans HBw.out HB5.out)
          have HBox5 := Lib.hid (BoxIs.under HBox.out HB5.out)
          by_cases hv : V = 0
          · subst hv
            have HPr : Hid (ParseR t ⟨S, R, a, b, 0, 0⟩) := Lib.hid (HPl.out _ (.inr ⟨rfl, rfl⟩))
            have HBx5 := Lib.hid (BoxIs.under HBx.out HB5.out)
            have e0 := HBx5.out.cell (j := 0) rfl
            have e1 := HBx5.out.cell (j := 1) rfl
            have e2 := HBx5.out.cell (j := 2) rfl
            have e3 := HBx5.out.cell (j := 3) rfl
            have d0 := HBox5.out.cell (j := 0) rfl
            have d1 := HBox5.out.cell (j := 1) rfl
            have d2 := HBox5.out.cell (j := 2) rfl
            have d3 := HBox5.out.cell (j := 3) rfl
            have g0 := Lib.frozen_of_heap HBox5.out 0
            have g1 := Lib.frozen_of_heap HBox5.out 1
            have g2 := Lib.frozen_of_heap HBox5.out 2
            have g3 := Lib.frozen_of_heap HBox5.out 3
            have HFn := Lib.hid (filled_is HBw5.out HBox5.out (Nat.le_refl _) (.slice sa S.length sc) (.slice ra R.length rc) (.int .i64 a) (.int .i64 b))
            go_wp2_with fail
            clear d0 d1 d2 d3 g0 g1 g2 g3
            generalize (((World.setCell w5 _ _).setCell _ _).setCell _ _).setCell _ _ = wf at *
            have d0 := HFn.out.1.cell (j := 0) rfl
            have d1 := HFn.out.1.cell (j := 1) rfl
            have d2 := HFn.out.1.cell (j := 2) rfl
            have d3 := HFn.out.1.cell (j := 3) rfl
            refine bodyPost_ret (v := .tuple #[.agg #[.slice sa S.length sc, .slice ra R.length rc, .int .i64 a, .int .i64 b], .int .i64 0, .int .i64 0]) ?_ rfl ?_
            · simp [results, Tryz.f10]
              go_simp
            · exact ⟨⟨S, R, a, b, 0, 0⟩, sa, ra, sc, rc, HPr.out, rfl, ((HSo.out.keep (fun k _ _ _ hk => HB5.out.block k (Array.getElem?_eq_some_iff.1 hk).1)).other HBox5.out (by decide) HFn.out.2.2).holds (by decide) stepCells_len, ((HRo.out.keep (fun k _ _ _ hk => HB5.out.block k (Array.getElem?_eq_some_iff.1 hk).1)).other HBox5.out (by decide) HFn.out.2.2).holds (by decide) refCells_len, HFn.out.2.1⟩
          · have hv2 : (V != 0) = true := by simpa using hv
            have HPr : Hid (ParseR t (zeroR 0 V)) := Lib.hid (HPl.out _ (.inl ⟨hv, rfl⟩))
            clear hv
            have d0 := HBox5.out.cell (j := 0) rfl
            have d1 := HBox5.out.cell (j := 1) rfl
            have d2 := HBox5.out.cell (j := 2) rfl
            have d3 := HBox5.out.cell (j := 3) rfl
            have g0 := Lib.frozen_of_heap HBox5.out 0
            have g1 := Lib.frozen_of_heap HBox5.out 1
            have g2 := Lib.frozen_of_heap HBox5.out 2
            have g3 := Lib.frozen_of_heap HBox5.out 3
            have HFn := Lib.hid (filled_is HBw5.out HBox5.out (Nat.le_refl _) (.slice none 0 0) (.slice none 0 0) (.int .i64 0) (.int .i64 0))
            go_wp2_with fail
            clear d0 d1 d2 d3 g0 g1 g2 g3
            generalize (((World.setCell w5 _ _).setCell _ _).setCell _ _).setCell _ _ = wf at *
            have d0 := HFn.out.1.cell (j := 0) rfl
            have d1 := HFn.out.1.cell (j := 1) rfl
            have d2 := HFn.out.1.cell (j := 2) rfl
            have d3 := HFn.out.1.cell (j := 3) rfl
            refine bodyPost_ret (v := .tuple #[.agg #[.slice none 0 0, .slice none 0 0, .int .i64 0, .int .i64 0], .int .i64 0, .int .i64 V]) ?_ rfl ?_
            · simp [results, Tryz.f10]
              go_simp
            · exact ⟨zeroR 0 V, none, none, 0, 0, HPr.out, rfl, .inl rfl, .inl rfl, HFn.out.2.1⟩
      · have hl1 : ((i : Int) == (n : Int) - 1) = false := by
          have : ¬ (i : Int) = (n : Int) - 1 := by omega
          simpa using this
        have hin : i < n - 1 := by omega
        have hlz : l.size ≤ 2000000 := by
          have := HLi.out.2
          omega
        by_cases hi0 : i = 0
        · subst hi0
          obtain ⟨rfl, rfl, rfl, rfl⟩ := HRun.out.zero
          have HPh := Lib.hid (planHead_any w p [] [] 0 0 l wr HX.out HT.out HBw.out HAt.out hlz)
          go_upto_region 11 with fail
          go_upto_region 12 with (go_at_call 27; (with_reducible refine HPh.out.mono ?_); rintro e w5 ⟨ok, a5, b5, rfl, hp5, hk5, h1, h2⟩; have HP5 := Lib.hid hp5; have HK5 := Lib.hid (HKp.out.trans hk5); cases ok)
          · have HBw5 : Hid (Below w.heap.size w w5) := Lib.hid (HB3.out.trans HK5.out.below)
            have HBox5 : Hid (BoxIs w5 w.heap.size #[.slice none 0 0, .slice none 0 0, .int .i64 0, .int .i64 0] planTy) := Lib.hid (BoxIs.pkept HR3.out HK5.out (by omega) (by decide) (by decide))
            have HPr : Hid (ParseR t (zeroR 0 9)) := Lib.hid (HPs.out _ (.inl ⟨0, [], [], 0, 0, hin, HRun.out, ⟨_, HLi.out.1, .inl ⟨rfl, h2 (by simp)⟩⟩, rfl⟩))
            clear hp5 hk5 h1 h2
            have d0 := HBox5.out.cell (j := 0) rfl
            have d1 := HBox5.out.cell (j := 1) rfl
            have d2 := HBox5.out.cell (j := 2) rfl
            have d3 := HBox5.out.cell (j := 3) rfl
            have g0 := Lib.frozen_of_heap HBox5.out 0
            have g1 := Lib.frozen_of_heap HBox5.out 1
            have g2 := Lib.frozen_of_heap HBox5.out 2
            have g3 := Lib.frozen_of_heap HBox5.out 3
            have HFn := Lib.hid (filled_is HBw5.out HBox5.out (Nat.le_refl _) (.slice none 0 0) (.slice none 0 0) (.int .i64 0) (.int .i64 0))
            go_wp2_with fail
            clear d0 d1 d2 d3 g0 g1 g2 g3
            generalize (((World.setCell w5 _ _).setCell _ _).setCell _ _).setCell _ _ = wf at *
            have d0 := HFn.out.1.cell (j := 0) rfl
            have d1 := HFn.out.1.cell (j := 1) rfl
            have d2 := HFn.out.1.cell (j := 2) rfl
            have d3 := HFn.out.1.cell (j := 3) rfl
            refine bodyPost_ret (v := .tuple #[.agg #[.slice none 0 0, .slice none 0 0, .int .i64 0, .int .i64 0], .int .i64 0, .int .i64 9]) ?_ rfl ?_
            · simp [results, Tryz.f10]
              go_simp
            · exact ⟨zeroR 0 9, none, none, 0, 0, HPr.out, rfl, .inl rfl, .inl rfl, HFn.out.2.1⟩
          · have HRun2 : Hid (PlanRun (linesOf t) 1 [] [] a5 b5) := Lib.hid (PlanRun.head HLi.out.1 (h1 (by simp)))
            clear hp5 hk5 h1 h2
            go_roundg (n - 1)
            case measure => omega
            case rel => exact ⟨1, [], [], a5, b5, by omega, by omega, by go_num, HP5, HK5, HRun2⟩
        · have hi0' : ((i : Int) == 0) = false := by
            have : ¬ (i : Int) = 0 := by omega
            simpa using this
          obtain ⟨g, rfl⟩ : ∃ g, gk = g + 1 := ⟨gk - 1, by omega⟩
          have hgood := (HRun.out.good HGo.out).2.2.1
          have HPh := Lib.hid (planLine_any w p S R a b l wr HX.out HT.out HBw.out HAt.out hlz (by omega))
          go_upto_region 11 with fail
          go_upto_region 12 with (go_at_call 27; (with_reducible refine HPh.out.mono ?_); rintro e w5 ⟨ok, S5, R5, rfl, hp5, hk5, hsz5, hst⟩; have HP5 := Lib.hid hp5; have HK5 := Lib.hid (HKp.out.trans hk5); have HSt := Lib.hid hst; clear hp5 hk5 hsz5 hst; cases ok)
          · have HBw5 : Hid (Below w.heap.size w w5) := Lib.hid (HB3.out.trans HK5.out.below)
            have HBox5 : Hid (BoxIs w5 w.heap.size #[.slice none 0 0, .slice none 0 0, .int .i64 0, .int .i64 0] planTy) := Lib.hid (BoxIs.pkept HR3.out HK5.out (by omega) (by decide) (by decide))
            have HPr : Hid (ParseR t (zeroR i 9)) := Lib.hid (HPs.out _ (.inl ⟨i, S, R, a, b, hin, HRun.out, ⟨_, HLi.out.1, .inr ⟨hi0, HSt.out.bad_any⟩⟩, rfl⟩))
            have d0 := HBox5.out.cell (j := 0) rfl
            have d1 := HBox5.out.cell (j := 1) rfl
            have d2 := HBox5.out.cell (j := 2) rfl
            have d3 := HBox5.out.cell (j := 3) rfl
            have g0 := Lib.frozen_of_heap HBox5.out 0
            have g1 := Lib.frozen_of_heap HBox5.out 1
            have g2 := Lib.frozen_of_heap HBox5.out 2
            have g3 := Lib.frozen_of_heap HBox5.out 3
            have HFn := Lib.hid (filled_is HBw5.out HBox5.out (Nat.le_refl _) (.slice none 0 0) (.slice none 0 0) (.int .i64 0) (.int .i64 0))
            go_wp2_with fail
            clear d0 d1 d2 d3 g0 g1 g2 g3
            generalize (((World.setCell w5 _ _).setCell _ _).setCell _ _).setCell _ _ = wf at *
            have d0 := HFn.out.1.cell (j := 0) rfl
            have d1 := HFn.out.1.cell (j := 1) rfl
            have d2 := HFn.out.1.cell (j := 2) rfl
            have d3 := HFn.out.1.cell (j := 3) rfl
            refine bodyPost_ret (v := .tuple #[.agg #[.slice none 0 0, .slice none 0 0, .int .i64 0, .int .i64 0], .int .i64 i, .int .i64 9]) ?_ rfl ?_
            · simp [results, Tryz.f10]
              go_simp
            · exact ⟨zeroR i 9, none, none, 0, 0, HPr.out, rfl, .inl rfl, .inl rfl, HFn.out.2.1⟩
          · have HRun2 : Hid (PlanRun (linesOf t) (i + 1) S5 R5 a b) := Lib.hid (HRun.out.line hi0 HLi.out.1 HSt.out)
            go_roundg g
            case measure => omega
            case rel => exact ⟨i + 1, S5, R5, a, b, by omega, by omega, by go_num, HP5, HK5, HRun2⟩
    · exfalso
      omega
end Go.Proofs.YtfenmeacimfiaaaGreatDoor
