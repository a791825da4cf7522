/-
  The reference's planLine.
-/
import Derived.Test.YtfenmeacimfiaaaGreatDoorPw14
namespace Go.Proofs.YtfenmeacimfiaaaGreatDoor
open Go.RowKit

theorem planLine_any (w0 : World) (p : Nat) (S : List PStep) (R : List PRef) (sm by' : Int) (line : ByteArray) (w : World) (hX : EnvX w0) (hT : EnvT w0) (hB : Below w0.heap.size w0 w) (hP : PlanAt w0.heap.size w p S R sm by') (hl : line.size ≤ 2000000) (hn : S.length + R.length ≤ 1500000) :
    Calls Tryz.prog 27 #[.pointer (some ⟨p, 0, none⟩), .string line, .bool false] w (LinePost w0.heap.size p S R sm by' line.data.toList w) := by
  by_cases hW : ∃ ws, ws ≠ [] ∧ (∀ x ∈ ws, Wh.isW x) ∧ line.data.toList = Wh.lineW ws
  · obtain ⟨L, hne, hw, hlw⟩ := hW
    obtain ⟨x, r, hr⟩ : ∃ x r, L = x :: r := by
      cases L with
      | nil => exact absurd rfl hne
      | cons x r => exact ⟨x, r, rfl⟩
    by_cases hx : x = Wh.refusedW
    · rw [hx] at hr
      by_cases h3 : r.length = 2
      · obtain ⟨u, v, huv⟩ : ∃ u v, r = [u, v] := by
          match r, h3 with
          | [u, v], _ => exact ⟨u, v, rfl⟩
        exact planLine_ref w0 p S R sm by' line w hX hT hB hP hl hn L hw hne hlw u v (by rw [hr, huv])
      · exact planLine_short w0 p S R sm by' line w hX hT hB hP hl hn L hw hne hlw r hr h3
    · by_cases hR : R = []
      · by_cases hk : ∃ k, 1 ≤ k ∧ k ≤ 10 ∧ x = Wh.stepW.getD k []
        · obtain ⟨k, k1, k2, hxk⟩ := hk
          rw [hxk] at hr
          by_cases e2 : k = 2
          · subst e2; exact planLine_k2 w0 p S R sm by' line w hX hT hB hP hl hn L hw hne hlw r hr hR
          by_cases e3 : k = 3
          · subst e3; exact planLine_k3 w0 p S R sm by' line w hX hT hB hP hl hn L hw hne hlw r hr hR
          by_cases e4 : k = 4
          · subst e4; exact planLine_k4 w0 p S R sm by' line w hX hT hB hP hl hn L hw hne hlw r hr hR
          by_cases e5 : k = 5
          · subst e5; exact planLine_k5 w0 p S R sm by' line w hX hT hB hP hl hn L hw hne hlw r hr hR
          by_cases e6 : k = 6
          · subst e6; exact planLine_k6 w0 p S R sm by' line w hX hT hB hP hl hn L hw hne hlw r hr hR
          exact planLine_kx k k1 k2 (by simp [e2, e3]) (by simp [e4, e5]) (by simp [e6]) w0 p S R sm by' line w hX hT hB hP hl hn L hw hne hlw r hr hR
        · exact planLine_odd w0 p S R sm by' line w hX hT hB hP hl hn L hw hne hlw x r hr hx hR (fun k k1 k2 e => hk ⟨k, k1, k2, e⟩)
      · exact planLine_late w0 p S R sm by' line w hX hT hB hP hl hn L hw hne hlw x r hr hx hR
  · exact planLine_none w0 p S R sm by' line w hX hT hB hP hl hn hW

/-- What the first line says. -/
def HeadL (line : List UInt8) (a b : Int) : Prop := Wh.inI a ∧ Wh.inI b ∧ line = Wh.lineW (Wh.headWordsL a b)
/-- What planLine returns at the first line. -/
def HeadPost (z p : Nat) (S : List PStep) (R : List PRef) (line : List UInt8) (w : World) (e : Ending) (w' : World) : Prop :=
  ∃ (ok : Bool) (a b : Int), e = .returned (.bool ok) ∧ PlanAt z w' p S R a b ∧ PKept z p w w' ∧ (ok = true → HeadL line a b) ∧ (ok = false → ∀ u v, ¬ HeadL line u v)
theorem planAt_set {z p j : Nat} {W : World} {S : List PStep} {R : List PRef} {a b : Int} (h : PlanAt z W p S R a b) (v a' b' : Int) (hj : (j = 2 ∧ a' = v ∧ b' = b) ∨ (j = 3 ∧ a' = a ∧ b' = v)) : PlanAt z (W.setCell ⟨p, j, none⟩ (.int .i64 v)) p S R a' b' ∧ PKept z p W (W.setCell ⟨p, j, none⟩ (.int .i64 v)) := by
  obtain ⟨h0, sa, sc, ra, rc, h1, h2, h3⟩ := h
  have hset : ∀ k, k ≠ p → (W.setCell ⟨p, j, none⟩ (.int .i64 v)).heap[k]? = W.heap[k]? := fun k hk => Below.heap_setCell _ _ _ _ (fun e => hk e)
  have hnp : ∀ (k : Nat) (c : Array Value) (ty : TypeId) (fz : Nat × Nat), W.heap[k]? = some (.cells c ty fz) → ty ≠ planTy → k ≠ p := fun k c ty fz hk hne e => by
    subst e
    unfold BoxIs at h1
    rw [hk] at h1
    injection h1 with h1
    injection h1 with _ h1
    exact hne h1
  refine ⟨⟨h0, sa, sc, ra, rc, ?_, h2.keep (fun k c fz _ hk => hset k (hnp k c _ fz hk (by decide))), h3.keep (fun k c fz _ hk => hset k (hnp k c _ fz hk (by decide)))⟩, ⟨Below.setCell (Below.refl _ _) h0 _, fun k ob hk hne _ _ => (hset k hne).trans hk⟩⟩
  rcases hj with ⟨rfl, rfl, rfl⟩ | ⟨rfl, rfl, rfl⟩
  · exact BoxIs.setAt h1 2 _
  · exact BoxIs.setAt h1 3 _

set_option maxHeartbeats 4000000 in
set_option maxRecDepth 100000 in
theorem planHead_any (w0 : World) (p : Nat) (S : List PStep) (R : List PRef) (sm by' : Int) (line : ByteArray) (w : World) (hX : EnvX w0) (hT : EnvT w0) (hB : Below w0.heap.size w0 w) (hP : PlanAt w0.heap.size w p S R sm by') (hl : line.size ≤ 2000000) :
    Calls Tryz.prog 27 #[.pointer (some ⟨p, 0, none⟩), .string line, .bool true] w (HeadPost w0.heap.size p S R line.data.toList w) := by
  have HPW := Lib.hid (pWords_any line w hl)
  have HP0 := Lib.hid hP
  have hzz := hB.size
  have hpl : p < w.heap.size := by
    obtain ⟨_, sa, sc, ra, rc, h1, _⟩ := hP
    exact h1.lt
  have HXX := Lib.hid (hX.under hB)
  have HTT := Lib.hid (hT.under hB)
  have HX0 := Lib.hid hX
  have HT0 := Lib.hid hT
  have HB0 := Lib.hid hB
  clear hP hB hX hT
  go_enter Tryz.func27, Tryz.ntmps27
  go_upto_region 2 with (go_at_call 77; refine HPW.out.mono ?_; rintro e w2 hpw; rcases hpw with ⟨rfl, hb1, hno⟩ | ⟨ws, a, cap, rfl, hO, hne1, hws, hlw1⟩)
  · have HB2 := Lib.hid hb1
    have HNo : Hid (∀ u v, ¬ HeadL line.data.toList u v) := Lib.hid (fun u v h => hno ⟨_, by simp [Wh.headWordsL], Wh.headWordsL_isW u v, h.2.2⟩)
    clear hb1 hno
    go_wp2_with fail
    go_ret
    exact ⟨false, sm, by', rfl, HP0.out.under HB2.out, PKept.of HB2.out hzz, fun h => (by cases h), fun _ => HNo.out⟩
  obtain ⟨g0, rfl, hg0, hg1, hcells⟩ := ownS_at hO hne1
  have HB2 := Lib.hid hO.below
  have HCl := Lib.hid hcells
  have HWs := Lib.hid (And.intro hws hlw1)
  have HHd : Hid (∀ u v, HeadL line.data.toList u v → ws.map (·.data.toList) = Wh.headWordsL u v) := Lib.hid (fun u v h => Wh.lineW_inj hws (Wh.headWordsL_isW u v) (hlw1.symm.trans h.2.2))
  clear hO hws hlw1 hcells
  by_cases h3 : ws.length = 3
  rotate_left 1
  · have h3' : ¬ (ws.length : Int) = 3 := by omega
    have HNo : Hid (∀ u v, ¬ HeadL line.data.toList u v) := Lib.hid (fun u v h => by
      have := congrArg List.length (HHd.out u v h)
      simp [Wh.headWordsL] at this
      exact h3 this)
    generalize ws.length = nl at *
    go_wp2_with fail
    go_ret
    exact ⟨false, sm, by', rfl, HP0.out.under HB2.out, PKept.of HB2.out hzz, fun h => (by cases h), fun _ => HNo.out⟩
  obtain ⟨y0, y1, y2, rfl⟩ : ∃ y0 y1 y2, ws = [y0, y1, y2] := by
    match ws, h3 with
    | [y0, y1, y2], _ => exact ⟨y0, y1, y2, rfl⟩
  have x0 := HCl.out 0 y0 rfl
  cases hq : (y0.toList == [112, 108, 97, 110])
  · have HNo : Hid (∀ u v, ¬ HeadL line.data.toList u v) := Lib.hid (fun u v h => by
      have := HHd.out u v h
      injection this with this _
      rw [Lib.toList_data, show y0.data.toList = Wh.planW from this] at hq
      exact absurd hq (by decide))
    go_wp2_with fail
    go_ret
    exact ⟨false, sm, by', rfl, HP0.out.under HB2.out, PKept.of HB2.out hzz, fun h => (by cases h), fun _ => HNo.out⟩
  have HY0 : Hid (y0.data.toList = Wh.planW) := Lib.hid (by
    rw [Lib.toList_data] at hq
    exact beq_iff_eq.1 hq)
  have HSz : Hid (y1.size ≤ line.size ∧ y2.size ≤ line.size) := Lib.hid (by
    have h1 := mem_lineW (x := y1.data.toList) (L := [y0, y1, y2].map (·.data.toList)) (by simp)
    have h2 := mem_lineW (x := y2.data.toList) (L := [y0, y1, y2].map (·.data.toList)) (by simp)
    rw [← HWs.out.2] at h1 h2
    rw [Lib.size_eq, Lib.size_eq, Lib.size_eq]
    exact ⟨h1, h2⟩)
  have hsz1 := HSz.out.1
  have hsz2 := HSz.out.2
  have x1 := HCl.out 1 y1 rfl
  have HWh := Lib.hid (whole_any y1 w2 (HXX.out.under HB2.out) (HTT.out.under HB2.out) (by omega))
  have HP2 := Lib.hid (HP0.out.under HB2.out)
  go_upto_region 9 with (go_at_call 78; refine HWh.out.mono ?_; rintro e w3 ⟨v1, ok1, rfl, hb3, hn1, hn2⟩; have HN := Lib.hid (And.intro hn1 hn2); have HB3 := Lib.hid hb3; obtain ⟨_, sa, sc, ra, rc, hx⟩ := HP2.out.under hb3; have df := Lib.frozen_of_heap hx.1 2; have dc := hx.1.cell (j := 2) rfl; clear hb3 hn1 hn2 hx)
  clear x0 x1 dc df hq
  have HQ := Lib.hid (planAt_set (j := 2) (HP2.out.under HB3.out) v1 v1 by' (.inl ⟨rfl, rfl, rfl⟩))
  have HKp : Hid (PKept w0.heap.size p w2 (w3.setCell ⟨p, 2, none⟩ (.int .i64 v1))) := Lib.hid ((PKept.of HB3.out (by have := HB2.out.size; omega)).trans HQ.out.2)
  have x2 : (w3.setCell ⟨p, 2, none⟩ (.int .i64 v1)).cell? ⟨g0, 2, none⟩ = some (.string y2) := by
    have h1 := HCl.out 2 y2 rfl
    have h2 := (HB3.out.cell (cell_lt h1)).trans h1
    exact (World.cell?_of_block (w := w3) (Below.heap_setCell w3 ⟨p, 2, none⟩ _ g0 (fun e => by have e : g0 = p := e; omega))).trans h2
  have HP4 := Lib.hid HQ.out.1
  clear HQ
  generalize w3.setCell _ _ = w4 at *
  have HB4 : Hid (Below w0.heap.size w0 w4) := Lib.hid ((HB0.out.trans (HB2.out.mono hzz)).trans HKp.out.below)
  have HWh2 := Lib.hid (whole_any y2 w4 (HX0.out.under HB4.out) (HT0.out.under HB4.out) (by omega))
  go_upto_region 10 with (go_at_call 78; refine HWh2.out.mono ?_; rintro e w5 ⟨v2, ok2, rfl, hb5, hn1, hn2⟩; have HN2 := Lib.hid (And.intro hn1 hn2); have HB5 := Lib.hid hb5; obtain ⟨_, sa, sc, ra, rc, hx⟩ := HP4.out.under hb5; have df := Lib.frozen_of_heap hx.1 3; have dc := hx.1.cell (j := 3) rfl; clear hb5 hn1 hn2 hx)
  clear x2 dc df
  have HQ := Lib.hid (planAt_set (j := 3) (HP4.out.under HB5.out) v2 v1 v2 (.inr ⟨rfl, rfl, rfl⟩))
  have HK6 : Hid (PKept w0.heap.size p w (w5.setCell ⟨p, 3, none⟩ (.int .i64 v2))) := Lib.hid ((((PKept.of HB2.out hzz).trans HKp.out).trans (PKept.of HB5.out HB4.out.size)).trans HQ.out.2)
  have HP6 := Lib.hid HQ.out.1
  clear HQ
  generalize w5.setCell _ _ = w6 at *
  have HFin : Hid (∀ ok, ok = (ok1 && ok2) → (ok = true → HeadL line.data.toList v1 v2) ∧ (ok = false → ∀ u v, ¬ HeadL line.data.toList u v)) := Lib.hid (by
    rintro ok rfl
    constructor
    · intro h
      rw [Bool.and_eq_true] at h
      obtain ⟨k1, k2, k3⟩ := HN.out.1 h.1
      obtain ⟨k4, k5, k6⟩ := HN2.out.1 h.2
      refine ⟨⟨k2, k3⟩, ⟨k5, k6⟩, ?_⟩
      rw [HWs.out.2]
      simp only [List.map_cons, List.map_nil, HY0.out, k1, k4]
      rfl
    · intro h u v hh
      have k := HHd.out u v hh
      unfold Wh.headWordsL at k
      injection k with _ k
      injection k with k1 k
      injection k with k2 _
      have e1 := HN.out.2 u ⟨k1, hh.1⟩
      have e2 := HN2.out.2 v ⟨k2, hh.2.1⟩
      rw [e1, e2] at h
      cases h)
  cases ok1 <;> cases ok2
  all_goals
    go_wp2_with fail
    go_ret
    refine ⟨_, v1, v2, rfl, HP6.out, HK6.out, ?_⟩
    exact HFin.out _ rfl
end Go.Proofs.YtfenmeacimfiaaaGreatDoor
