/-
  A region that draws its order, walked along one order (as XSeq), whose last operation may change what the others read.
-/
import Derived.Test.YtfenmeacimfiaaaGreatDoorSeq
import Derived.StillTail
namespace Go.Proofs.YtfenmeacimfiaaaGreatDoor
open Go.RowKit

section
variable {P : Program} {ops : Array Oper} {Q : Exit → Act → World → Prop} {md : Region.Mode} {S : World → Prop}

/-- Every order; S is to hold behind each operation but number z. -/
def wpAnyT (P : Program) (md : Region.Mode) (ops : Array Oper) (Q : Exit → Act → World → Prop) (S : World → Prop) (z : Nat) : Nat → Array Bool → Act → World → Prop
  | 0, l, a, w => Region.ready md ops l = [] ∧ Q .normal a w
  | n + 1, l, a, w => (Region.ready md ops l = [] → Q .normal a w) ∧
    ∀ i ∈ Region.ready md ops l, wpOp P ops Q i (fun a' w' => (i ≠ z → S w') ∧ wpAnyT P md ops Q S z n (l.setIfInBounds i true) a' w') a w

theorem wpAnyT_any {z : Nat} : ∀ (n : Nat) (l : Array Bool) (a : Act) (w : World), wpAnyT P md ops Q S z n l a w → wpAny P md ops Q n l a w
  | 0, _, _, _, h => h
  | n + 1, _, _, _, h => ⟨h.1, fun i hi => wpOp_mono (fun a' w' h' => wpAnyT_any n _ a' w' h'.2) (h.2 i hi)⟩

/-- Number z waits for all others. -/
def waitsAll (md : Region.Mode) (ops : Array Oper) (z : Nat) : Bool := (List.range ops.size).all fun k => k == z || Region.waitsFor md ops z k
theorem alone_of {z : Nat} (h : waitsAll md ops z = true) {l : Array Bool} (hz : z ∈ Region.ready md ops l) {i : Nat} (hi : i ∈ Region.ready md ops l) : i = z := by
  by_cases e : i = z
  · exact e
  exfalso
  obtain ⟨h0, oi, hoi, _⟩ := mem_ready.1 hi
  obtain ⟨_, oz, hoz, hall⟩ := mem_ready.1 hz
  have hlt : i < ops.size := (Array.getElem?_eq_some_iff.1 hoi).1
  have hw := List.all_eq_true.1 h i (List.mem_range.2 hlt)
  simp only [Bool.or_eq_true, beq_iff_eq] at hw
  rcases hw with hw | hw
  · exact e hw
  obtain ⟨oj, hoj, ed, hed, hb, hon⟩ := Region.waitsFor_spec hw
  rw [hoz] at hoj
  cases hoj
  have h1 := hall ed hed hb
  rw [hon] at h1
  rcases Nat.lt_or_ge i l.size with h' | h'
  · simp [h'] at h0 h1
    rw [h0] at h1
    cases h1
  · simp [Array.getElem?_eq_none h'] at h1

theorem wpAnyT_first {z : Nat} (hz : waitsAll md ops z = true) {i : Nat} {oi : Oper} {v : Value} (hi : ops[i]? = some oi) (hsel : ∀ (j : Nat) (o : Oper) cs b, ops[j]? = some o → o.op ≠ .select cs b)
    (hQ : ∀ c a w, Q (.panic c) (a.put oi.dst v) w → Q (.panic c) a w) : ∀ (n : Nat) (l : Array Bool) (a : Act) (w : World),
      (∀ j oj, ops[j]? = some oj → j ≠ i → l.getD j true = false → (∀ e ∈ oj.after, Region.binds md e = true → e.on ≠ i) → oi.apart ops oj = true) →
      i ∈ Region.ready md ops l → YieldsIf P ops S oi v a → S w → wpAnyT P md ops Q S z n (l.setIfInBounds i true) (a.put oi.dst v) w → wpAnyT P md ops Q S z (n + 1) l a w
  | n, l, a, w, hfree, hr, hy, hS, H => by
    refine ⟨fun h => absurd hr (by rw [h]; simp), fun j hj => ?_⟩
    by_cases hji : j = i
    · subst hji
      exact hy.wpOp hi hS ⟨fun _ => hS, H⟩
    have hj' := ready_mono hj hji
    cases n with
    | zero => rw [H.1] at hj'; cases hj'
    | succ n =>
      obtain ⟨hjun, oj, hoj, hall⟩ := mem_ready.1 hj
      have hnot : ∀ e ∈ oj.after, Region.binds md e = true → e.on ≠ i := fun e he hb heq => by
        have h1 := hall e he hb
        have h0 := (mem_ready.1 hr).1
        rw [heq] at h1
        rcases Nat.lt_or_ge i l.size with h' | h'
        · simp [h'] at h0 h1
          rw [h0] at h1
          cases h1
        · simp [Array.getElem?_eq_none h'] at h1
      have hr' : i ∈ Region.ready md ops (l.setIfInBounds j true) := ready_mono hr (Ne.symm hji)
      have hjz : j ≠ z := fun e => hji (by subst e; exact (alone_of hz hj hr).symm)
      have hfree' : ∀ k ok, ops[k]? = some ok → k ≠ i → (l.setIfInBounds j true).getD k true = false → (∀ e ∈ ok.after, Region.binds md e = true → e.on ≠ i) → oi.apart ops ok = true := fun k ok hk hki hun hno => by
        refine hfree k ok hk hki ?_ hno
        by_cases hjk : j = k
        · subst hjk
          exact hjun
        · rwa [getD_set_ne true hjk] at hun
      have h2 := wpOp_putIf hoj (hfree j oj hoj hji hjun hnot) (fun cs b => hsel i oi cs b hi) (fun cs b => hsel j oj cs b hoj) hQ hy (H.2 j hj')
      refine wpOp_mono (fun a' w' h3 => ?_) h2
      have hS' := h3.2.1 hjz
      refine ⟨fun _ => hS', wpAnyT_first hz hi hsel hQ n _ a' w' hfree' hr' h3.1 hS' ?_⟩
      rw [Array.setIfInBounds_comm _ _ hji]
      exact h3.2.2

/-- The walk along the order; number z may change what S says. -/
def wpSeqT (P : Program) (ops : Array Oper) (Q : Exit → Act → World → Prop) (S : World → Prop) (z : Nat) : List (Nat × Bool) → Act → World → Prop
  | [], a, w => Q .normal a w
  | (i, true) :: r, a, w => ∃ o v, ops[i]? = some o ∧ YieldsIf P ops S o v a ∧ wpSeqT P ops Q S z r (a.put o.dst v) w
  | (i, false) :: r, a, w => wpOp P ops Q i (fun a' w' => (i ≠ z → S w') ∧ wpSeqT P ops Q S z r a' w') a w

theorem wpSeqT_sound {z : Nat} (hz : waitsAll md ops z = true) (hs : Region.noSelect ops = true) (hQ : ∀ c a a' w, Q (.panic c) a w → Q (.panic c) a' w) :
    ∀ (order : List (Nat × Bool)) (fuel : Nat) (listed : Array Bool) (a : Act) (w : World), order.length ≤ fuel → seqOk md ops order listed = true → (∀ x ∈ order.dropLast, x.1 ≠ z) → (order ≠ [] → S w) →
      wpSeqT P ops Q S z order a w → wpAnyT P md ops Q S z fuel listed a w := by
  intro order
  induction order with
  | nil =>
    intro fuel listed a w _ hok _ _ h
    have hr := List.isEmpty_iff.1 hok
    cases fuel with
    | zero => exact ⟨hr, h⟩
    | succ n => exact ⟨fun _ => h, by rw [hr]; simp⟩
  | cons x r ih =>
    obtain ⟨i, t⟩ := x
    intro fuel listed a w hf hok hne hS0 h
    have hS := hS0 (by simp)
    rcases fuel with _ | fuel
    · simp at hf
    have hf' : r.length ≤ fuel := by simpa using hf
    have hne' : ∀ x ∈ r.dropLast, x.1 ≠ z := fun x hx => by
      cases r with
      | nil => simp at hx
      | cons y r => exact hne x (by rw [List.dropLast_cons_of_ne_nil (by simp)]; exact List.mem_cons_of_mem _ hx)
    cases t with
    | true =>
      obtain ⟨o, v, ho, hy, hr⟩ := h
      unfold seqOk at hok
      simp only [Bool.and_eq_true] at hok
      exact wpAnyT_first hz ho (Region.noSelect_spec hs) (fun c a w hq => hQ c _ _ w hq) fuel listed a w (Region.free_spec ho hok.1.2) (by simpa using hok.1.1) hy hS (ih fuel _ _ _ hf' hok.2 hne' (fun _ => hS) hr)
    | false =>
      unfold seqOk at hok
      simp only [Bool.and_eq_true, beq_iff_eq] at hok
      refine ⟨(fun e => by rw [hok.1] at e; cases e), fun j hj => ?_⟩
      rw [hok.1] at hj
      obtain rfl : j = i := by simpa using hj
      refine wpOp_mono (fun a' w' hh => ⟨hh.1, ih fuel _ a' w' hf' hok.2 hne' (fun hr => hh.1 ?_) hh.2⟩) h
      exact hne (j, false) (by rw [List.dropLast_cons_of_ne_nil hr]; exact List.mem_cons_self)

/-- The beginning: the region is shown not to panic. -/
theorem wp_region_seqT (S : World → Prop) (z : Nat) (order : List (Nat × Bool)) {id : Nat} {a : Act} {w : World} (hm : P.follows .mixedOrders = true) (hs : Region.noSelect ops = true) (hz : waitsAll .any ops z = true)
    (hl : order.length ≤ ops.size) (hok : seqOk .any ops order (Array.replicate ops.size false) = true) (hne : (order.dropLast.all (fun x => x.1 != z)) = true) (hS : S w.drew)
    (h : ∀ OPS, Hid (OPS = ops) → wpSeqT P OPS (NoPanic Q) S z order a w.drew) : (Code.region id ops true).wp P Q a w :=
  wp_region_noPanic (wp_region_any hm (wpAnyT_any _ _ _ _ (wpSeqT_sound hz hs (fun _ _ _ _ h => h) order _ _ _ _ hl hok (fun x hx => by simpa using List.all_eq_true.1 hne x hx) (fun _ => hS) (h ops (Lib.hid rfl)))))

variable {r : List (Nat × Bool)} {z i : Nat} {o : Oper} {v : Value} {a : Act} {w : World}

theorem seqT_take (ho : ops[i]? = some o) (hw : Region.wanted o (yielded ops a.tmps) = true) (hv : ∀ w, S w → (execOp a.eval o).run P w = .ok (.value v) w)
    (h : wpSeqT P ops Q S z r (a.put o.dst v) w) : wpSeqT P ops Q S z ((i, true) :: r) a w := ⟨o, v, ho, .inl ⟨hw, hv⟩, h⟩
theorem seqT_do (ho : ops[i]? = some o) (hw : Region.wanted o (yielded ops a.tmps) = true)
    (h : ∀ K : Act → World → Prop, Shut (∀ a w, (i ≠ z → S w) → wpSeqT P ops Q S z r a w → K a w) → Oper.wp P o a w K Q) : wpSeqT P ops Q S z ((i, false) :: r) a w :=
  wpOp_step ho fun K hK => by
    rw [if_pos hw]
    exact h K (fun a w hS hr => hK a w ⟨hS, hr⟩)
theorem seqT_done (h : Q .normal a w) : wpSeqT P ops (NoPanic Q) S z [] a w := h
end
end Go.Proofs.YtfenmeacimfiaaaGreatDoor
