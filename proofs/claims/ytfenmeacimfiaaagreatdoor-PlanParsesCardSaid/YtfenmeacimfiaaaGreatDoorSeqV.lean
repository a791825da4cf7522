/-
  A region that draws its order, walked along one order, whose last operation waits for some only through others (a part of SeqU, for seats without Round; never import both).
-/
import Derived.Test.YtfenmeacimfiaaaGreatDoorSeqT
namespace Go.Proofs.YtfenmeacimfiaaaGreatDoor
open Go.RowKit

section
variable {P : Program} {ops : Array Oper} {Q : Exit → Act → World → Prop} {md : Region.Mode} {S : World → Prop}

/-- What has come up, with all that it waits for. -/
def Closed (md : Region.Mode) (ops : Array Oper) (l : Array Bool) : Prop := ∀ j k, l.getD j false = true → Region.waitsFor md ops j k = true → l.getD k false = true
theorem Closed.start (n : Nat) : Closed md ops (Array.replicate n false) := fun j k h _ => by
  rw [Array.getD_eq_getD_getElem?] at h
  by_cases hj : j < n
  · simp [hj] at h
  · simp [Array.getElem?_eq_none (show (Array.replicate n false).size ≤ j by simp; omega)] at h
theorem Closed.next {l : Array Bool} (h : Closed md ops l) {i : Nat} (hi : i ∈ Region.ready md ops l) : Closed md ops (l.setIfInBounds i true) := fun j k hj hw => by
  by_cases e : i = j
  · subst e
    obtain ⟨_, oi, hoi, hall⟩ := mem_ready.1 hi
    obtain ⟨oj, hoj, ed, hed, hb, hon⟩ := Region.waitsFor_spec hw
    rw [hoi] at hoj
    cases hoj
    rw [← hon]
    exact getD_set_true (hall ed hed hb)
  · rw [getD_set_ne false e] at hj
    exact getD_set_true (h j k hj hw)
/-- Number z waits for all others, for some by way of others. -/
def waitsAll2 (md : Region.Mode) (ops : Array Oper) (z : Nat) : Bool := (List.range ops.size).all fun k => k == z || Region.waitsFor md ops z k || (List.range ops.size).any fun j => Region.waitsFor md ops z j && Region.waitsFor md ops j k
theorem alone_of2 {z : Nat} (h : waitsAll2 md ops z = true) {l : Array Bool} (hc : Closed md ops l) (hz : z ∈ Region.ready md ops l) {i : Nat} (hi : i ∈ Region.ready md ops l) : i = z := by
  by_cases e : i = z
  · exact e
  exfalso
  obtain ⟨h0, oi, hoi, _⟩ := mem_ready.1 hi
  obtain ⟨_, oz, hoz, hall⟩ := mem_ready.1 hz
  have hlt : i < ops.size := (Array.getElem?_eq_some_iff.1 hoi).1
  have hw := List.all_eq_true.1 h i (List.mem_range.2 hlt)
  simp only [Bool.or_eq_true, beq_iff_eq] at hw
  have hno : l.getD i false ≠ true := fun h1 => by
    rcases Nat.lt_or_ge i l.size with h' | h'
    · simp [h'] at h0 h1
      rw [h0] at h1
      cases h1
    · simp [Array.getElem?_eq_none h'] at h1
  have key : ∀ k, Region.waitsFor md ops z k = true → l.getD k false = true := fun k hk => by
    obtain ⟨oj, hoj, ed, hed, hb, hon⟩ := Region.waitsFor_spec hk
    rw [hoz] at hoj
    cases hoj
    rw [← hon]
    exact hall ed hed hb
  rcases hw with (hw | hw) | hw
  · exact e hw
  · exact hno (key i hw)
  · obtain ⟨j, _, hj⟩ := List.any_eq_true.1 hw
    rw [Bool.and_eq_true] at hj
    exact hno (hc j i (key j hj.1) hj.2)

theorem wpAnyU_first {z : Nat} (hz : waitsAll2 md ops z = true) {i : Nat} {oi : Oper} {v : Value} (hi : ops[i]? = some oi) (hsel : ∀ (j : Nat) (o : Oper) cs b, ops[j]? = some o → o.op ≠ .select cs b)
    (hQ : ∀ c a w, Q (.panic c) (a.put oi.dst v) w → Q (.panic c) a w) : ∀ (n : Nat) (l : Array Bool) (a : Act) (w : World), Closed md ops l →
      (∀ j oj, ops[j]? = some oj → j ≠ i → l.getD j true = false → (∀ e ∈ oj.after, Region.binds md e = true → e.on ≠ i) → oi.apart ops oj = true) →
      i ∈ Region.ready md ops l → YieldsIf P ops S oi v a → S w → wpAnyT P md ops Q S z n (l.setIfInBounds i true) (a.put oi.dst v) w → wpAnyT P md ops Q S z (n + 1) l a w
  | n, l, a, w, hcl, hfree, hr, hy, hS, H => by
    refine ⟨fun h => absurd hr (by rw [h]; simp), fun j hj => ?_⟩
    by_cases hji : j = i
    · subst hji
      exact hy.wpOp hi hS ⟨fun _ => hS, H⟩
    have hj' := ready_mono hj hji
    cases n with
    | zero => rw [H.1] at hj'; cases hj'
    | succ n =>
      obtain ⟨hjun, oj, hoj, hall⟩ := mem_ready.1 hj
      have hnot : ∀ e ∈ oj.after, Region.binds md e = true → e.on ≠ i := fun e he hb heq => by
        have h1 := hall e he hb
        have h0 := (mem_ready.1 hr).1
        rw [heq] at h1
        rcases Nat.lt_or_ge i l.size with h' | h'
        · simp [h'] at h0 h1
          rw [h0] at h1
          cases h1
        · simp [Array.getElem?_eq_none h'] at h1
      have hr' : i ∈ Region.ready md ops (l.setIfInBounds j true) := ready_mono hr (Ne.symm hji)
      have hjz : j ≠ z := fun e => hji (by subst e; exact (alone_of2 hz hcl hj hr).symm)
      have hfree' : ∀ k ok, ops[k]? = some ok → k ≠ i → (l.setIfInBounds j true).getD k true = false → (∀ e ∈ ok.after, Region.binds md e = true → e.on ≠ i) → oi.apart ops ok = true := fun k ok hk hki hun hno => by
        refine hfree k ok hk hki ?_ hno
        by_cases hjk : j = k
        · subst hjk
          exact hjun
        · rwa [getD_set_ne true hjk] at hun
      have h2 := wpOp_putIf hoj (hfree j oj hoj hji hjun hnot) (fun cs b => hsel i oi cs b hi) (fun cs b => hsel j oj cs b hoj) hQ hy (H.2 j hj')
      refine wpOp_mono (fun a' w' h3 => ?_) h2
      have hS' := h3.2.1 hjz
      refine ⟨fun _ => hS', wpAnyU_first hz hi hsel hQ n _ a' w' (hcl.next hj) hfree' hr' h3.1 hS' ?_⟩
      rw [Array.setIfInBounds_comm _ _ hji]
      exact h3.2.2

theorem wpSeqU_sound {z : Nat} (hz : waitsAll2 md ops z = true) (hs : Region.noSelect ops = true) (hQ : ∀ c a a' w, Q (.panic c) a w → Q (.panic c) a' w) :
    ∀ (order : List (Nat × Bool)) (fuel : Nat) (listed : Array Bool) (a : Act) (w : World), Closed md ops listed → order.length ≤ fuel → seqOk md ops order listed = true → (∀ x ∈ order.dropLast, x.1 ≠ z) → (order ≠ [] → S w) →
      wpSeqT P ops Q S z order a w → wpAnyT P md ops Q S z fuel listed a w := by
  intro order
  induction order with
  | nil =>
    intro fuel listed a w _ _ hok _ _ h
    have hr := List.isEmpty_iff.1 hok
    cases fuel with
    | zero => exact ⟨hr, h⟩
    | succ n => exact ⟨fun _ => h, by rw [hr]; simp⟩
  | cons x r ih =>
    obtain ⟨i, t⟩ := x
    intro fuel listed a w hcl hf hok hne hS0 h
    have hS := hS0 (by simp)
    rcases fuel with _ | fuel
    · simp at hf
    have hf' : r.length ≤ fuel := by simpa using hf
    have hne' : ∀ x ∈ r.dropLast, x.1 ≠ z := fun x hx => by
      cases r with
      | nil => simp at hx
      | cons y r => exact hne x (by rw [List.dropLast_cons_of_ne_nil (by simp)]; exact List.mem_cons_of_mem _ hx)
    cases t with
    | true =>
      obtain ⟨o, v, ho, hy, hr⟩ := h
      unfold seqOk at hok
      simp only [Bool.and_eq_true] at hok
      have hrd : i ∈ Region.ready md ops listed := by simpa using hok.1.1
      exact wpAnyU_first hz ho (Region.noSelect_spec hs) (fun c a w hq => hQ c _ _ w hq) fuel listed a w hcl (Region.free_spec ho hok.1.2) hrd hy hS (ih fuel _ _ _ (hcl.next hrd) hf' hok.2 hne' (fun _ => hS) hr)
    | false =>
      unfold seqOk at hok
      simp only [Bool.and_eq_true, beq_iff_eq] at hok
      refine ⟨(fun e => by rw [hok.1] at e; cases e), fun j hj => ?_⟩
      have hrd := hj
      rw [hok.1] at hj
      obtain rfl : j = i := by simpa using hj
      refine wpOp_mono (fun a' w' hh => ⟨hh.1, ih fuel _ a' w' (hcl.next hrd) hf' hok.2 hne' (fun hr => hh.1 ?_) hh.2⟩) h
      exact hne (j, false) (by rw [List.dropLast_cons_of_ne_nil hr]; exact List.mem_cons_self)

/-- The beginning: the region is shown not to panic. -/
theorem wp_region_seqU (S : World → Prop) (z : Nat) (order : List (Nat × Bool)) {id : Nat} {a : Act} {w : World} (hm : P.follows .mixedOrders = true) (hs : Region.noSelect ops = true) (hz : waitsAll2 .any ops z = true)
    (hl : order.length ≤ ops.size) (hok : seqOk .any ops order (Array.replicate ops.size false) = true) (hne : (order.dropLast.all (fun x => x.1 != z)) = true) (hS : S w.drew)
    (h : ∀ OPS, Hid (OPS = ops) → wpSeqT P OPS (NoPanic Q) S z order a w.drew) : (Code.region id ops true).wp P Q a w :=
  wp_region_noPanic (wp_region_any hm (wpAnyT_any _ _ _ _ (wpSeqU_sound hz hs (fun _ _ _ _ h => h) order _ _ _ _ (Closed.start _) hl hok (fun x hx => by simpa using List.all_eq_true.1 hne x hx) (fun _ => hS) (h ops (Lib.hid rfl)))))
end
end Go.Proofs.YtfenmeacimfiaaaGreatDoor
