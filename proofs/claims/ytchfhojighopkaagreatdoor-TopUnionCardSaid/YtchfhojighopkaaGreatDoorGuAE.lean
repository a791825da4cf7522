/-
  Parts of the proof: SeqG.
-/
import Derived.Deep.RegionHeld3
import Derived.StillTail
import Derived.Test.YtchfhojighopkaaGreatDoorGuAA
namespace Go.Proofs.YtchfhojighopkaaGreatDoor
open Go.RowKit

section
variable {P : Program} {ops : Array Oper} {Q : Exit → Act → World → Prop} {md : Region.Mode} {S : World → Prop}

/-- The order is one that the edges allow; each number marked 'true' may be taken first, each other one is the only one that may come up. -/
def seqOk (md : Region.Mode) (ops : Array Oper) : List (Nat × Bool) → Array Bool → Bool
 | [], listed => (Region.ready md ops listed).isEmpty
 | (i, true) :: r, listed => ((Region.ready md ops listed).contains i && Region.free md ops listed i) && seqOk md ops r (listed.setIfInBounds i true)
 | (i, false) :: r, listed => (Region.ready md ops listed == [i]) && seqOk md ops r (listed.setIfInBounds i true)

/-- The walk along the order. -/
def wpSeq (P : Program) (ops : Array Oper) (Q : Exit → Act → World → Prop) (S : World → Prop) : List (Nat × Bool) → Act → World → Prop
 | [], a, w => Q .normal a w
 | (i, true) :: r, a, w => ∃ o v, ops[i]? = some o ∧ YieldsIf P ops S o v a ∧ wpSeq P ops Q S r (a.put o.dst v) w
 | (i, false) :: r, a, w => wpOp P ops Q i (fun a' w' => S w' ∧ wpSeq P ops Q S r a' w') a w

theorem wpSeq_sound (hs : Region.noSelect ops = true) (hQ : ∀ c a a' w, Q (.panic c) a w → Q (.panic c) a' w) :
  ∀ (order : List (Nat × Bool)) (fuel : Nat) (listed : Array Bool) (a : Act) (w : World), order.length ≤ fuel → seqOk md ops order listed = true → S w →
   wpSeq P ops Q S order a w → wpAnyH P md ops Q S fuel listed a w := by
 intro order
 induction order with
 | nil =>
  intro fuel listed a w _ hok _ h
  exact wpAnyH_done (List.isEmpty_iff.1 hok) h fuel
 | cons x r ih =>
  obtain ⟨i, t⟩ := x
  intro fuel listed a w hf hok hS h
  rcases fuel with _ | fuel
  ·simp at hf
  have hf' : r.length ≤ fuel := by simpa using hf
  cases t with
  | true =>
   obtain ⟨o, v, ho, hy, hr⟩ := h
   unfold seqOk at hok
   simp only [Bool.and_eq_true] at hok
   exact wpAnyH_take ho hs hok.1.2 hok.1.1 (fun c a w hq => hQ c _ _ w hq) hy hS (ih fuel _ _ _ hf' hok.2 hS hr)
  | false =>
   unfold seqOk at hok
   simp only [Bool.and_eq_true, beq_iff_eq] at hok
   refine wpAnyH_all hok.1 (by simp) fun j hj => ?_
   obtain rfl : j = i := by simpa using hj
   exact wpOp_mono (fun a' w' hh => ⟨hh.1, ih fuel _ a' w' hf' hok.2 hh.1 hh.2⟩) h

/-- The beginning: the region is shown not to panic. -/
theorem wp_region_seq (S : World → Prop) (order : List (Nat × Bool)) {id : Nat} {a : Act} {w : World} (hm : P.follows .mixedOrders = true) (hs : Region.noSelect ops = true)
  (hl : order.length ≤ ops.size) (hok : seqOk .any ops order (Array.replicate ops.size false) = true) (hS : S w.drew)
  (h : ∀ OPS, Hid (OPS = ops) → wpSeq P OPS (NoPanic Q) S order a w.drew) : (Code.region id ops true).wp P Q a w :=
 wp_region_noPanic (wp_region_held hm (wpSeq_sound hs (fun _ _ _ _ h => h) order _ _ _ _ hl hok hS (h ops (Lib.hid rfl))))

variable {r : List (Nat × Bool)} {i : Nat} {o : Oper} {v : Value} {a : Act} {w : World}

theorem seq_take (ho : ops[i]? = some o) (hw : Region.wanted o (yielded ops a.tmps) = true) (hv : ∀ w, S w → (execOp a.eval o).run P w = .ok (.value v) w)
  (h : wpSeq P ops Q S r (a.put o.dst v) w) : wpSeq P ops Q S ((i, true) :: r) a w := ⟨o, v, ho, .inl ⟨hw, hv⟩, h⟩

theorem seq_skip (ho : ops[i]? = some o) (hw : Region.wanted o (yielded ops a.tmps) = false)
  (h : wpSeq P ops Q S r (a.put o.dst undef) w) : wpSeq P ops Q S ((i, true) :: r) a w := ⟨o, undef, ho, .inr ⟨hw, rfl⟩, h⟩

theorem seq_do (ho : ops[i]? = some o) (hw : Region.wanted o (yielded ops a.tmps) = true)
  (h : ∀ K : Act → World → Prop, Shut (∀ a w, S w → (S w → wpSeq P ops Q S r a w) → K a w) → Oper.wp P o a w K Q) : wpSeq P ops Q S ((i, false) :: r) a w :=
 wpOp_step ho fun K hK => by
  rw [if_pos hw]
  exact h K (fun a w hS hr => hK a w ⟨hS, hr hS⟩)

theorem seq_done (h : Q .normal a w) : wpSeq P ops (NoPanic Q) S [] a w := h
end
end Go.Proofs.YtchfhojighopkaaGreatDoor
namespace Go.Proofs.YtchfhojighopkaaGreatDoor
open Go.RowKit

section
variable {P : Program} {ops : Array Oper} {Q : Exit → Act → World → Prop} {md : Region.Mode} {S : World → Prop}

/-- Every order; S is to hold behind each operation but number z. -/
def wpAnyT (P : Program) (md : Region.Mode) (ops : Array Oper) (Q : Exit → Act → World → Prop) (S : World → Prop) (z : Nat) : Nat → Array Bool → Act → World → Prop
 | 0, l, a, w => Region.ready md ops l = [] ∧ Q .normal a w
 | n + 1, l, a, w => (Region.ready md ops l = [] → Q .normal a w) ∧
  ∀ i ∈ Region.ready md ops l, wpOp P ops Q i (fun a' w' => (i ≠ z → S w') ∧ wpAnyT P md ops Q S z n (l.setIfInBounds i true) a' w') a w

theorem wpAnyT_any {z : Nat} : ∀ (n : Nat) (l : Array Bool) (a : Act) (w : World), wpAnyT P md ops Q S z n l a w → wpAny P md ops Q n l a w
 | 0, _, _, _, h => h
 | n + 1, _, _, _, h => ⟨h.1, fun i hi => wpOp_mono (fun a' w' h' => wpAnyT_any n _ a' w' h'.2) (h.2 i hi)⟩

/-- Number z waits for all others. -/
def waitsAll (md : Region.Mode) (ops : Array Oper) (z : Nat) : Bool := (List.range ops.size).all fun k => k == z || Region.waitsFor md ops z k
theorem alone_of {z : Nat} (h : waitsAll md ops z = true) {l : Array Bool} (hz : z ∈ Region.ready md ops l) {i : Nat} (hi : i ∈ Region.ready md ops l) : i = z := by
 by_cases e : i = z
 ·exact e
 exfalso
 obtain ⟨h0, oi, hoi, _⟩ := mem_ready.1 hi
 obtain ⟨_, oz, hoz, hall⟩ := mem_ready.1 hz
 have hlt : i < ops.size := (Array.getElem?_eq_some_iff.1 hoi).1
 have hw := List.all_eq_true.1 h i (List.mem_range.2 hlt)
 simp only [Bool.or_eq_true, beq_iff_eq] at hw
 rcases hw with hw | hw
 ·exact e hw
 obtain ⟨oj, hoj, ed, hed, hb, hon⟩ := Region.waitsFor_spec hw
 rw [hoz] at hoj
 cases hoj
 have h1 := hall ed hed hb
 rw [hon] at h1
 rcases Nat.lt_or_ge i l.size with h' | h'
 ·simp [h'] at h0 h1
  rw [h0] at h1
  cases h1
 ·simp [Array.getElem?_eq_none h'] at h1

theorem wpAnyT_first {z : Nat} (hz : waitsAll md ops z = true) {i : Nat} {oi : Oper} {v : Value} (hi : ops[i]? = some oi) (hsel : ∀ (j : Nat) (o : Oper) cs b, ops[j]? = some o → o.op ≠ .select cs b)
  (hQ : ∀ c a w, Q (.panic c) (a.put oi.dst v) w → Q (.panic c) a w) : ∀ (n : Nat) (l : Array Bool) (a : Act) (w : World),
   (∀ j oj, ops[j]? = some oj → j ≠ i → l.getD j true = false → (∀ e ∈ oj.after, Region.binds md e = true → e.on ≠ i) → oi.apart ops oj = true) →
   i ∈ Region.ready md ops l → YieldsIf P ops S oi v a → S w → wpAnyT P md ops Q S z n (l.setIfInBounds i true) (a.put oi.dst v) w → wpAnyT P md ops Q S z (n + 1) l a w
 | n, l, a, w, hfree, hr, hy, hS, H => by
  refine ⟨fun h => absurd hr (by rw [h]; simp), fun j hj => ?_⟩
  by_cases hji : j = i
  ·subst hji
   exact hy.wpOp hi hS ⟨fun _ => hS, H⟩
  have hj' := ready_mono hj hji
  cases n with
  | zero => rw [H.1] at hj'; cases hj'
  | succ n =>
   obtain ⟨hjun, oj, hoj, hall⟩ := mem_ready.1 hj
   have hnot : ∀ e ∈ oj.after, Region.binds md e = true → e.on ≠ i := fun e he hb heq => by
    have h1 := hall e he hb
    have h0 := (mem_ready.1 hr).1
    rw [heq] at h1
    rcases Nat.lt_or_ge i l.size with h' | h'
    ·simp [h'] at h0 h1
     rw [h0] at h1
     cases h1
    ·simp [Array.getElem?_eq_none h'] at h1
   have hr' : i ∈ Region.ready md ops (l.setIfInBounds j true) := ready_mono hr (Ne.symm hji)
   have hjz : j ≠ z := fun e => hji (by subst e; exact (alone_of hz hj hr).symm)
   have hfree' : ∀ k ok, ops[k]? = some ok → k ≠ i → (l.setIfInBounds j true).getD k true = false → (∀ e ∈ ok.after, Region.binds md e = true → e.on ≠ i) → oi.apart ops ok = true := fun k ok hk hki hun hno => by
    refine hfree k ok hk hki ?_ hno
    by_cases hjk : j = k
    ·subst hjk
     exact hjun
    ·rwa [getD_set_ne true hjk] at hun
   have h2 := wpOp_putIf hoj (hfree j oj hoj hji hjun hnot) (fun cs b => hsel i oi cs b hi) (fun cs b => hsel j oj cs b hoj) hQ hy (H.2 j hj')
   refine wpOp_mono (fun a' w' h3 => ?_) h2
   have hS' := h3.2.1 hjz
   refine ⟨fun _ => hS', wpAnyT_first hz hi hsel hQ n _ a' w' hfree' hr' h3.1 hS' ?_⟩
   rw [Array.setIfInBounds_comm _ _ hji]
   exact h3.2.2

/-- The walk along the order; number z may change what S says. -/
def wpSeqT (P : Program) (ops : Array Oper) (Q : Exit → Act → World → Prop) (S : World → Prop) (z : Nat) : List (Nat × Bool) → Act → World → Prop
 | [], a, w => Q .normal a w
 | (i, true) :: r, a, w => ∃ o v, ops[i]? = some o ∧ YieldsIf P ops S o v a ∧ wpSeqT P ops Q S z r (a.put o.dst v) w
 | (i, false) :: r, a, w => wpOp P ops Q i (fun a' w' => (i ≠ z → S w') ∧ wpSeqT P ops Q S z r a' w') a w

theorem wpSeqT_sound {z : Nat} (hz : waitsAll md ops z = true) (hs : Region.noSelect ops = true) (hQ : ∀ c a a' w, Q (.panic c) a w → Q (.panic c) a' w) :
  ∀ (order : List (Nat × Bool)) (fuel : Nat) (listed : Array Bool) (a : Act) (w : World), order.length ≤ fuel → seqOk md ops order listed = true → (∀ x ∈ order.dropLast, x.1 ≠ z) → (order ≠ [] → S w) →
   wpSeqT P ops Q S z order a w → wpAnyT P md ops Q S z fuel listed a w := by
 intro order
 induction order with
 | nil =>
  intro fuel listed a w _ hok _ _ h
  have hr := List.isEmpty_iff.1 hok
  cases fuel with
  | zero => exact ⟨hr, h⟩
  | succ n => exact ⟨fun _ => h, by rw [hr]; simp⟩
 | cons x r ih =>
  obtain ⟨i, t⟩ := x
  intro fuel listed a w hf hok hne hS0 h
  have hS := hS0 (by simp)
  rcases fuel with _ | fuel
  ·simp at hf
  have hf' : r.length ≤ fuel := by simpa using hf
  have hne' : ∀ x ∈ r.dropLast, x.1 ≠ z := fun x hx => by
   cases r with
   | nil => simp at hx
   | cons y r => exact hne x (by rw [List.dropLast_cons_of_ne_nil (by simp)]; exact List.mem_cons_of_mem _ hx)
  cases t with
  | true =>
   obtain ⟨o, v, ho, hy, hr⟩ := h
   unfold seqOk at hok
   simp only [Bool.and_eq_true] at hok
   exact wpAnyT_first hz ho (Region.noSelect_spec hs) (fun c a w hq => hQ c _ _ w hq) fuel listed a w (Region.free_spec ho hok.1.2) (by simpa using hok.1.1) hy hS (ih fuel _ _ _ hf' hok.2 hne' (fun _ => hS) hr)
  | false =>
   unfold seqOk at hok
   simp only [Bool.and_eq_true, beq_iff_eq] at hok
   refine ⟨(fun e => by rw [hok.1] at e; cases e), fun j hj => ?_⟩
   rw [hok.1] at hj
   obtain rfl : j = i := by simpa using hj
   refine wpOp_mono (fun a' w' hh => ⟨hh.1, ih fuel _ a' w' hf' hok.2 hne' (fun hr => hh.1 ?_) hh.2⟩) h
   exact hne (j, false) (by rw [List.dropLast_cons_of_ne_nil hr]; exact List.mem_cons_self)

/-- The beginning: the region is shown not to panic. -/
theorem wp_region_seqT (S : World → Prop) (z : Nat) (order : List (Nat × Bool)) {id : Nat} {a : Act} {w : World} (hm : P.follows .mixedOrders = true) (hs : Region.noSelect ops = true) (hz : waitsAll .any ops z = true)
  (hl : order.length ≤ ops.size) (hok : seqOk .any ops order (Array.replicate ops.size false) = true) (hne : (order.dropLast.all (fun x => x.1 != z)) = true) (hS : S w.drew)
  (h : ∀ OPS, Hid (OPS = ops) → wpSeqT P OPS (NoPanic Q) S z order a w.drew) : (Code.region id ops true).wp P Q a w :=
 wp_region_noPanic (wp_region_any hm (wpAnyT_any _ _ _ _ (wpSeqT_sound hz hs (fun _ _ _ _ h => h) order _ _ _ _ hl hok (fun x hx => by simpa using List.all_eq_true.1 hne x hx) (fun _ => hS) (h ops (Lib.hid rfl)))))

variable {r : List (Nat × Bool)} {z i : Nat} {o : Oper} {v : Value} {a : Act} {w : World}

theorem seqT_take (ho : ops[i]? = some o) (hw : Region.wanted o (yielded ops a.tmps) = true) (hv : ∀ w, S w → (execOp a.eval o).run P w = .ok (.value v) w)
  (h : wpSeqT P ops Q S z r (a.put o.dst v) w) : wpSeqT P ops Q S z ((i, true) :: r) a w := ⟨o, v, ho, .inl ⟨hw, hv⟩, h⟩
theorem seqT_do (ho : ops[i]? = some o) (hw : Region.wanted o (yielded ops a.tmps) = true)
  (h : ∀ K : Act → World → Prop, Shut (∀ a w, (i ≠ z → S w) → wpSeqT P ops Q S z r a w → K a w) → Oper.wp P o a w K Q) : wpSeqT P ops Q S z ((i, false) :: r) a w :=
 wpOp_step ho fun K hK => by
  rw [if_pos hw]
  exact h K (fun a w hS hr => hK a w ⟨hS, hr⟩)
theorem seqT_done (h : Q .normal a w) : wpSeqT P ops (NoPanic Q) S z [] a w := h
end
end Go.Proofs.YtchfhojighopkaaGreatDoor
namespace Go.Proofs.YtchfhojighopkaaGreatDoor
open Go.RowKit

section
variable {P : Program} {ops : Array Oper} {Q : Exit → Act → World → Prop} {md : Region.Mode} {S : World → Prop}

/-- What has come up, with all that it waits for. -/
def Closed (md : Region.Mode) (ops : Array Oper) (l : Array Bool) : Prop := ∀ j k, l.getD j false = true → Region.waitsFor md ops j k = true → l.getD k false = true
theorem Closed.start (n : Nat) : Closed md ops (Array.replicate n false) := fun j k h _ => by
 rw [Array.getD_eq_getD_getElem?] at h
 by_cases hj : j < n
 ·simp [hj] at h
 ·simp [Array.getElem?_eq_none (show (Array.replicate n false).size ≤ j by simp; omega)] at h
theorem Closed.next {l : Array Bool} (h : Closed md ops l) {i : Nat} (hi : i ∈ Region.ready md ops l) : Closed md ops (l.setIfInBounds i true) := fun j k hj hw => by
 by_cases e : i = j
 ·subst e
  obtain ⟨_, oi, hoi, hall⟩ := mem_ready.1 hi
  obtain ⟨oj, hoj, ed, hed, hb, hon⟩ := Region.waitsFor_spec hw
  rw [hoi] at hoj
  cases hoj
  rw [← hon]
  exact getD_set_true (hall ed hed hb)
 ·rw [getD_set_ne false e] at hj
  exact getD_set_true (h j k hj hw)
/-- Number z waits for number k, by way of n others at most. -/
def waitsN (md : Region.Mode) (ops : Array Oper) : Nat → Nat → Nat → Bool
 | 0, z, k => Region.waitsFor md ops z k
 | n + 1, z, k => Region.waitsFor md ops z k || (List.range ops.size).any fun j => Region.waitsFor md ops z j && waitsN md ops n j k
theorem Closed.far {l : Array Bool} (hc : Closed md ops l) : ∀ (n j k : Nat), l.getD j false = true → waitsN md ops n j k = true → l.getD k false = true
 | 0, j, k, h, hw => hc j k h hw
 | n + 1, j, k, h, hw => by
  rw [waitsN, Bool.or_eq_true] at hw
  rcases hw with hw | hw
  ·exact hc j k h hw
  ·obtain ⟨i, _, hi⟩ := List.any_eq_true.1 hw
   rw [Bool.and_eq_true] at hi
   exact hc.far n i k (hc j i h hi.1) hi.2
/-- Number z waits for all others, for some by way of others. -/
def waitsAll3 (md : Region.Mode) (ops : Array Oper) (z : Nat) : Bool := (List.range ops.size).all fun k => k == z || waitsN md ops 3 z k
theorem alone_of3 {z : Nat} (h : waitsAll3 md ops z = true) {l : Array Bool} (hc : Closed md ops l) (hz : z ∈ Region.ready md ops l) {i : Nat} (hi : i ∈ Region.ready md ops l) : i = z := by
 by_cases e : i = z
 ·exact e
 exfalso
 obtain ⟨h0, oi, hoi, _⟩ := mem_ready.1 hi
 obtain ⟨_, oz, hoz, hall⟩ := mem_ready.1 hz
 have hlt : i < ops.size := (Array.getElem?_eq_some_iff.1 hoi).1
 have hw := List.all_eq_true.1 h i (List.mem_range.2 hlt)
 simp only [Bool.or_eq_true, beq_iff_eq] at hw
 have hno : l.getD i false ≠ true := fun h1 => by
  rcases Nat.lt_or_ge i l.size with h' | h'
  ·simp [h'] at h0 h1
   rw [h0] at h1
   cases h1
  ·simp [Array.getElem?_eq_none h'] at h1
 have key : ∀ k, Region.waitsFor md ops z k = true → l.getD k false = true := fun k hk => by
  obtain ⟨oj, hoj, ed, hed, hb, hon⟩ := Region.waitsFor_spec hk
  rw [hoz] at hoj
  cases hoj
  rw [← hon]
  exact hall ed hed hb
 rcases hw with hw | hw
 ·exact e hw
 ·rw [waitsN, Bool.or_eq_true] at hw
  rcases hw with hw | hw
  ·exact hno (key i hw)
  ·obtain ⟨j, _, hj⟩ := List.any_eq_true.1 hw
   rw [Bool.and_eq_true] at hj
   exact hno (hc.far 2 j i (key j hj.1) hj.2)

theorem wpAny3_first {z : Nat} (hz : waitsAll3 md ops z = true) {i : Nat} {oi : Oper} {v : Value} (hi : ops[i]? = some oi) (hsel : ∀ (j : Nat) (o : Oper) cs b, ops[j]? = some o → o.op ≠ .select cs b)
  (hQ : ∀ c a w, Q (.panic c) (a.put oi.dst v) w → Q (.panic c) a w) : ∀ (n : Nat) (l : Array Bool) (a : Act) (w : World), Closed md ops l →
   (∀ j oj, ops[j]? = some oj → j ≠ i → l.getD j true = false → (∀ e ∈ oj.after, Region.binds md e = true → e.on ≠ i) → oi.apart ops oj = true) →
   i ∈ Region.ready md ops l → YieldsIf P ops S oi v a → S w → wpAnyT P md ops Q S z n (l.setIfInBounds i true) (a.put oi.dst v) w → wpAnyT P md ops Q S z (n + 1) l a w
 | n, l, a, w, hcl, hfree, hr, hy, hS, H => by
  refine ⟨fun h => absurd hr (by rw [h]; simp), fun j hj => ?_⟩
  by_cases hji : j = i
  ·subst hji
   exact hy.wpOp hi hS ⟨fun _ => hS, H⟩
  have hj' := ready_mono hj hji
  cases n with
  | zero => rw [H.1] at hj'; cases hj'
  | succ n =>
   obtain ⟨hjun, oj, hoj, hall⟩ := mem_ready.1 hj
   have hnot : ∀ e ∈ oj.after, Region.binds md e = true → e.on ≠ i := fun e he hb heq => by
    have h1 := hall e he hb
    have h0 := (mem_ready.1 hr).1
    rw [heq] at h1
    rcases Nat.lt_or_ge i l.size with h' | h'
    ·simp [h'] at h0 h1
     rw [h0] at h1
     cases h1
    ·simp [Array.getElem?_eq_none h'] at h1
   have hr' : i ∈ Region.ready md ops (l.setIfInBounds j true) := ready_mono hr (Ne.symm hji)
   have hjz : j ≠ z := fun e => hji (by subst e; exact (alone_of3 hz hcl hj hr).symm)
   have hfree' : ∀ k ok, ops[k]? = some ok → k ≠ i → (l.setIfInBounds j true).getD k true = false → (∀ e ∈ ok.after, Region.binds md e = true → e.on ≠ i) → oi.apart ops ok = true := fun k ok hk hki hun hno => by
    refine hfree k ok hk hki ?_ hno
    by_cases hjk : j = k
    ·subst hjk
     exact hjun
    ·rwa [getD_set_ne true hjk] at hun
   have h2 := wpOp_putIf hoj (hfree j oj hoj hji hjun hnot) (fun cs b => hsel i oi cs b hi) (fun cs b => hsel j oj cs b hoj) hQ hy (H.2 j hj')
   refine wpOp_mono (fun a' w' h3 => ?_) h2
   have hS' := h3.2.1 hjz
   refine ⟨fun _ => hS', wpAny3_first hz hi hsel hQ n _ a' w' (hcl.next hj) hfree' hr' h3.1 hS' ?_⟩
   rw [Array.setIfInBounds_comm _ _ hji]
   exact h3.2.2

theorem wpSeq3_sound {z : Nat} (hz : waitsAll3 md ops z = true) (hs : Region.noSelect ops = true) (hQ : ∀ c a a' w, Q (.panic c) a w → Q (.panic c) a' w) :
  ∀ (order : List (Nat × Bool)) (fuel : Nat) (listed : Array Bool) (a : Act) (w : World), Closed md ops listed → order.length ≤ fuel → seqOk md ops order listed = true → (∀ x ∈ order.dropLast, x.1 ≠ z) → (order ≠ [] → S w) →
   wpSeqT P ops Q S z order a w → wpAnyT P md ops Q S z fuel listed a w := by
 intro order
 induction order with
 | nil =>
  intro fuel listed a w _ _ hok _ _ h
  have hr := List.isEmpty_iff.1 hok
  cases fuel with
  | zero => exact ⟨hr, h⟩
  | succ n => exact ⟨fun _ => h, by rw [hr]; simp⟩
 | cons x r ih =>
  obtain ⟨i, t⟩ := x
  intro fuel listed a w hcl hf hok hne hS0 h
  have hS := hS0 (by simp)
  rcases fuel with _ | fuel
  ·simp at hf
  have hf' : r.length ≤ fuel := by simpa using hf
  have hne' : ∀ x ∈ r.dropLast, x.1 ≠ z := fun x hx => by
   cases r with
   | nil => simp at hx
   | cons y r => exact hne x (by rw [List.dropLast_cons_of_ne_nil (by simp)]; exact List.mem_cons_of_mem _ hx)
  cases t with
  | true =>
   obtain ⟨o, v, ho, hy, hr⟩ := h
   unfold seqOk at hok
   simp only [Bool.and_eq_true] at hok
   have hrd : i ∈ Region.ready md ops listed := by simpa using hok.1.1
   exact wpAny3_first hz ho (Region.noSelect_spec hs) (fun c a w hq => hQ c _ _ w hq) fuel listed a w hcl (Region.free_spec ho hok.1.2) hrd hy hS (ih fuel _ _ _ (hcl.next hrd) hf' hok.2 hne' (fun _ => hS) hr)
  | false =>
   unfold seqOk at hok
   simp only [Bool.and_eq_true, beq_iff_eq] at hok
   refine ⟨(fun e => by rw [hok.1] at e; cases e), fun j hj => ?_⟩
   have hrd := hj
   rw [hok.1] at hj
   obtain rfl : j = i := by simpa using hj
   refine wpOp_mono (fun a' w' hh => ⟨hh.1, ih fuel _ a' w' (hcl.next hrd) hf' hok.2 hne' (fun hr => hh.1 ?_) hh.2⟩) h
   exact hne (j, false) (by rw [List.dropLast_cons_of_ne_nil hr]; exact List.mem_cons_self)

/-- The beginning: the region is shown not to panic. -/
theorem wp_region_seq3 (S : World → Prop) (z : Nat) (order : List (Nat × Bool)) {id : Nat} {a : Act} {w : World} (hm : P.follows .mixedOrders = true) (hs : Region.noSelect ops = true) (hz : waitsAll3 .any ops z = true)
  (hl : order.length ≤ ops.size) (hok : seqOk .any ops order (Array.replicate ops.size false) = true) (hne : (order.dropLast.all (fun x => x.1 != z)) = true) (hS : S w.drew)
  (h : ∀ OPS, Hid (OPS = ops) → wpSeqT P OPS (NoPanic Q) S z order a w.drew) : (Code.region id ops true).wp P Q a w :=
 wp_region_noPanic (wp_region_any hm (wpAnyT_any _ _ _ _ (wpSeq3_sound hz hs (fun _ _ _ _ h => h) order _ _ _ _ (Closed.start _) hl hok (fun x hx => by simpa using List.all_eq_true.1 hne x hx) (fun _ => hS) (h ops (Lib.hid rfl)))))
end
end Go.Proofs.YtchfhojighopkaaGreatDoor
namespace Go.Proofs.YtchfhojighopkaaGreatDoor
open Go.RowKit

section
variable {P : Program} {ops : Array Oper} {Q : Exit → Act → World → Prop} {md : Region.Mode} {S : World → Prop}

/-- An operation gives v and changes nothing. -/
def Quiet (P : Program) (x : Sem Next) (v : Value) (w : World) : Prop :=
 x.run P w = .ok (.value v) w ∨ ∃ f args, x.run P w = .ok (.enter f args) w ∧ Calls P f args w fun e w' => e = .returned v ∧ w' = w
def YieldsQ (P : Program) (ops : Array Oper) (S : World → Prop) (o : Oper) (v : Value) (a : Act) : Prop :=
 (Region.wanted o (yielded ops a.tmps) = true ∧ ∀ w, S w → Quiet P (execOp a.eval o) v w) ∨ (Region.wanted o (yielded ops a.tmps) = false ∧ v = undef)
theorem YieldsQ.wpOp {i : Nat} {o : Oper} {v : Value} {a : Act} (hi : ops[i]? = some o) (hy : YieldsQ P ops S o v a) {K : Act → World → Prop} {w : World} (hS : S w) (h : K (a.put o.dst v) w) : wpOp P ops Q i K a w := by
 unfold Go.wpOp
 simp only [hi]
 rcases hy with ⟨hw, hv⟩ | ⟨hw, rfl⟩
 ·simp only [hw, if_true, Oper.wp]
  refine .inl ?_
  rcases hv w hS with h1 | ⟨f, args, h1, h2⟩
  ·rw [h1]
   exact h
  ·rw [h1, Oper.upon_enter]
   refine Calls.mono h2 ?_
   rintro e w' ⟨rfl, rfl⟩
   exact h
 ·simp only [hw, Bool.false_eq_true, if_false]
  exact h
/-- What another operation does leaves an operation's own view as it is. -/
theorem wpOp_view {j : Nat} {oi oj : Oper} (hj : ops[j]? = some oj) (hsi : ∀ cs b, oi.op ≠ .select cs b) (h3 : ∀ d, oj.dst = some d → d ∉ oi.looksAt ops) {K : Act → World → Prop} {a : Act} {w : World} (h : wpOp P ops Q j K a w) :
  wpOp P ops Q j (fun a' w' => (execOp a'.eval oi = execOp a.eval oi ∧ Region.wanted oi (yielded ops a'.tmps) = Region.wanted oi (yielded ops a.tmps)) ∧ K a' w') a w := by
 have view : ∀ u, execOp (a.put oj.dst u).eval oi = execOp a.eval oi ∧ Region.wanted oi (yielded ops (a.put oj.dst u).tmps) = Region.wanted oi (yielded ops a.tmps) := fun u =>
  ⟨execOp_put oi hsi a oj.dst u h3, wanted_put oi a oj.dst u h3⟩
 have viewD : ∀ d u, execOp (({ a with defers := d :: a.defers } : Act).put oj.dst u).eval oi = execOp a.eval oi ∧ Region.wanted oi (yielded ops (({ a with defers := d :: a.defers } : Act).put oj.dst u).tmps) = Region.wanted oi (yielded ops a.tmps) := fun d u =>
  ⟨execOp_put oi hsi { a with defers := d :: a.defers } oj.dst u h3, wanted_put oi { a with defers := d :: a.defers } oj.dst u h3⟩
 unfold wpOp at *
 simp only [hj] at *
 split
 ·rename_i hw
  simp only [hw, if_true] at h
  rcases h with h | h
  case inr => exact .inr h
  refine .inl ?_
  unfold Oper.wp at *
  generalize (execOp a.eval oj).run P w = r at *
  cases r with
  | ok n w' =>
   cases n <;> simp only [Oper.upon] at h ⊢
   case value u => exact ⟨view u, h⟩
   case skip => exact ⟨view _, h⟩
   case defer d => exact ⟨viewD d _, h⟩
   case enter f args =>
    refine Calls.mono h fun e w'' he => ?_
    cases e with
    | returned u => exact ⟨view u, he⟩
    | panicked c => exact he
    | outgrown => exact he
   case row row args => exact Rows.mono h fun u w'' he => ⟨view u, he⟩
  | halt x w' =>
   cases x <;> simp only [Oper.upon] at h ⊢
   case panic u => exact h
 ·rename_i hw
  simp only [hw] at h
  exact ⟨view _, h⟩
theorem wpOp_putQ {j : Nat} {oi oj : Oper} {v : Value} (hj : ops[j]? = some oj) (hap : oi.apart ops oj = true) (hsi : ∀ cs b, oi.op ≠ .select cs b) (hsj : ∀ cs b, oj.op ≠ .select cs b)
  (hQ : ∀ c a w, Q (.panic c) (a.put oi.dst v) w → Q (.panic c) a w) {K : Act → World → Prop} {a : Act} {w : World} (hy : YieldsQ P ops S oi v a) (h : wpOp P ops Q j K (a.put oi.dst v) w) :
  wpOp P ops Q j (fun a' w' => YieldsQ P ops S oi v a' ∧ K (a'.put oi.dst v) w') a w := by
 have hn : YieldsIf P ops (fun _ => False) oi v a := hy.imp (fun h => ⟨h.1, fun _ e => e.elim⟩) id
 have h1 := wpOp_putIf hj hap hsi hsj hQ hn h
 refine wpOp_mono (fun a' w' h2 => ⟨?_, h2.2.2⟩) (wpOp_view hj hsi (Oper.apart_spec hap).2.2 h1)
 unfold YieldsQ at *
 rw [h2.1.1, h2.1.2]
 exact hy

/-- Number z is the last, or there is no such number. -/
def zOk (md : Region.Mode) (ops : Array Oper) (z : Nat) : Bool := waitsAll3 md ops z || decide (ops.size ≤ z)
theorem wpAnyQ_first {z : Nat} (hz : zOk md ops z = true) {i : Nat} {oi : Oper} {v : Value} (hi : ops[i]? = some oi) (hsel : ∀ (j : Nat) (o : Oper) cs b, ops[j]? = some o → o.op ≠ .select cs b)
  (hQ : ∀ c a w, Q (.panic c) (a.put oi.dst v) w → Q (.panic c) a w) : ∀ (n : Nat) (l : Array Bool) (a : Act) (w : World), Closed md ops l →
   (∀ j oj, ops[j]? = some oj → j ≠ i → l.getD j true = false → (∀ e ∈ oj.after, Region.binds md e = true → e.on ≠ i) → oi.apart ops oj = true) →
   i ∈ Region.ready md ops l → YieldsQ P ops S oi v a → S w → wpAnyT P md ops Q S z n (l.setIfInBounds i true) (a.put oi.dst v) w → wpAnyT P md ops Q S z (n + 1) l a w
 | n, l, a, w, hcl, hfree, hr, hy, hS, H => by
  refine ⟨fun h => absurd hr (by rw [h]; simp), fun j hj => ?_⟩
  by_cases hji : j = i
  ·subst hji
   exact hy.wpOp hi hS ⟨fun _ => hS, H⟩
  have hj' := ready_mono hj hji
  cases n with
  | zero => rw [H.1] at hj'; cases hj'
  | succ n =>
   obtain ⟨hjun, oj, hoj, hall⟩ := mem_ready.1 hj
   have hnot : ∀ e ∈ oj.after, Region.binds md e = true → e.on ≠ i := fun e he hb heq => by
    have h1 := hall e he hb
    have h0 := (mem_ready.1 hr).1
    rw [heq] at h1
    rcases Nat.lt_or_ge i l.size with h' | h'
    ·simp [h'] at h0 h1
     rw [h0] at h1
     cases h1
    ·simp [Array.getElem?_eq_none h'] at h1
   have hr' : i ∈ Region.ready md ops (l.setIfInBounds j true) := ready_mono hr (Ne.symm hji)
   have hjz : j ≠ z := fun e => by
    unfold zOk at hz
    rcases Bool.or_eq_true _ _ ▸ hz with h9 | h9
    ·exact hji (by subst e; exact (alone_of3 h9 hcl hj hr).symm)
    ·have h8 := (Array.getElem?_eq_some_iff.1 hoj).1
     have h7 := of_decide_eq_true h9
     omega
   have hfree' : ∀ k ok, ops[k]? = some ok → k ≠ i → (l.setIfInBounds j true).getD k true = false → (∀ e ∈ ok.after, Region.binds md e = true → e.on ≠ i) → oi.apart ops ok = true := fun k ok hk hki hun hno => by
    refine hfree k ok hk hki ?_ hno
    by_cases hjk : j = k
    ·subst hjk
     exact hjun
    ·rwa [getD_set_ne true hjk] at hun
   have h2 := wpOp_putQ hoj (hfree j oj hoj hji hjun hnot) (fun cs b => hsel i oi cs b hi) (fun cs b => hsel j oj cs b hoj) hQ hy (H.2 j hj')
   refine wpOp_mono (fun a' w' h3 => ?_) h2
   have hS' := h3.2.1 hjz
   refine ⟨fun _ => hS', wpAnyQ_first hz hi hsel hQ n _ a' w' (hcl.next hj) hfree' hr' h3.1 hS' ?_⟩
   rw [Array.setIfInBounds_comm _ _ hji]
   exact h3.2.2

/-- The walk along the order. -/
def wpSeqQ (P : Program) (ops : Array Oper) (Q : Exit → Act → World → Prop) (S : World → Prop) (z : Nat) : List (Nat × Bool) → Act → World → Prop
 | [], a, w => Q .normal a w
 | (i, true) :: r, a, w => ∃ o v, ops[i]? = some o ∧ YieldsQ P ops S o v a ∧ wpSeqQ P ops Q S z r (a.put o.dst v) w
 | (i, false) :: r, a, w => wpOp P ops Q i (fun a' w' => (i ≠ z → S w') ∧ wpSeqQ P ops Q S z r a' w') a w

theorem wpSeqQ_sound {z : Nat} (hz : zOk md ops z = true) (hs : Region.noSelect ops = true) (hQ : ∀ c a a' w, Q (.panic c) a w → Q (.panic c) a' w) :
  ∀ (order : List (Nat × Bool)) (fuel : Nat) (listed : Array Bool) (a : Act) (w : World), Closed md ops listed → order.length ≤ fuel → seqOk md ops order listed = true → (∀ x ∈ order.dropLast, x.1 ≠ z) → (order ≠ [] → S w) →
   wpSeqQ P ops Q S z order a w → wpAnyT P md ops Q S z fuel listed a w := by
 intro order
 induction order with
 | nil =>
  intro fuel listed a w _ _ hok _ _ h
  have hr := List.isEmpty_iff.1 hok
  cases fuel with
  | zero => exact ⟨hr, h⟩
  | succ n => exact ⟨fun _ => h, by rw [hr]; simp⟩
 | cons x r ih =>
  obtain ⟨i, t⟩ := x
  intro fuel listed a w hcl hf hok hne hS0 h
  have hS := hS0 (by simp)
  rcases fuel with _ | fuel
  ·simp at hf
  have hf' : r.length ≤ fuel := by simpa using hf
  have hne' : ∀ x ∈ r.dropLast, x.1 ≠ z := fun x hx => by
   cases r with
   | nil => simp at hx
   | cons y r => exact hne x (by rw [List.dropLast_cons_of_ne_nil (by simp)]; exact List.mem_cons_of_mem _ hx)
  cases t with
  | true =>
   obtain ⟨o, v, ho, hy, hr⟩ := h
   unfold seqOk at hok
   simp only [Bool.and_eq_true] at hok
   have hrd : i ∈ Region.ready md ops listed := by simpa using hok.1.1
   exact wpAnyQ_first hz ho (Region.noSelect_spec hs) (fun c a w hq => hQ c _ _ w hq) fuel listed a w hcl (Region.free_spec ho hok.1.2) hrd hy hS (ih fuel _ _ _ (hcl.next hrd) hf' hok.2 hne' (fun _ => hS) hr)
  | false =>
   unfold seqOk at hok
   simp only [Bool.and_eq_true, beq_iff_eq] at hok
   refine ⟨(fun e => by rw [hok.1] at e; cases e), fun j hj => ?_⟩
   have hrd := hj
   rw [hok.1] at hj
   obtain rfl : j = i := by simpa using hj
   refine wpOp_mono (fun a' w' hh => ⟨hh.1, ih fuel _ a' w' (hcl.next hrd) hf' hok.2 hne' (fun hr => hh.1 ?_) hh.2⟩) h
   exact hne (j, false) (by rw [List.dropLast_cons_of_ne_nil hr]; exact List.mem_cons_self)

theorem wp_region_seqQ (S : World → Prop) (z : Nat) (order : List (Nat × Bool)) {id : Nat} {a : Act} {w : World} (hm : P.follows .mixedOrders = true) (hs : Region.noSelect ops = true) (hz : zOk .any ops z = true)
  (hl : order.length ≤ ops.size) (hok : seqOk .any ops order (Array.replicate ops.size false) = true) (hne : (order.dropLast.all (fun x => x.1 != z)) = true) (hS : S w.drew)
  (h : ∀ OPS, Hid (OPS = ops) → wpSeqQ P OPS (NoPanic Q) S z order a w.drew) : (Code.region id ops true).wp P Q a w :=
 wp_region_noPanic (wp_region_any hm (wpAnyT_any _ _ _ _ (wpSeqQ_sound hz hs (fun _ _ _ _ h => h) order _ _ _ _ (Closed.start _) hl hok (fun x hx => by simpa using List.all_eq_true.1 hne x hx) (fun _ => hS) (h ops (Lib.hid rfl)))))

variable {r : List (Nat × Bool)} {z i : Nat} {o : Oper} {v : Value} {a : Act} {w : World}

theorem seqQ_take (ho : ops[i]? = some o) (hw : Region.wanted o (yielded ops a.tmps) = true) (hv : ∀ w, S w → (execOp a.eval o).run P w = .ok (.value v) w)
  (h : wpSeqQ P ops Q S z r (a.put o.dst v) w) : wpSeqQ P ops Q S z ((i, true) :: r) a w := ⟨o, v, ho, .inl ⟨hw, fun w hS => .inl (hv w hS)⟩, h⟩
/-- A call that changes nothing. -/
theorem seqQ_quiet (ho : ops[i]? = some o) (hw : Region.wanted o (yielded ops a.tmps) = true) (f : FuncId) (args : Array Value) (he : ∀ w, S w → (execOp a.eval o).run P w = .ok (.enter f args) w) (v : Value)
  (hc : ∀ w, S w → Calls P f args w fun e w' => e = .returned v ∧ w' = w) (h : wpSeqQ P ops Q S z r (a.put o.dst v) w) : wpSeqQ P ops Q S z ((i, true) :: r) a w :=
 ⟨o, v, ho, .inl ⟨hw, fun w hS => .inr ⟨f, args, he w hS, hc w hS⟩⟩, h⟩
theorem seqQ_do (ho : ops[i]? = some o) (hw : Region.wanted o (yielded ops a.tmps) = true)
  (h : ∀ K : Act → World → Prop, Shut (∀ a w, (i ≠ z → S w) → wpSeqQ P ops Q S z r a w → K a w) → Oper.wp P o a w K Q) : wpSeqQ P ops Q S z ((i, false) :: r) a w :=
 wpOp_step ho fun K hK => by
  rw [if_pos hw]
  exact h K (fun a w hS hr => hK a w ⟨hS, hr⟩)
theorem seqQ_done (h : Q .normal a w) : wpSeqQ P ops (NoPanic Q) S z [] a w := h
end
end Go.Proofs.YtchfhojighopkaaGreatDoor
