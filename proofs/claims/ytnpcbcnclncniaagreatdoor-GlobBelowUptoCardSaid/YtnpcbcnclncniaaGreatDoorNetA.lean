/-
  The texts Seq, SeqT, Inv, Inv2, Net1, Net2, Net3, NetM, NetW, Net5, Net6, Net7, Net8, Net9, Net10, NetX, Net11, in one.
-/
import Derived.Test.YtnpcbcnclncniaaGreatDoorBase
import Derived.Deep.RegionHeld3
import Derived.StillTail
import Derived.Test.YtnpcbcnclncniaaGreatDoorGlobM1
import Derived.Test.YtnpcbcnclncniaaGreatDoorBoxIs
import Derived.Test.YtnpcbcnclncniaaGreatDoorOwn
import Derived.Test.YtnpcbcnclncniaaGreatDoorOneB
namespace Go.Proofs.YtnpcbcnclncniaaGreatDoor
open Go.RowKit

section
variable {P : Program} {ops : Array Oper} {Q : Exit → Act → World → Prop} {md : Region.Mode} {S : World → Prop}

/-- The order is one that the edges allow; each number marked 'true' may be taken first, each other one is the only one that may come up. -/
def seqOk (md : Region.Mode) (ops : Array Oper) : List (Nat × Bool) → Array Bool → Bool
  | [], listed => (Region.ready md ops listed).isEmpty
  | (i, true) :: r, listed => ((Region.ready md ops listed).contains i && Region.free md ops listed i) && seqOk md ops r (listed.setIfInBounds i true)
  | (i, false) :: r, listed => (Region.ready md ops listed == [i]) && seqOk md ops r (listed.setIfInBounds i true)

/-- The walk along the order. -/
def wpSeq (P : Program) (ops : Array Oper) (Q : Exit → Act → World → Prop) (S : World → Prop) : List (Nat × Bool) → Act → World → Prop
  | [], a, w => Q .normal a w
  | (i, true) :: r, a, w => ∃ o v, ops[i]? = some o ∧ YieldsIf P ops S o v a ∧ wpSeq P ops Q S r (a.put o.dst v) w
  | (i, false) :: r, a, w => wpOp P ops Q i (fun a' w' => S w' ∧ wpSeq P ops Q S r a' w') a w

theorem wpSeq_sound (hs : Region.noSelect ops = true) (hQ : ∀ c a a' w, Q (.panic c) a w → Q (.panic c) a' w) :
    ∀ (order : List (Nat × Bool)) (fuel : Nat) (listed : Array Bool) (a : Act) (w : World), order.length ≤ fuel → seqOk md ops order listed = true → S w →
      wpSeq P ops Q S order a w → wpAnyH P md ops Q S fuel listed a w := by
  intro order
  induction order with
  | nil =>
    intro fuel listed a w _ hok _ h
    exact wpAnyH_done (List.isEmpty_iff.1 hok) h fuel
  | cons x r ih =>
    obtain ⟨i, t⟩ := x
    intro fuel listed a w hf hok hS h
    rcases fuel with _ | fuel
    · simp at hf
    have hf' : r.length ≤ fuel := by simpa using hf
    cases t with
    | true =>
      obtain ⟨o, v, ho, hy, hr⟩ := h
      unfold seqOk at hok
      simp only [Bool.and_eq_true] at hok
      exact wpAnyH_take ho hs hok.1.2 hok.1.1 (fun c a w hq => hQ c _ _ w hq) hy hS (ih fuel _ _ _ hf' hok.2 hS hr)
    | false =>
      unfold seqOk at hok
      simp only [Bool.and_eq_true, beq_iff_eq] at hok
      refine wpAnyH_all hok.1 (by simp) fun j hj => ?_
      obtain rfl : j = i := by simpa using hj
      exact wpOp_mono (fun a' w' hh => ⟨hh.1, ih fuel _ a' w' hf' hok.2 hh.1 hh.2⟩) h

/-- The beginning: the region is shown not to panic. -/
theorem wp_region_seq (S : World → Prop) (order : List (Nat × Bool)) {id : Nat} {a : Act} {w : World} (hm : P.follows .mixedOrders = true) (hs : Region.noSelect ops = true)
    (hl : order.length ≤ ops.size) (hok : seqOk .any ops order (Array.replicate ops.size false) = true) (hS : S w.drew)
    (h : ∀ OPS, Hid (OPS = ops) → wpSeq P OPS (NoPanic Q) S order a w.drew) : (Code.region id ops true).wp P Q a w :=
  wp_region_noPanic (wp_region_held hm (wpSeq_sound hs (fun _ _ _ _ h => h) order _ _ _ _ hl hok hS (h ops (Lib.hid rfl))))

variable {r : List (Nat × Bool)} {i : Nat} {o : Oper} {v : Value} {a : Act} {w : World}

theorem seq_take (ho : ops[i]? = some o) (hw : Region.wanted o (yielded ops a.tmps) = true) (hv : ∀ w, S w → (execOp a.eval o).run P w = .ok (.value v) w)
    (h : wpSeq P ops Q S r (a.put o.dst v) w) : wpSeq P ops Q S ((i, true) :: r) a w := ⟨o, v, ho, .inl ⟨hw, hv⟩, h⟩

theorem seq_skip (ho : ops[i]? = some o) (hw : Region.wanted o (yielded ops a.tmps) = false)
    (h : wpSeq P ops Q S r (a.put o.dst undef) w) : wpSeq P ops Q S ((i, true) :: r) a w := ⟨o, undef, ho, .inr ⟨hw, rfl⟩, h⟩

theorem seq_do (ho : ops[i]? = some o) (hw : Region.wanted o (yielded ops a.tmps) = true)
    (h : ∀ K : Act → World → Prop, Shut (∀ a w, S w → (S w → wpSeq P ops Q S r a w) → K a w) → Oper.wp P o a w K Q) : wpSeq P ops Q S ((i, false) :: r) a w :=
  wpOp_step ho fun K hK => by
    rw [if_pos hw]
    exact h K (fun a w hS hr => hK a w ⟨hS, hr hS⟩)

theorem seq_done (h : Q .normal a w) : wpSeq P ops (NoPanic Q) S [] a w := h
end
end Go.Proofs.YtnpcbcnclncniaaGreatDoor
namespace Go.Proofs.YtnpcbcnclncniaaGreatDoor
open Go.RowKit

section
variable {P : Program} {ops : Array Oper} {Q : Exit → Act → World → Prop} {md : Region.Mode} {S : World → Prop}

/-- Every order; S is to hold behind each operation but number z. -/
def wpAnyT (P : Program) (md : Region.Mode) (ops : Array Oper) (Q : Exit → Act → World → Prop) (S : World → Prop) (z : Nat) : Nat → Array Bool → Act → World → Prop
  | 0, l, a, w => Region.ready md ops l = [] ∧ Q .normal a w
  | n + 1, l, a, w => (Region.ready md ops l = [] → Q .normal a w) ∧
    ∀ i ∈ Region.ready md ops l, wpOp P ops Q i (fun a' w' => (i ≠ z → S w') ∧ wpAnyT P md ops Q S z n (l.setIfInBounds i true) a' w') a w

theorem wpAnyT_any {z : Nat} : ∀ (n : Nat) (l : Array Bool) (a : Act) (w : World), wpAnyT P md ops Q S z n l a w → wpAny P md ops Q n l a w
  | 0, _, _, _, h => h
  | n + 1, _, _, _, h => ⟨h.1, fun i hi => wpOp_mono (fun a' w' h' => wpAnyT_any n _ a' w' h'.2) (h.2 i hi)⟩

/-- Number z waits for all others. -/
def waitsAll (md : Region.Mode) (ops : Array Oper) (z : Nat) : Bool := (List.range ops.size).all fun k => k == z || Region.waitsFor md ops z k
theorem alone_of {z : Nat} (h : waitsAll md ops z = true) {l : Array Bool} (hz : z ∈ Region.ready md ops l) {i : Nat} (hi : i ∈ Region.ready md ops l) : i = z := by
  by_cases e : i = z
  · exact e
  exfalso
  obtain ⟨h0, oi, hoi, _⟩ := mem_ready.1 hi
  obtain ⟨_, oz, hoz, hall⟩ := mem_ready.1 hz
  have hlt : i < ops.size := (Array.getElem?_eq_some_iff.1 hoi).1
  have hw := List.all_eq_true.1 h i (List.mem_range.2 hlt)
  simp only [Bool.or_eq_true, beq_iff_eq] at hw
  rcases hw with hw | hw
  · exact e hw
  obtain ⟨oj, hoj, ed, hed, hb, hon⟩ := Region.waitsFor_spec hw
  rw [hoz] at hoj
  cases hoj
  have h1 := hall ed hed hb
  rw [hon] at h1
  rcases Nat.lt_or_ge i l.size with h' | h'
  · simp [h'] at h0 h1
    rw [h0] at h1
    cases h1
  · simp [Array.getElem?_eq_none h'] at h1

theorem wpAnyT_first {z : Nat} (hz : waitsAll md ops z = true) {i : Nat} {oi : Oper} {v : Value} (hi : ops[i]? = some oi) (hsel : ∀ (j : Nat) (o : Oper) cs b, ops[j]? = some o → o.op ≠ .select cs b)
    (hQ : ∀ c a w, Q (.panic c) (a.put oi.dst v) w → Q (.panic c) a w) : ∀ (n : Nat) (l : Array Bool) (a : Act) (w : World),
      (∀ j oj, ops[j]? = some oj → j ≠ i → l.getD j true = false → (∀ e ∈ oj.after, Region.binds md e = true → e.on ≠ i) → oi.apart ops oj = true) →
      i ∈ Region.ready md ops l → YieldsIf P ops S oi v a → S w → wpAnyT P md ops Q S z n (l.setIfInBounds i true) (a.put oi.dst v) w → wpAnyT P md ops Q S z (n + 1) l a w
  | n, l, a, w, hfree, hr, hy, hS, H => by
    refine ⟨fun h => absurd hr (by rw [h]; simp), fun j hj => ?_⟩
    by_cases hji : j = i
    · subst hji
      exact hy.wpOp hi hS ⟨fun _ => hS, H⟩
    have hj' := ready_mono hj hji
    cases n with
    | zero => rw [H.1] at hj'; cases hj'
    | succ n =>
      obtain ⟨hjun, oj, hoj, hall⟩ := mem_ready.1 hj
      have hnot : ∀ e ∈ oj.after, Region.binds md e = true → e.on ≠ i := fun e he hb heq => by
        have h1 := hall e he hb
        have h0 := (mem_ready.1 hr).1
        rw [heq] at h1
        rcases Nat.lt_or_ge i l.size with h' | h'
        · simp [h'] at h0 h1
          rw [h0] at h1
          cases h1
        · simp [Array.getElem?_eq_none h'] at h1
      have hr' : i ∈ Region.ready md ops (l.setIfInBounds j true) := ready_mono hr (Ne.symm hji)
      have hjz : j ≠ z := fun e => hji (by subst e; exact (alone_of hz hj hr).symm)
      have hfree' : ∀ k ok, ops[k]? = some ok → k ≠ i → (l.setIfInBounds j true).getD k true = false → (∀ e ∈ ok.after, Region.binds md e = true → e.on ≠ i) → oi.apart ops ok = true := fun k ok hk hki hun hno => by
        refine hfree k ok hk hki ?_ hno
        by_cases hjk : j = k
        · subst hjk
          exact hjun
        · rwa [getD_set_ne true hjk] at hun
      have h2 := wpOp_putIf hoj (hfree j oj hoj hji hjun hnot) (fun cs b => hsel i oi cs b hi) (fun cs b => hsel j oj cs b hoj) hQ hy (H.2 j hj')
      refine wpOp_mono (fun a' w' h3 => ?_) h2
      have hS' := h3.2.1 hjz
      refine ⟨fun _ => hS', wpAnyT_first hz hi hsel hQ n _ a' w' hfree' hr' h3.1 hS' ?_⟩
      rw [Array.setIfInBounds_comm _ _ hji]
      exact h3.2.2

/-- The walk along the order; number z may change what S says. -/
def wpSeqT (P : Program) (ops : Array Oper) (Q : Exit → Act → World → Prop) (S : World → Prop) (z : Nat) : List (Nat × Bool) → Act → World → Prop
  | [], a, w => Q .normal a w
  | (i, true) :: r, a, w => ∃ o v, ops[i]? = some o ∧ YieldsIf P ops S o v a ∧ wpSeqT P ops Q S z r (a.put o.dst v) w
  | (i, false) :: r, a, w => wpOp P ops Q i (fun a' w' => (i ≠ z → S w') ∧ wpSeqT P ops Q S z r a' w') a w

theorem wpSeqT_sound {z : Nat} (hz : waitsAll md ops z = true) (hs : Region.noSelect ops = true) (hQ : ∀ c a a' w, Q (.panic c) a w → Q (.panic c) a' w) :
    ∀ (order : List (Nat × Bool)) (fuel : Nat) (listed : Array Bool) (a : Act) (w : World), order.length ≤ fuel → seqOk md ops order listed = true → (∀ x ∈ order.dropLast, x.1 ≠ z) → (order ≠ [] → S w) →
      wpSeqT P ops Q S z order a w → wpAnyT P md ops Q S z fuel listed a w := by
  intro order
  induction order with
  | nil =>
    intro fuel listed a w _ hok _ _ h
    have hr := List.isEmpty_iff.1 hok
    cases fuel with
    | zero => exact ⟨hr, h⟩
    | succ n => exact ⟨fun _ => h, by rw [hr]; simp⟩
  | cons x r ih =>
    obtain ⟨i, t⟩ := x
    intro fuel listed a w hf hok hne hS0 h
    have hS := hS0 (by simp)
    rcases fuel with _ | fuel
    · simp at hf
    have hf' : r.length ≤ fuel := by simpa using hf
    have hne' : ∀ x ∈ r.dropLast, x.1 ≠ z := fun x hx => by
      cases r with
      | nil => simp at hx
      | cons y r => exact hne x (by rw [List.dropLast_cons_of_ne_nil (by simp)]; exact List.mem_cons_of_mem _ hx)
    cases t with
    | true =>
      obtain ⟨o, v, ho, hy, hr⟩ := h
      unfold seqOk at hok
      simp only [Bool.and_eq_true] at hok
      exact wpAnyT_first hz ho (Region.noSelect_spec hs) (fun c a w hq => hQ c _ _ w hq) fuel listed a w (Region.free_spec ho hok.1.2) (by simpa using hok.1.1) hy hS (ih fuel _ _ _ hf' hok.2 hne' (fun _ => hS) hr)
    | false =>
      unfold seqOk at hok
      simp only [Bool.and_eq_true, beq_iff_eq] at hok
      refine ⟨(fun e => by rw [hok.1] at e; cases e), fun j hj => ?_⟩
      rw [hok.1] at hj
      obtain rfl : j = i := by simpa using hj
      refine wpOp_mono (fun a' w' hh => ⟨hh.1, ih fuel _ a' w' hf' hok.2 hne' (fun hr => hh.1 ?_) hh.2⟩) h
      exact hne (j, false) (by rw [List.dropLast_cons_of_ne_nil hr]; exact List.mem_cons_self)

/-- The beginning: the region is shown not to panic. -/
theorem wp_region_seqT (S : World → Prop) (z : Nat) (order : List (Nat × Bool)) {id : Nat} {a : Act} {w : World} (hm : P.follows .mixedOrders = true) (hs : Region.noSelect ops = true) (hz : waitsAll .any ops z = true)
    (hl : order.length ≤ ops.size) (hok : seqOk .any ops order (Array.replicate ops.size false) = true) (hne : (order.dropLast.all (fun x => x.1 != z)) = true) (hS : S w.drew)
    (h : ∀ OPS, Hid (OPS = ops) → wpSeqT P OPS (NoPanic Q) S z order a w.drew) : (Code.region id ops true).wp P Q a w :=
  wp_region_noPanic (wp_region_any hm (wpAnyT_any _ _ _ _ (wpSeqT_sound hz hs (fun _ _ _ _ h => h) order _ _ _ _ hl hok (fun x hx => by simpa using List.all_eq_true.1 hne x hx) (fun _ => hS) (h ops (Lib.hid rfl)))))

variable {r : List (Nat × Bool)} {z i : Nat} {o : Oper} {v : Value} {a : Act} {w : World}

theorem seqT_take (ho : ops[i]? = some o) (hw : Region.wanted o (yielded ops a.tmps) = true) (hv : ∀ w, S w → (execOp a.eval o).run P w = .ok (.value v) w)
    (h : wpSeqT P ops Q S z r (a.put o.dst v) w) : wpSeqT P ops Q S z ((i, true) :: r) a w := ⟨o, v, ho, .inl ⟨hw, hv⟩, h⟩
theorem seqT_do (ho : ops[i]? = some o) (hw : Region.wanted o (yielded ops a.tmps) = true)
    (h : ∀ K : Act → World → Prop, Shut (∀ a w, (i ≠ z → S w) → wpSeqT P ops Q S z r a w → K a w) → Oper.wp P o a w K Q) : wpSeqT P ops Q S z ((i, false) :: r) a w :=
  wpOp_step ho fun K hK => by
    rw [if_pos hw]
    exact h K (fun a w hS hr => hK a w ⟨hS, hr⟩)
theorem seqT_done (h : Q .normal a w) : wpSeqT P ops (NoPanic Q) S z [] a w := h
end
end Go.Proofs.YtnpcbcnclncniaaGreatDoor
namespace Go.Proofs.YtnpcbcnclncniaaGreatDoor
open Go.RowKit

section
variable {P : Program} {ops : Array Oper} {Q : Exit → Act → World → Prop} {md : Region.Mode}

/-- How many have not come up. -/
def unl (listed : Array Bool) : Nat := listed.toList.countP (!·)

theorem unl_set {listed : Array Bool} {i : Nat} (h : listed.getD i true = false) : unl (listed.setIfInBounds i true) + 1 = unl listed := by
  have hlt : i < listed.size := by
    rcases Nat.lt_or_ge i listed.size with h' | h'
    · exact h'
    · simp [Array.getElem?_eq_none h'] at h
  have hv : listed.toList[i]'(by simpa using hlt) = false := by
    simp [hlt] at h
    simpa using h
  unfold unl
  rw [Array.toList_setIfInBounds, List.countP_set (h := by simpa using hlt), hv]
  have : 0 < listed.toList.countP (!·) := List.countP_pos_iff.2 ⟨false, by rw [← hv]; exact List.getElem_mem _, rfl⟩
  simp only [Bool.not_false, Bool.not_true, if_true, Bool.false_eq_true, if_false]
  omega

theorem unl_none {listed : Array Bool} (h : unl listed = 0) (i : Nat) : listed.getD i true = true := by
  rcases Nat.lt_or_ge i listed.size with h' | h'
  · have hx := List.countP_eq_zero.1 h (listed[i]'h') (by simp)
    simp at hx
    simp [h', hx]
  · simp [Array.getElem?_eq_none h']

/-- Each operation waits for earlier ones alone. -/
def topoOk (ops : Array Oper) : Bool := (List.range ops.size).all fun i => match ops[i]? with | some o => o.after.all (fun e => decide (e.on < i)) | none => true

theorem topoOk_spec (h : topoOk ops = true) {i : Nat} {o : Oper} (ho : ops[i]? = some o) : ∀ e ∈ o.after, e.on < i := by
  intro e he
  have hi := (Array.getElem?_eq_some_iff.1 ho).1
  have h1 := List.all_eq_true.1 h i (List.mem_range.2 hi)
  rw [ho] at h1
  have h2 := Array.all_eq_true_iff_forall_mem.1 h1 e he
  exact of_decide_eq_true h2

theorem all_listed (ht : topoOk ops = true) {listed : Array Bool} (hs : listed.size = ops.size) (hr : Region.ready md ops listed = []) : ∀ i, i < ops.size → listed.getD i false = true := by
  intro i
  induction i using Nat.strongRecOn with
  | _ i ih =>
    intro hi
    have ho : ops[i]? = some ops[i] := Array.getElem?_eq_getElem hi
    cases hl : listed.getD i false with
    | true => rfl
    | false =>
      have hl2 : listed.getD i true = false := by
        have hlt : i < listed.size := by omega
        simp [hlt] at hl ⊢
        exact hl
      have : i ∈ Region.ready md ops listed := mem_ready.2 ⟨hl2, _, ho, fun e he _ => ih e.on (topoOk_spec ht ho e he) (Nat.lt_trans (topoOk_spec ht ho e he) hi)⟩
      rw [hr] at this
      cases this

theorem wpAny_inv {Inv : (Nat → Prop) → Act → World → Prop} (ht : topoOk ops = true)
    (hstep : ∀ i o, ops[i]? = some o → ∀ (L : Nat → Prop) a w, Inv L a w → (∀ e ∈ o.after, Region.binds md e = true → L e.on) →
      ∀ K : Act → World → Prop, Shut (∀ a w, (∀ L' : Nat → Prop, (∀ j, L' j → j = i ∨ L j) → Inv L' a w) → K a w) → if Region.wanted o (yielded ops a.tmps) = true then Oper.wp P o a w K Q else K (a.put o.dst undef) w)
    (hdone : ∀ L a w, Inv L a w → (∀ i, i < ops.size → L i) → Q .normal a w) :
    ∀ (fuel : Nat) (listed : Array Bool) (a : Act) (w : World), listed.size = ops.size → unl listed ≤ fuel → Inv (fun j => listed.getD j false = true) a w → wpAny P md ops Q fuel listed a w := by
  intro fuel
  induction fuel with
  | zero =>
    intro listed a w hs hu hI
    have hr : Region.ready md ops listed = [] := by
      rw [List.eq_nil_iff_forall_not_mem]
      intro i hi
      have := (mem_ready.1 hi).1
      rw [unl_none (by omega) i] at this
      cases this
    exact ⟨hr, hdone _ a w hI (all_listed ht hs hr)⟩
  | succ fuel ih =>
    intro listed a w hs hu hI
    refine ⟨fun hr => hdone _ a w hI (all_listed ht hs hr), fun i hi => ?_⟩
    obtain ⟨hun, o, ho, hall⟩ := mem_ready.1 hi
    refine wpOp_step ho fun K hK => hstep i o ho _ a w hI hall K (fun a' w' h => hK a' w' ?_)
    refine ih _ a' w' (by simpa using hs) (by have := unl_set hun; omega) (h _ fun j hj => ?_)
    by_cases hji : j = i
    · exact .inl hji
    · rw [getD_set_ne false (Ne.symm hji)] at hj
      exact .inr hj

/-- The beginning. -/
theorem wp_region_inv (Inv : (Nat → Prop) → Act → World → Prop) {id : Nat} {a : Act} {w : World} (hm : P.follows .mixedOrders = true) (ht : topoOk ops = true) (h0 : Inv (fun _ => False) a w.drew)
    (hstep : ∀ i o, ops[i]? = some o → ∀ (L : Nat → Prop) a w, Inv L a w → (∀ e ∈ o.after, Region.binds .any e = true → L e.on) →
      ∀ K : Act → World → Prop, Shut (∀ a w, (∀ L' : Nat → Prop, (∀ j, L' j → j = i ∨ L j) → Inv L' a w) → K a w) → if Region.wanted o (yielded ops a.tmps) = true then Oper.wp P o a w K Q else K (a.put o.dst undef) w)
    (hdone : ∀ L a w, Inv L a w → (∀ i, i < ops.size → L i) → Q .normal a w) : (Code.region id ops true).wp P Q a w := by
  refine wp_region_any hm (wpAny_inv ht hstep hdone _ _ _ _ (by simp) (by unfold unl; exact Nat.le_trans List.countP_le_length (by simp)) ?_)
  have e : (fun j => (Array.replicate ops.size false).getD j false = true) = fun _ : Nat => False := by
    funext j
    simp [Array.getElem?_replicate]
    split <;> simp
  rw [e]
  exact h0
end
end Go.Proofs.YtnpcbcnclncniaaGreatDoor
namespace Go.Proofs.YtnpcbcnclncniaaGreatDoor
open Go.RowKit

section
variable {P : Program} {ops : Array Oper} {Q : Exit → Act → World → Prop} {md : Region.Mode}

theorem listed_set {listed : Array Bool} {i : Nat} (h : listed.getD i true = false) : (fun j => (listed.setIfInBounds i true).getD j false = true) = fun j => j = i ∨ listed.getD j false = true := by
  have hlt : i < listed.size := by
    rcases Nat.lt_or_ge i listed.size with h' | h'
    · exact h'
    · simp [Array.getElem?_eq_none h'] at h
  funext j
  apply propext
  by_cases hji : j = i
  · subst hji
    simp [hlt]
  · rw [getD_set_ne false (Ne.symm hji)]
    simp [hji]

theorem wpAny_inv2 {Inv : (Nat → Prop) → Act → World → Prop} (ht : topoOk ops = true)
    (hstep : ∀ i o, ops[i]? = some o → ∀ (L : Nat → Prop) a w, Inv L a w → ¬ L i → (∀ e ∈ o.after, Region.binds md e = true → L e.on) →
      ∀ K : Act → World → Prop, Shut (∀ a w, Inv (fun j => j = i ∨ L j) a w → K a w) → if Region.wanted o (yielded ops a.tmps) = true then Oper.wp P o a w K Q else K (a.put o.dst undef) w)
    (hdone : ∀ L a w, Inv L a w → (∀ i, i < ops.size → L i) → Q .normal a w) :
    ∀ (fuel : Nat) (listed : Array Bool) (a : Act) (w : World), listed.size = ops.size → unl listed ≤ fuel → Inv (fun j => listed.getD j false = true) a w → wpAny P md ops Q fuel listed a w := by
  intro fuel
  induction fuel with
  | zero =>
    intro listed a w hs hu hI
    have hr : Region.ready md ops listed = [] := by
      rw [List.eq_nil_iff_forall_not_mem]
      intro i hi
      have := (mem_ready.1 hi).1
      rw [unl_none (by omega) i] at this
      cases this
    exact ⟨hr, hdone _ a w hI (all_listed ht hs hr)⟩
  | succ fuel ih =>
    intro listed a w hs hu hI
    refine ⟨fun hr => hdone _ a w hI (all_listed ht hs hr), fun i hi => ?_⟩
    obtain ⟨hun, o, ho, hall⟩ := mem_ready.1 hi
    have hnot : ¬ listed.getD i false = true := by
      intro h
      rcases Nat.lt_or_ge i listed.size with h' | h'
      · simp [h'] at hun h
        rw [hun] at h
        cases h
      · simp [Array.getElem?_eq_none h'] at h
    refine wpOp_step ho fun K hK => hstep i o ho _ a w hI hnot hall K (fun a' w' h => hK a' w' ?_)
    refine ih _ a' w' (by simpa using hs) (by have := unl_set hun; omega) ?_
    rw [listed_set hun]
    exact h

/-- The beginning. -/
theorem wp_region_inv2 (Inv : (Nat → Prop) → Act → World → Prop) {id : Nat} {a : Act} {w : World} (hm : P.follows .mixedOrders = true) (ht : topoOk ops = true) (h0 : Inv (fun _ => False) a w.drew)
    (hstep : ∀ i o, ops[i]? = some o → ∀ (L : Nat → Prop) a w, Inv L a w → ¬ L i → (∀ e ∈ o.after, Region.binds .any e = true → L e.on) →
      ∀ K : Act → World → Prop, Shut (∀ a w, Inv (fun j => j = i ∨ L j) a w → K a w) → if Region.wanted o (yielded ops a.tmps) = true then Oper.wp P o a w K Q else K (a.put o.dst undef) w)
    (hdone : ∀ L a w, Inv L a w → (∀ i, i < ops.size → L i) → Q .normal a w) : (Code.region id ops true).wp P Q a w := by
  refine wp_region_any hm (wpAny_inv2 ht hstep hdone _ _ _ _ (by simp) (by unfold unl; exact Nat.le_trans List.countP_le_length (by simp)) ?_)
  have e : (fun j => (Array.replicate ops.size false).getD j false = true) = fun _ : Nat => False := by
    funext j
    simp [Array.getElem?_replicate]
    split <;> simp
  rw [e]
  exact h0
end
end Go.Proofs.YtnpcbcnclncniaaGreatDoor
namespace Go.Proofs.YtnpcbcnclncniaaGreatDoor
open Go.RowKit

/-- An arrow: where it leads to, and what it takes (none: no byte). -/
structure Arr where
  dst : Nat
  takes : Option (UInt8 → Bool)
abbrev NetA : Type := List (List Arr)
def rowN (A : NetA) (q : Nat) : List Arr := A.getD q []
def addS (A : NetA) : NetA := A ++ [[]]
def addA (A : NetA) (q dst : Nat) (t : Option (UInt8 → Bool)) : NetA := A.set q (rowN A q ++ [⟨dst, t⟩])

theorem addS_len (A : NetA) : (addS A).length = A.length + 1 := by simp [addS]
theorem addA_len (A : NetA) (q dst : Nat) (t : Option (UInt8 → Bool)) : (addA A q dst t).length = A.length := by simp [addA]
theorem rowN_ge {A : NetA} {q : Nat} (h : A.length ≤ q) : rowN A q = [] := by
  unfold rowN
  rw [List.getD_eq_getElem?_getD, List.getElem?_eq_none h]
  rfl
theorem rowN_addS (A : NetA) (q : Nat) : rowN (addS A) q = rowN A q := by
  unfold rowN addS
  rw [List.getD_eq_getElem?_getD, List.getD_eq_getElem?_getD, List.getElem?_append]
  by_cases h : q < A.length
  · rw [if_pos h]
  · rw [if_neg h, List.getElem?_eq_none (by omega : A.length ≤ q)]
    rcases Nat.eq_zero_or_pos (q - A.length) with e | e
    · rw [e]; rfl
    · rw [List.getElem?_eq_none (by simp; omega)]
theorem rowN_addA {A : NetA} {q : Nat} (dst : Nat) (t : Option (UInt8 → Bool)) (hq : q < A.length) (p : Nat) : rowN (addA A q dst t) p = if p = q then rowN A q ++ [⟨dst, t⟩] else rowN A p := by
  conv => lhs; unfold rowN addA
  rw [List.getD_eq_getElem?_getD, List.getElem?_set]
  by_cases h : q = p
  · subst h
    rw [if_pos rfl, if_pos hq, if_pos rfl]
    rfl
  · rw [if_neg h, if_neg (fun e => h e.symm)]
    unfold rowN
    rw [List.getD_eq_getElem?_getD]

/-- Arrows lead to states. -/
def WF (A : NetA) : Prop := ∀ q, ∀ a ∈ rowN A q, a.dst < A.length
def Ext (A B : NetA) : Prop := A.length ≤ B.length ∧ ∀ q, ∀ a ∈ rowN A q, a ∈ rowN B q
theorem Ext.refl (A : NetA) : Ext A A := ⟨Nat.le_refl _, fun _ _ h => h⟩
theorem Ext.trans {A B C : NetA} (h : Ext A B) (k : Ext B C) : Ext A C := ⟨Nat.le_trans h.1 k.1, fun q a ha => k.2 q a (h.2 q a ha)⟩
theorem Ext.addS (A : NetA) : Ext A (addS A) := ⟨by rw [addS_len]; omega, fun q a h => by rw [rowN_addS]; exact h⟩
theorem Ext.addA {A : NetA} {q : Nat} (dst : Nat) (t : Option (UInt8 → Bool)) (hq : q < A.length) : Ext A (addA A q dst t) :=
  ⟨by rw [addA_len]; exact Nat.le_refl _, fun p a h => by
    rw [rowN_addA dst t hq]
    split
    · next e => subst e; exact List.mem_append.2 (.inl h)
    · exact h⟩
theorem WF.addS {A : NetA} (h : WF A) : WF (addS A) := fun q a ha => by
  rw [rowN_addS] at ha
  have := h q a ha
  rw [addS_len]
  omega
theorem WF.addA {A : NetA} {q dst : Nat} {t : Option (UInt8 → Bool)} (h : WF A) (hq : q < A.length) (ht : dst < A.length) : WF (addA A q dst t) := fun p a ha => by
  rw [rowN_addA dst t hq] at ha
  rw [addA_len]
  split at ha
  · rcases List.mem_append.1 ha with ha | ha
    · exact h _ a ha
    · rw [List.mem_singleton.1 ha]
      exact ht
  · exact h p a ha

/-- A net leads from one state to another, reading a word. -/
inductive Path (A : NetA) : Nat → List UInt8 → Nat → Prop
  | here (q : Nat) : Path A q [] q
  | free {q q' : Nat} {u : List UInt8} {a : Arr} : a ∈ rowN A q → a.takes = none → Path A a.dst u q' → Path A q u q'
  | byte {q q' : Nat} {u : List UInt8} {a : Arr} {c : UInt8} {t : UInt8 → Bool} : a ∈ rowN A q → a.takes = some t → t c = true → Path A a.dst u q' → Path A q (c :: u) q'
theorem Path.ext {A B : NetA} (h : Ext A B) {q q' : Nat} {u : List UInt8} (p : Path A q u q') : Path B q u q' := by
  induction p with
  | here q => exact .here q
  | free h1 h2 _ ih => exact .free (h.2 _ _ h1) h2 ih
  | byte h1 h2 h3 _ ih => exact .byte (h.2 _ _ h1) h2 h3 ih
theorem Path.trans {A : NetA} {q q' q'' : Nat} {u v : List UInt8} (p : Path A q u q') (k : Path A q' v q'') : Path A q (u ++ v) q'' := by
  induction p with
  | here q => exact k
  | free h1 h2 _ ih => exact .free h1 h2 (ih k)
  | byte h1 h2 h3 _ ih => exact .byte h1 h2 h3 (ih k)

/-- The bytes between two places. -/
def seg (s : List UInt8) (i j : Nat) : List UInt8 := (s.drop i).take (j - i)
theorem seg_self (s : List UInt8) (i : Nat) : seg s i i = [] := by simp [seg]
theorem seg_app {s : List UInt8} {i m j : Nat} (h1 : i ≤ m) (h2 : m ≤ j) : seg s i m ++ seg s m j = seg s i j := by
  unfold seg
  rw [show j - i = (m - i) + (j - m) by omega, List.take_add, List.drop_drop, show i + (m - i) = m by omega]
theorem seg_one {s : List UInt8} {i : Nat} {c : UInt8} (h : s[i]? = some c) : seg s i (i + 1) = [c] := by
  unfold seg
  obtain ⟨hl, hc⟩ := List.getElem?_eq_some_iff.1 h
  rw [show i + 1 - i = 1 by omega, List.drop_eq_getElem_cons hl, hc]
  rfl

/-- Marks on states: places of a text; they go along with the arrows. -/
def Clo (s : List UInt8) (A : NetA) (L : Nat → Nat → Prop) : Prop :=
  (∀ q i, L q i → i ≤ s.length) ∧ ∀ q, ∀ a ∈ rowN A q, ∀ i, L q i → (a.takes = none → L a.dst i) ∧ ∀ t c, a.takes = some t → s[i]? = some c → t c = true → L a.dst (i + 1)
theorem Clo.path {s : List UInt8} {A : NetA} {L : Nat → Nat → Prop} (h : Clo s A L) {q q' : Nat} {u : List UInt8} (p : Path A q u q') : ∀ i, L q i → (s.drop i).take u.length = u → L q' (i + u.length) := by
  induction p with
  | here q => intro i hi _; exact hi
  | free h1 h2 _ ih => exact fun i hi hu => ih i ((h.2 _ _ h1 i hi).1 h2) hu
  | @byte q q' u a c t h1 h2 h3 _ ih =>
    intro i hi hu
    have hc : s[i]? = some c := by
      have := congrArg (fun l => l[0]?) hu
      simpa [List.getElem?_take, List.getElem?_drop] using this
    have h5 := ih (i + 1) ((h.2 _ _ h1 i hi).2 t c h2 hc h3) (by
      obtain ⟨hl, hcc⟩ := List.getElem?_eq_some_iff.1 hc
      rw [List.drop_eq_getElem_cons hl, List.length_cons, List.take_succ_cons] at hu
      injection hu)
    rw [List.length_cons, show i + (u.length + 1) = i + 1 + u.length by omega]
    exact h5

/-- What a piece of the building does: the net grows, and what it reads between the two states is a relation of places. -/
def Builds (s : List UInt8) (f : NetA → Nat → NetA × Nat) (r : Nat → Nat → Prop) : Prop := ∀ A q, q < A.length → WF A →
  Ext A (f A q).1 ∧ WF (f A q).1 ∧ (f A q).2 < (f A q).1.length ∧ (∀ i j, i ≤ s.length → r i j → Path (f A q).1 q (seg s i j) (f A q).2) ∧
  ∀ L, Clo s A L → ∃ L', (∀ p, p < A.length → ∀ i, L' p i ↔ L p i) ∧ Clo s (f A q).1 L' ∧ ∀ j, L' (f A q).2 j → ∃ i, L q i ∧ r i j
theorem Builds.iff {s : List UInt8} {f : NetA → Nat → NetA × Nat} {r r' : Nat → Nat → Prop} (h : Builds s f r) (hr : ∀ i j, r i j ↔ r' i j) : Builds s f r' := by
  intro A q hq hw
  obtain ⟨h1, h2, h3, h4, h5⟩ := h A q hq hw
  refine ⟨h1, h2, h3, fun i j hi hij => h4 i j hi ((hr i j).2 hij), fun L hL => ?_⟩
  obtain ⟨L', h6, h7, h8⟩ := h5 L hL
  exact ⟨L', h6, h7, fun j hj => by
    obtain ⟨i, h9, h10⟩ := h8 j hj
    exact ⟨i, h9, (hr i j).1 h10⟩⟩
theorem Builds.here (s : List UInt8) : Builds s (fun A q => (A, q)) (fun i j => i = j) := by
  intro A q hq hw
  refine ⟨Ext.refl A, hw, hq, fun i j _ e => ?_, fun L hL => ⟨L, fun _ _ _ => Iff.rfl, hL, fun j hj => ⟨j, hj, rfl⟩⟩⟩
  subst e
  rw [seg_self]
  exact .here q
theorem Builds.then {s : List UInt8} {f g : NetA → Nat → NetA × Nat} {r t : Nat → Nat → Prop} (h : Builds s f r) (k : Builds s g t) (hr : ∀ i j, r i j → i ≤ j ∧ (i ≤ s.length → j ≤ s.length)) (ht : ∀ i j, t i j → i ≤ j) :
    Builds s (fun A q => g (f A q).1 (f A q).2) (fun i j => ∃ m, r i m ∧ t m j) := by
  intro A q hq hw
  obtain ⟨h1, h2, h3, h4, h5⟩ := h A q hq hw
  obtain ⟨k1, k2, k3, k4, k5⟩ := k _ _ h3 h2
  refine ⟨h1.trans k1, k2, k3, ?_, fun L hL => ?_⟩
  · rintro i j hi ⟨m, hm, hj⟩
    have hm2 := hr i m hm
    rw [← seg_app hm2.1 (ht m j hj)]
    exact ((h4 i m hi hm).ext k1).trans (k4 m j (hm2.2 hi) hj)
  · obtain ⟨L1, a1, a2, a3⟩ := h5 L hL
    obtain ⟨L2, b1, b2, b3⟩ := k5 L1 a2
    refine ⟨L2, fun p hp i => (b1 p (Nat.lt_of_lt_of_le hp h1.1) i).trans (a1 p hp i), b2, fun j hj => ?_⟩
    obtain ⟨m, c1, c2⟩ := b3 j hj
    obtain ⟨i, d1, d2⟩ := a3 m c1
    exact ⟨i, d1, m, d2, c2⟩

/-- Marks on a new state besides. -/
def labN (N : Nat) (L : Nat → Nat → Prop) (X : Nat → Prop) (p i : Nat) : Prop := (p = N ∧ X i) ∨ (p ≠ N ∧ L p i)
theorem labN_new {N : Nat} {L : Nat → Nat → Prop} {X : Nat → Prop} {i : Nat} : labN N L X N i ↔ X i :=
  ⟨fun h => h.elim (fun h => h.2) (fun h => absurd rfl h.1), fun h => .inl ⟨rfl, h⟩⟩
theorem labN_old {N : Nat} {L : Nat → Nat → Prop} {X : Nat → Prop} {p i : Nat} (h : p ≠ N) : labN N L X p i ↔ L p i :=
  ⟨fun k => k.elim (fun k => absurd k.1 h) (fun k => k.2), fun k => .inr ⟨h, k⟩⟩
theorem Clo.new {s : List UInt8} {A : NetA} {L : Nat → Nat → Prop} (h : Clo s A L) (hw : WF A) (X : Nat → Prop) (hX : ∀ i, X i → i ≤ s.length) : Clo s (addS A) (labN A.length L X) := by
  refine ⟨fun q i hq => ?_, fun q a ha i hq => ?_⟩
  · rcases hq with ⟨_, hq⟩ | ⟨_, hq⟩
    · exact hX i hq
    · exact h.1 q i hq
  · rw [rowN_addS] at ha
    have hqn : q ≠ A.length := by
      rintro rfl
      rw [rowN_ge (Nat.le_refl _)] at ha
      cases ha
    rw [labN_old hqn] at hq
    have hd : a.dst ≠ A.length := Nat.ne_of_lt (hw q a ha)
    have h1 := h.2 q a ha i hq
    exact ⟨fun e => (labN_old hd).2 (h1.1 e), fun t c e1 e2 e3 => (labN_old hd).2 (h1.2 t c e1 e2 e3)⟩
theorem Clo.arrow {s : List UInt8} {A : NetA} {L : Nat → Nat → Prop} (h : Clo s A L) {q : Nat} (hq : q < A.length) (dst : Nat) (t : Option (UInt8 → Bool))
    (k : ∀ i, L q i → (t = none → L dst i) ∧ ∀ t' c, t = some t' → s[i]? = some c → t' c = true → L dst (i + 1)) : Clo s (addA A q dst t) L := by
  refine ⟨h.1, fun p a ha i hp => ?_⟩
  rw [rowN_addA dst t hq] at ha
  split at ha
  · next e =>
    subst e
    rcases List.mem_append.1 ha with ha | ha
    · exact h.2 _ a ha i hp
    · rw [List.mem_singleton.1 ha]
      exact k i hp
  · exact h.2 p a ha i hp
theorem mem_addA {A : NetA} {q : Nat} (dst : Nat) (t : Option (UInt8 → Bool)) (hq : q < A.length) : (⟨dst, t⟩ : Arr) ∈ rowN (addA A q dst t) q := by
  rw [rowN_addA dst t hq, if_pos rfl]
  simp

/-- A new state, one arrow to it. -/
theorem Builds.one (s : List UInt8) (t : UInt8 → Bool) : Builds s (fun A q => (addA (addS A) q A.length (some t), A.length)) (fun i j => j = i + 1 ∧ ∃ c, s[i]? = some c ∧ t c = true) := by
  intro A q hq hw
  have hq1 : q < (addS A).length := by rw [addS_len]; omega
  refine ⟨(Ext.addS A).trans (Ext.addA _ _ hq1), (WF.addS hw).addA hq1 (by rw [addS_len]; omega), ?_, ?_, fun L hL => ?_⟩
  · show A.length < (addA (addS A) q A.length (some t)).length
    rw [addA_len, addS_len]
    omega
  · rintro i j hi ⟨rfl, c, hc, htc⟩
    rw [seg_one hc]
    exact .byte (mem_addA A.length (some t) hq1) rfl htc (.here _)
  · have hX : ∀ j, (∃ i, L q i ∧ j = i + 1 ∧ ∃ c, s[i]? = some c ∧ t c = true) → j ≤ s.length := by
      rintro j ⟨i, _, rfl, c, hc, _⟩
      exact (List.getElem?_eq_some_iff.1 hc).1
    refine ⟨labN A.length L (fun j => ∃ i, L q i ∧ j = i + 1 ∧ ∃ c, s[i]? = some c ∧ t c = true), fun p hp i => labN_old (by omega), ?_, fun j hj => labN_new.1 hj⟩
    refine (hL.new hw _ hX).arrow hq1 _ _ (fun i hi => ⟨fun e => (by cases e), fun t' c e h1 h2 => ?_⟩)
    rw [labN_old (by omega)] at hi
    injection e with e
    subst e
    exact labN_new.2 ⟨i, hi, rfl, c, h1, h2⟩

/-- A new state, reached without a byte, with an arrow to itself. -/
theorem Builds.star (s : List UInt8) (t : UInt8 → Bool) : Builds s (fun A q => (addA (addA (addS A) q A.length none) A.length A.length (some t), A.length)) (fun i j => i ≤ j ∧ j ≤ s.length ∧ ∀ m, i ≤ m → m < j → ∀ c, s[m]? = some c → t c = true) := by
  intro A q hq hw
  have hq1 : q < (addS A).length := by rw [addS_len]; omega
  have hn1 : A.length < (addS A).length := by rw [addS_len]; omega
  have hn2 : A.length < (addA (addS A) q A.length none).length := by rw [addA_len]; exact hn1
  refine ⟨((Ext.addS A).trans (Ext.addA _ _ hq1)).trans (Ext.addA _ _ hn2), ((WF.addS hw).addA hq1 hn1).addA hn2 hn2, ?_, ?_, fun L hL => ?_⟩
  · show A.length < (addA (addA (addS A) q A.length none) A.length A.length (some t)).length
    rw [addA_len]
    exact hn2
  · rintro i j hi ⟨h1, h2, h3⟩
    refine .free ((Ext.addA A.length (some t) hn2).2 _ _ (mem_addA A.length none hq1)) rfl ?_
    show Path _ A.length _ A.length
    obtain ⟨d, rfl⟩ : ∃ d, j = i + d := ⟨j - i, by omega⟩
    clear h1 hi
    induction d generalizing i with
    | zero =>
      rw [Nat.add_zero, seg_self]
      exact .here _
    | succ d ih =>
      obtain ⟨c, hc⟩ : ∃ c, s[i]? = some c := ⟨_, List.getElem?_eq_getElem (by omega)⟩
      rw [← seg_app (m := i + 1) (by omega) (by omega), seg_one hc]
      refine .byte (mem_addA A.length (some t) hn2) rfl (h3 i (Nat.le_refl _) (by omega) c hc) ?_
      show Path _ A.length _ A.length
      have := ih (i + 1) (by omega) (fun m h4 h5 => h3 m (by omega) (by omega))
      rw [show i + (d + 1) = i + 1 + d by omega]
      exact this
  · refine ⟨labN A.length L (fun j => ∃ i, L q i ∧ i ≤ j ∧ j ≤ s.length ∧ ∀ m, i ≤ m → m < j → ∀ c, s[m]? = some c → t c = true), fun p hp i => labN_old (by omega), ?_, fun j hj => labN_new.1 hj⟩
    refine ((hL.new hw _ ?_).arrow hq1 _ _ (fun i hi => ⟨fun _ => ?_, fun t' c e => by cases e⟩)).arrow hn2 _ _ (fun i hi => ⟨fun e => (by cases e), fun t' c e h1 h2 => ?_⟩)
    · rintro j ⟨i, _, _, h, _⟩
      exact h
    · rw [labN_old (by omega)] at hi
      exact labN_new.2 ⟨i, hi, Nat.le_refl _, hL.1 q i hi, fun m h1 h2 => absurd h2 (by omega)⟩
    · injection e with e
      subst e
      obtain ⟨k, h3, h4, h5, h6⟩ := labN_new.1 hi
      refine labN_new.2 ⟨k, h3, by omega, (List.getElem?_eq_some_iff.1 h1).1, fun m h7 h8 c' hc' => ?_⟩
      by_cases e2 : m = i
      · subst e2
        rw [h1] at hc'
        injection hc' with hc'
        subst hc'
        exact h2
      · exact h6 m h7 (by omega) c' hc'
end Go.Proofs.YtnpcbcnclncniaaGreatDoor
namespace Go.Proofs.YtnpcbcnclncniaaGreatDoor
open Go.RowKit

theorem Builds.iff2 {s : List UInt8} {f : NetA → Nat → NetA × Nat} {r r' : Nat → Nat → Prop} (h : Builds s f r) (hr : ∀ i j, i ≤ s.length → (r i j ↔ r' i j)) : Builds s f r' := by
  intro A q hq hw
  obtain ⟨h1, h2, h3, h4, h5⟩ := h A q hq hw
  refine ⟨h1, h2, h3, fun i j hi hij => h4 i j hi ((hr i j hi).2 hij), fun L hL => ?_⟩
  obtain ⟨L', h6, h7, h8⟩ := h5 L hL
  exact ⟨L', h6, h7, fun j hj => by
    obtain ⟨i, h9, h10⟩ := h8 j hj
    exact ⟨i, h9, (hr i j (hL.1 q i h9)).1 h10⟩⟩

/-- A text's states. -/
def textN : List UInt8 → NetA → Nat → NetA × Nat
  | [], A, q => (A, q)
  | b :: r, A, q => textN r (addA (addS A) q A.length (some (fun c => c == b))) A.length
theorem textN_builds (s : List UInt8) : ∀ T : List UInt8, Builds s (textN T) (fun i j => j = i + T.length ∧ j ≤ s.length ∧ (s.drop i).take T.length = T)
  | [] => (Builds.here s).iff2 (fun i j hi => by
      constructor
      · rintro rfl
        exact ⟨rfl, hi, rfl⟩
      · rintro ⟨rfl, _⟩
        rfl)
  | b :: r => (Builds.then (Builds.one s (fun c => c == b)) (textN_builds s r) (fun i j h => by
        obtain ⟨rfl, c, hc, _⟩ := h
        have := (List.getElem?_eq_some_iff.1 hc).1
        omega) (fun i j h => by omega)).iff2 (fun i j hi => by
      constructor
      · rintro ⟨m, ⟨rfl, c, hc, hcb⟩, rfl, h1, h2⟩
        obtain ⟨hl, hcc⟩ := List.getElem?_eq_some_iff.1 hc
        refine ⟨by rw [List.length_cons]; omega, by omega, ?_⟩
        rw [List.drop_eq_getElem_cons hl, List.length_cons, List.take_succ_cons, hcc, h2, beq_iff_eq.1 hcb]
      · rintro ⟨rfl, h1, h2⟩
        rw [List.length_cons] at h1 h2
        have hl : i < s.length := by omega
        rw [List.drop_eq_getElem_cons hl, List.take_succ_cons] at h2
        injection h2 with h3 h4
        refine ⟨i + 1, ⟨rfl, b, by rw [List.getElem?_eq_getElem hl, h3], beq_iff_eq.2 rfl⟩, by rw [List.length_cons]; omega, by rw [List.length_cons]; omega, h4⟩)

/-- The ways' states; e: where they come together. -/
def waysN {α : Type} (g : Sl α → NetA → Nat → NetA × Nat) : List (Sl α) → Nat → Nat → NetA → NetA
  | [], _, _, A => A
  | t :: r, e, q, A => waysN g r e q (addA (g t (addA (addS A) q A.length none) A.length).1 (g t (addA (addS A) q A.length none) A.length).2 e none)
theorem waysN_builds {α : Type} (s : List UInt8) (g : Sl α → NetA → Nat → NetA × Nat) (rel : Sl α → Nat → Nat → Prop) : ∀ ts : List (Sl α), (∀ t ∈ ts, Builds s (g t) (rel t)) → ∀ (A : NetA) (q e : Nat), q < A.length → e < A.length → WF A →
    Ext A (waysN g ts e q A) ∧ WF (waysN g ts e q A) ∧ (∀ i j, i ≤ s.length → (∃ t ∈ ts, rel t i j) → Path (waysN g ts e q A) q (seg s i j) e) ∧
    ∀ L, Clo s A L → (∀ t ∈ ts, ∀ i j, L q i → rel t i j → L e j) → ∃ L', (∀ p, p < A.length → ∀ i, L' p i ↔ L p i) ∧ Clo s (waysN g ts e q A) L'
  | [], _, A, q, e, hq, he, hw => ⟨Ext.refl A, hw, fun i j _ ⟨t, h, _⟩ => (by cases h), fun L hL _ => ⟨L, fun _ _ _ => Iff.rfl, hL⟩⟩
  | t :: r, hb, A, q, e, hq, he, hw => by
    have hq1 : q < (addS A).length := by rw [addS_len]; omega
    have hn1 : A.length < (addS A).length := by rw [addS_len]; omega
    have hBl : (addA (addS A) q A.length none).length = A.length + 1 := by rw [addA_len, addS_len]
    have hAB : Ext A (addA (addS A) q A.length none) := (Ext.addS A).trans (Ext.addA _ _ hq1)
    obtain ⟨k1, k2, k3, k4, k5⟩ := hb t (by simp) (addA (addS A) q A.length none) A.length (by omega) ((WF.addS hw).addA hq1 hn1)
    obtain ⟨C, hC⟩ : ∃ C, g t (addA (addS A) q A.length none) A.length = C := ⟨_, rfl⟩
    rw [hC] at k1 k2 k3 k4 k5
    have hCl : A.length + 1 ≤ C.1.length := by
      have := k1.1
      omega
    have hD : WF (addA C.1 C.2 e none) := k2.addA k3 (by omega)
    obtain ⟨m1, m2, m3, m4⟩ := waysN_builds s g rel r (fun t ht => hb t (by simp [ht])) (addA C.1 C.2 e none) q e (by rw [addA_len]; omega) (by rw [addA_len]; omega) hD
    have hCD : Ext C.1 (addA C.1 C.2 e none) := Ext.addA _ _ k3
    have hgoal : waysN g (t :: r) e q A = waysN g r e q (addA C.1 C.2 e none) := by
      conv => lhs; unfold waysN
      rw [hC]
    rw [hgoal]
    refine ⟨(hAB.trans k1).trans (hCD.trans m1), m2, ?_, fun L hL hLe => ?_⟩
    · rintro i j hi ⟨t', ht', hr⟩
      rcases List.mem_cons.1 ht' with rfl | ht'
      · have h1 : Path (addA C.1 C.2 e none) q (seg s i j) e := by
          refine .free (hCD.2 _ _ (k1.2 _ _ (mem_addA A.length none hq1))) rfl ?_
          show Path _ A.length _ e
          have h2 := ((k4 i j hi hr).ext hCD).trans (.free (mem_addA e none k3) rfl (.here _))
          rwa [List.append_nil] at h2
        exact h1.ext m1
      · exact m3 i j hi ⟨t', ht', hr⟩
    · obtain ⟨L1, a1, a2, a3⟩ := k5 (labN A.length L (L q)) ((hL.new hw (L q) (hL.1 q)).arrow hq1 _ _ (fun i hi => ⟨fun _ => labN_new.2 ((labN_old (by omega)).1 hi), fun t' c e => by cases e⟩))
      have hold : ∀ p, p < A.length → ∀ i, L1 p i ↔ L p i := fun p hp i => (a1 p (by omega) i).trans (labN_old (by omega))
      have hclo : Clo s (addA C.1 C.2 e none) L1 := a2.arrow k3 _ _ (fun j hj => ⟨fun _ => by
        obtain ⟨i, h1, h2⟩ := a3 j hj
        exact (hold e he j).2 (hLe t (by simp) i j (labN_new.1 h1) h2), fun t' c e => by cases e⟩)
      obtain ⟨L2, b1, b2⟩ := m4 L1 hclo (fun t' ht' i j h1 h2 => (hold e he j).2 (hLe t' (by simp [ht']) i j ((hold q hq i).1 h1) h2))
      exact ⟨L2, fun p hp i => (b1 p (by rw [addA_len]; omega) i).trans (hold p hp i), b2⟩

/-- A part's states. -/
def partN {α : Type} (g : Sl α → NetA → Nat → NetA × Nat) (p : PartOf α) (A : NetA) (q : Nat) : NetA × Nat :=
  if p.kind = 1 then textN p.text.data.toList A q
  else if p.kind = 2 ∨ p.kind = 5 then (addA (addS A) q A.length (some (oneB p)), A.length)
  else if p.kind = 3 ∨ p.kind = 4 then (addA (addA (addS A) q A.length none) A.length A.length (some (fun c => c != 47 || p.kind == 4)), A.length)
  else (waysN g p.ways.xs A.length q (addS A), A.length)
theorem partN_builds {α : Type} {s : List UInt8} {g : Sl α → NetA → Nat → NetA × Nat} {rel : Sl α → Nat → Nat → Prop} {p : PartOf α} (hk : 1 ≤ p.kind ∧ p.kind ≤ 6) (hb : ∀ t ∈ p.ways.xs, Builds s (g t) (rel t)) (hle : ∀ t ∈ p.ways.xs, ∀ i j, rel t i j → i ≤ j ∧ (i ≤ s.length → j ≤ s.length)) : Builds s (partN g p) (PRel rel s p) := by
  have hkn : p.kind ≠ 1 → ¬ (p.kind = 2 ∨ p.kind = 5) → ¬ (p.kind = 3 ∨ p.kind = 4) → p.kind = 6 := by omega
  intro A q hq hw
  unfold partN
  have hP : PRel rel s p = fun i j => PRel rel s p i j := rfl
  rw [hP]
  unfold PRel
  by_cases h1 : p.kind = 1
  · simp only [if_pos h1]
    have := textN_builds s p.text.data.toList A q hq hw
    rw [← Lib.size_eq] at this
    exact this
  simp only [if_neg h1]
  by_cases h2 : p.kind = 2 ∨ p.kind = 5
  · simp only [if_pos h2]
    exact Builds.one s (oneB p) A q hq hw
  simp only [if_neg h2]
  by_cases h3 : p.kind = 3 ∨ p.kind = 4
  · simp only [if_pos h3]
    refine (Builds.star s (fun c => c != 47 || p.kind == 4)).iff2 (fun i j hi => ?_) A q hq hw
    constructor
    · rintro ⟨a, b, c⟩
      refine ⟨a, b, fun e m h4 h5 h6 => ?_⟩
      have := c m h4 h5 47 h6
      rw [e] at this
      exact absurd this (by decide)
    · rintro ⟨a, b, c⟩
      refine ⟨a, b, fun m h4 h5 ch hch => ?_⟩
      rcases h3 with e | e
      · have h6 : ch ≠ 47 := fun e2 => c e m h4 h5 (by rw [hch, e2])
        simp [h6]
      · simp [e]
  simp only [if_neg h3, if_pos (hkn h1 h2 h3)]
  have hq1 : q < (addS A).length := by rw [addS_len]; omega
  have hn1 : A.length < (addS A).length := by rw [addS_len]; omega
  obtain ⟨m1, m2, m3, m4⟩ := waysN_builds s g rel p.ways.xs hb (addS A) q A.length hq1 hn1 (WF.addS hw)
  refine ⟨(Ext.addS A).trans m1, m2, Nat.lt_of_lt_of_le hn1 m1.1, m3, fun L hL => ?_⟩
  obtain ⟨L', b1, b2⟩ := m4 (labN A.length L (fun j => ∃ i, L q i ∧ ∃ t ∈ p.ways.xs, rel t i j)) (hL.new hw _ (by
    rintro j ⟨i, h4, t, h5, h6⟩
    exact (hle t h5 i j h6).2 (hL.1 q i h4))) (fun t ht i j h4 h5 => labN_new.2 ⟨i, (labN_old (by omega)).1 h4, t, ht, h5⟩)
  refine ⟨L', fun p hp i => (b1 p (by omega) i).trans (labN_old (by omega)), b2, fun j hj => labN_new.1 ((b1 A.length hn1 j).1 hj)⟩

/-- A list's states. -/
def listN : (n : Nat) → List (P n) → NetA → Nat → NetA × Nat
  | 0, _, A, q => (A, q)
  | n + 1, xs, A, q => xs.foldl (fun Aq p => partN (fun t => listN n t.xs) (pt n p) Aq.1 Aq.2) (A, q)
theorem foldN_builds {β : Type} {s : List UInt8} {f : β → NetA → Nat → NetA × Nat} {r : β → Nat → Nat → Prop} : ∀ {xs : List β}, (∀ x ∈ xs, Builds s (f x) (r x)) → (∀ x ∈ xs, ∀ i j, r x i j → i ≤ j ∧ (i ≤ s.length → j ≤ s.length)) → Builds s (fun A q => xs.foldl (fun Aq p => f p Aq.1 Aq.2) (A, q)) (LRel r xs)
  | [], _, _ => Builds.here s
  | x :: xs, hb, hle => Builds.then (hb x (by simp)) (foldN_builds (xs := xs) (fun y hy => hb y (by simp [hy])) (fun y hy => hle y (by simp [hy]))) (hle x (by simp)) (fun i j h => (LRel_le (fun y hy => hle y (by simp [hy])) h).1)
theorem listN_builds (s : List UInt8) : ∀ (n : Nat) (xs : List (P n)), Good n xs → Builds s (listN n xs) (Rel s n xs)
  | 0, _, _ => Builds.here s
  | n + 1, _, hg => foldN_builds (f := fun p => partN (fun t => listN n t.xs) (pt n p)) (fun p hp => partN_builds (hg p hp).1 (fun t ht => listN_builds s n t.xs ((hg p hp).2.2.2 t ht)) (fun t _ => Rel_le n t.xs)) (fun _ _ _ _ h => PRel_le (fun t _ => Rel_le n t.xs) h)
end Go.Proofs.YtnpcbcnclncniaaGreatDoor
namespace Go.Proofs.YtnpcbcnclncniaaGreatDoor
open Go.RowKit

theorem path_app {A : NetA} {q q' : Nat} {u v : List UInt8} : Path A q (u ++ v) q' ↔ ∃ m, Path A q u m ∧ Path A m v q' := by
  constructor
  · intro h
    generalize hw : u ++ v = w at h
    induction h generalizing u with
    | here q =>
      obtain ⟨rfl, rfl⟩ := List.append_eq_nil_iff.1 hw
      exact ⟨q, .here q, .here q⟩
    | free h1 h2 _ ih =>
      obtain ⟨m, h3, h4⟩ := ih hw
      exact ⟨m, .free h1 h2 h3, h4⟩
    | @byte q q' w a c t h1 h2 h3 h ih =>
      cases u with
      | nil =>
        rw [List.nil_append] at hw
        subst hw
        exact ⟨q, .here q, .byte h1 h2 h3 h⟩
      | cons d u =>
        rw [List.cons_append] at hw
        injection hw with hd hw
        subst hd
        obtain ⟨m, h4, h5⟩ := ih hw
        exact ⟨m, .byte h1 h2 h3 h4, h5⟩
  · rintro ⟨m, h1, h2⟩
    exact h1.trans h2
theorem path_one {A : NetA} {q q' : Nat} {c : UInt8} : Path A q [c] q' ↔ ∃ p a t, Path A q [] p ∧ a ∈ rowN A p ∧ a.takes = some t ∧ t c = true ∧ Path A a.dst [] q' := by
  constructor
  · intro h
    generalize hw : [c] = w at h
    induction h with
    | here q => cases hw
    | free h1 h2 _ ih =>
      obtain ⟨p, a, t, h3, h4⟩ := ih hw
      exact ⟨p, a, t, .free h1 h2 h3, h4⟩
    | @byte q q' w a d t h1 h2 h3 h ih =>
      injection hw with hd hw
      subst hd hw
      exact ⟨q, a, t, .here q, h1, h2, h3, h⟩
  · rintro ⟨p, a, t, h1, h2, h3, h4, h5⟩
    have := h1.trans (Path.byte h2 h3 h4 h5)
    rwa [List.nil_append] at this

/-- The states that are reached without bytes. -/
def fclos (A : NetA) (S : Nat → Prop) (q : Nat) : Prop := ∃ p, S p ∧ Path A p [] q
/-- The states behind a byte. -/
def stepN (A : NetA) (S : Nat → Prop) (c : UInt8) (q : Nat) : Prop := ∃ p a t, S p ∧ a ∈ rowN A p ∧ a.takes = some t ∧ t c = true ∧ Path A a.dst [] q

/-- The states behind the first k bytes of a text, begun wherever a glob may begin. -/
def behind (A : NetA) (rooted : Bool) (T : List UInt8) (k : Nat) (q : Nat) : Prop := ∃ i, (i = 0 ∨ (rooted = false ∧ 0 < i ∧ T[i - 1]? = some 47)) ∧ i ≤ k ∧ Path A 0 (seg T i k) q
theorem behind_zero {A : NetA} {rooted : Bool} {T : List UInt8} {q : Nat} : behind A rooted T 0 q ↔ fclos A (fun p => p = 0) q := by
  constructor
  · rintro ⟨i, _, hi, h⟩
    obtain rfl : i = 0 := by omega
    rw [seg_self] at h
    exact ⟨0, rfl, h⟩
  · rintro ⟨p, rfl, h⟩
    exact ⟨0, .inl rfl, Nat.le_refl _, by rw [seg_self]; exact h⟩
theorem behind_succ {A : NetA} {rooted : Bool} {T : List UInt8} {k : Nat} {c : UInt8} (hc : T[k]? = some c) {q : Nat} :
    behind A rooted T (k + 1) q ↔ stepN A (behind A rooted T k) c q ∨ ((rooted = false ∧ c = 47) ∧ fclos A (fun p => p = 0) q) := by
  constructor
  · rintro ⟨i, hb, hi, h⟩
    by_cases e : i = k + 1
    · subst e
      rw [seg_self] at h
      rcases hb with hb | ⟨h1, _, h2⟩
      · omega
      · rw [Nat.add_sub_cancel, hc] at h2
        injection h2 with h2
        exact .inr ⟨⟨h1, h2⟩, 0, rfl, h⟩
    · rw [← seg_app (m := k) (by omega) (Nat.le_succ k), seg_one hc, path_app] at h
      obtain ⟨m, h1, h2⟩ := h
      obtain ⟨p, a, t, h3, h4⟩ := path_one.1 h2
      refine .inl ⟨p, a, t, ⟨i, hb, by omega, ?_⟩, h4⟩
      have := h1.trans h3
      rwa [List.append_nil] at this
  · rintro (⟨p, a, t, ⟨i, hb, hi, h1⟩, h2⟩ | ⟨⟨h1, h2⟩, p, rfl, h3⟩)
    · refine ⟨i, hb, by omega, ?_⟩
      rw [← seg_app (m := k) hi (Nat.le_succ k), seg_one hc]
      exact h1.trans (path_one.2 ⟨p, a, t, .here _, h2⟩)
    · exact ⟨k + 1, .inr ⟨h1, Nat.succ_pos _, by rw [Nat.add_sub_cancel, hc, h2]⟩, Nat.le_refl _, by rw [seg_self]; exact h3⟩
theorem fclos_of_closed {A : NetA} {S : Nat → Prop} (h : ∀ q a, S q → a ∈ rowN A q → a.takes = none → S a.dst) {q : Nat} : fclos A S q ↔ S q := by
  constructor
  · rintro ⟨p, hp, hq⟩
    generalize hw : ([] : List UInt8) = w at hq
    induction hq with
    | here q => exact hp
    | free h1 h2 _ ih => exact ih (h _ _ hp h1 h2) hw
    | byte => cases hw
  · exact fun hq => ⟨q, hq, .here q⟩

/-- What is there of a name behind a byte (0: nothing, 1: a full stop, 2: two, 3: a name); none: the byte cannot follow. -/
def grownN (k : Nat) (c : UInt8) : Option Nat := if c = 47 then (if k = 3 then some 0 else none) else if c = 46 ∧ k ≠ 3 then some (k + 1) else some 3
/-- What is there of a name behind a word. -/
def growN : Nat → List UInt8 → Option Nat
  | k, [] => some k
  | k, c :: r => if c = 0 then none else (grownN k c).bind (fun k' => growN k' r)
theorem grownN_le {k k' : Nat} {c : UInt8} (hk : k ≤ 3) (h : grownN k c = some k') : k' ≤ 3 := by
  unfold grownN at h
  split at h
  · split at h
    · injection h with h; omega
    · cases h
  split at h
  · injection h with h; omega
  · injection h with h; omega
/-- There is a path, behind some states, that leads to the end. -/
def someN (A : NetA) (S : Nat → Prop) (e : Nat) : Prop := ∃ q r, S q ∧ Path A q r e ∧ growN 0 r = some 3
end Go.Proofs.YtnpcbcnclncniaaGreatDoor
namespace Go.Proofs.YtnpcbcnclncniaaGreatDoor
open Go.RowKit

/-- States and arrows. -/
def mA (A : NetA) : Nat := A.length + (A.map List.length).sum
theorem mA_len (A : NetA) : A.length ≤ mA A := Nat.le_add_right _ _
theorem mA_addS (A : NetA) : mA (addS A) = mA A + 1 := by
  unfold mA addS
  simp
  omega
theorem sum_set_len : ∀ (A : NetA) (q : Nat) (x : Arr), ((A.set q (rowN A q ++ [x])).map List.length).sum ≤ (A.map List.length).sum + 1
  | [], q, x => by simp
  | a :: A, 0, x => by
    simp [rowN]
    omega
  | a :: A, q + 1, x => by
    have := sum_set_len A q x
    have hr : rowN (a :: A) (q + 1) = rowN A q := rfl
    rw [hr]
    simp only [List.set_cons_succ, List.map_cons, List.sum_cons]
    omega
theorem mA_addA (A : NetA) (q dst : Nat) (t : Option (UInt8 → Bool)) : mA (addA A q dst t) ≤ mA A + 1 := by
  have := sum_set_len A q ⟨dst, t⟩
  unfold mA
  rw [addA_len]
  unfold addA
  omega
theorem rowN_len : ∀ (A : NetA) (q : Nat), (rowN A q).length ≤ (A.map List.length).sum
  | [], q => by simp [rowN]
  | a :: A, 0 => by simp [rowN]
  | a :: A, q + 1 => by
    have := rowN_len A q
    have hr : rowN (a :: A) (q + 1) = rowN A q := rfl
    rw [hr]
    simp only [List.map_cons, List.sum_cons]
    omega
theorem mA_row (A : NetA) (q : Nat) : (rowN A q).length ≤ mA A := Nat.le_trans (rowN_len A q) (Nat.le_add_left _ _)

theorem mA_text : ∀ (T : List UInt8) (A : NetA) (q : Nat), mA (textN T A q).1 ≤ mA A + 2 * T.length
  | [], A, q => Nat.le_refl _
  | b :: r, A, q => by
    have h1 := mA_text r (addA (addS A) q A.length (some (fun c => c == b))) A.length
    have h2 := mA_addA (addS A) q A.length (some (fun c => c == b))
    rw [mA_addS] at h2
    rw [textN, List.length_cons]
    omega

theorem mA_ways {α : Type} (g : Sl α → NetA → Nat → NetA × Nat) (f : Sl α → Nat) (hg : ∀ t A q, mA (g t A q).1 ≤ mA A + 4 * f t) : ∀ (ts : List (Sl α)) (e q : Nat) (A : NetA), mA (waysN g ts e q A) ≤ mA A + 4 * (ts.map (fun t => 1 + f t)).sum
  | [], _, _, _ => Nat.le_add_right _ _
  | t :: r, e, q, A => by
    rw [waysN]
    have h1 := mA_ways g f hg r e q (addA (g t (addA (addS A) q A.length none) A.length).1 (g t (addA (addS A) q A.length none) A.length).2 e none)
    have h2 := mA_addA (g t (addA (addS A) q A.length none) A.length).1 (g t (addA (addS A) q A.length none) A.length).2 e none
    have h3 := hg t (addA (addS A) q A.length none) A.length
    have h4 := mA_addA (addS A) q A.length none
    rw [mA_addS] at h4
    rw [List.map_cons, List.sum_cons]
    omega

theorem mA_part {α : Type} (g : Sl α → NetA → Nat → NetA × Nat) (f : α → Nat) (hg : ∀ t A q, mA (g t A q).1 ≤ mA A + 4 * (t.xs.map f).sum) (p : PartOf α) (A : NetA) (q : Nat) : mA (partN g p A q).1 ≤ mA A + 4 * szOf f p := by
  have hsz : szOf f p = 1 + p.text.size + p.rg.xs.length + (p.ways.xs.map (fun s => 1 + (s.xs.map f).sum)).sum := rfl
  rw [hsz]
  unfold partN
  split
  · have := mA_text p.text.data.toList A q
    rw [← Lib.size_eq] at this
    omega
  · split
    · have := mA_addA (addS A) q A.length (some (oneB p))
      rw [mA_addS] at this
      dsimp only
      omega
    · split
      · have h1 := mA_addA (addS A) q A.length none
        have h2 := mA_addA (addA (addS A) q A.length none) A.length A.length (some (fun c => c != 47 || p.kind == 4))
        rw [mA_addS] at h1
        dsimp only
        omega
      · have := mA_ways g (fun t => (t.xs.map f).sum) hg p.ways.xs A.length q (addS A)
        rw [mA_addS] at this
        dsimp only at this ⊢
        omega

theorem mA_list : ∀ (n : Nat) (xs : List (P n)) (A : NetA) (q : Nat), mA (listN n xs A q).1 ≤ mA A + 4 * szL n xs
  | 0, _, _, _ => Nat.le_add_right _ _
  | n + 1, xs, A, q => by
    have hg : ∀ (t : Sl (P n)) (A : NetA) (q : Nat), mA (listN n t.xs A q).1 ≤ mA A + 4 * (t.xs.map (sz n)).sum := fun t A q => mA_list n t.xs A q
    have hfold : ∀ (xs : List (P (n + 1))) (A : NetA) (q : Nat), mA (xs.foldl (fun Aq p => partN (fun t => listN n t.xs) (pt n p) Aq.1 Aq.2) (A, q)).1 ≤ mA A + 4 * (xs.map (sz (n + 1))).sum := by
      intro xs
      induction xs with
      | nil => intro A q; exact Nat.le_add_right _ _
      | cons x xs ih =>
        intro A q
        have h1 := mA_part (fun t => listN n t.xs) (sz n) hg (pt n x) A q
        have h2 := ih (partN (fun t => listN n t.xs) (pt n x) A q).1 (partN (fun t => listN n t.xs) (pt n x) A q).2
        have h3 : szOf (sz n) (pt n x) = sz (n + 1) x := rfl
        rw [h3] at h1
        rw [List.foldl_cons, List.map_cons, List.sum_cons]
        refine Nat.le_trans h2 ?_
        omega
    exact hfold xs A q
end Go.Proofs.YtnpcbcnclncniaaGreatDoor
namespace Go.Proofs.YtnpcbcnclncniaaGreatDoor
open Go.RowKit

section
variable {α : Type}
/-- How many of a list are not in a set. -/
def miss (U : List α) (T : α → Bool) : Nat := U.countP (fun x => !T x)
theorem miss_le (U : List α) (T : α → Bool) : miss U T ≤ U.length := List.countP_le_length
variable [DecidableEq α]
/-- A set and one more. -/
def ins (T : α → Bool) (a : α) : α → Bool := fun x => decide (x = a) || T x
theorem ins_self (T : α → Bool) (a : α) : ins T a a = true := by simp [ins]
theorem ins_of {T : α → Bool} {a x : α} (h : T x = true) : ins T a x = true := by simp [ins, h]
theorem ins_iff {T : α → Bool} {a x : α} : ins T a x = true ↔ x = a ∨ T x = true := by simp [ins]
theorem miss_same {U : List α} {T : α → Bool} {a : α} (h : a ∉ U) : miss U (ins T a) = miss U T := by
  unfold miss
  refine List.countP_congr (fun x hx => ?_)
  have : x ≠ a := fun e => h (e ▸ hx)
  simp [ins, this]
theorem miss_ins : ∀ {U : List α} {T : α → Bool} {a : α}, U.Nodup → a ∈ U → T a = false → miss U (ins T a) + 1 = miss U T
  | [], _, _, _, h, _ => by cases h
  | x :: U, T, a, hn, hm, ha => by
    obtain ⟨h1, h2⟩ := List.nodup_cons.1 hn
    by_cases e : a = x
    · subst e
      have h3 := miss_same (T := T) h1
      unfold miss at *
      rw [List.countP_cons, List.countP_cons, h3]
      simp [ins, ha]
    · have h4 := miss_ins (T := T) h2 (List.mem_of_ne_of_mem e hm) ha
      unfold miss at *
      rw [List.countP_cons, List.countP_cons]
      have h5 : ins T a x = T x := by simp [ins, Ne.symm e]
      rw [h5]
      omega
end

section
variable {α : Type}
/-- What is reached along a relation. -/
inductive Rch (E : α → α → Prop) (x : α) : α → Prop
  | here : Rch E x x
  | next {y z : α} : Rch E x y → E y z → Rch E x z
/-- A work list: what is found, and what of it has still to be looked at. -/
structure Work (E : α → α → Prop) (S bad : α → Prop) (T : α → Bool) (l : List α) : Prop where
  start : ∀ x, S x → T x = true
  sound : ∀ x, T x = true → ∃ s, S s ∧ Rch E s x
  todo : ∀ x ∈ l, T x = true
  done : ∀ x, T x = true → x ∉ l → ¬ bad x ∧ ∀ y, E x y → T y = true
/-- .. while one is looked at. -/
structure Mid (E : α → α → Prop) (S bad : α → Prop) (T : α → Bool) (l : List α) (x : α) : Prop where
  start : ∀ x, S x → T x = true
  sound : ∀ x, T x = true → ∃ s, S s ∧ Rch E s x
  todo : ∀ x ∈ l, T x = true
  this : T x = true
  done : ∀ z, T z = true → z ∉ l → z ≠ x → ¬ bad z ∧ ∀ y, E z y → T y = true
variable {E : α → α → Prop} {S bad : α → Prop} {T : α → Bool} {l : List α} {x : α}
theorem Work.pop (h : Work E S bad T (l ++ [x])) : Mid E S bad T l x :=
  ⟨h.start, h.sound, fun z hz => h.todo z (by simp [hz]), h.todo x (by simp), fun z hz hl hx => h.done z hz (by simp [hl, hx])⟩
theorem Mid.finish (h : Mid E S bad T l x) (hb : ¬ bad x) (hy : ∀ y, E x y → T y = true) : Work E S bad T l :=
  ⟨h.start, h.sound, h.todo, fun z hz hl => by
    by_cases e : z = x
    · rw [e]
      exact ⟨hb, hy⟩
    · exact h.done z hz hl e⟩
theorem Mid.push [DecidableEq α] (h : Mid E S bad T l x) {y : α} (hy : E x y) : Mid E S bad (ins T y) (l ++ [y]) x := by
  refine ⟨fun z hz => ins_of (h.start z hz), fun z hz => ?_, fun z hz => ?_, ins_of h.this, fun z hz hl hx => ?_⟩
  · rcases ins_iff.1 hz with e | hz
    · obtain ⟨s, h1, h2⟩ := h.sound x h.this
      rw [e]
      exact ⟨s, h1, .next h2 hy⟩
    · exact h.sound z hz
  · rcases List.mem_append.1 hz with hz | hz
    · exact ins_of (h.todo z hz)
    · rw [List.mem_singleton.1 hz]
      exact ins_self T y
  · simp only [List.mem_append, List.mem_singleton, not_or] at hl
    rcases ins_iff.1 hz with e | hz
    · exact absurd e hl.2
    · obtain ⟨h1, h2⟩ := h.done z hz hl.1 hx
      exact ⟨h1, fun u hu => ins_of (h2 u hu)⟩
/-- Nothing is left. -/
theorem Work.all (h : Work E S bad T []) : (∀ x, T x = true ↔ ∃ s, S s ∧ Rch E s x) ∧ ∀ x, T x = true → ¬ bad x := by
  refine ⟨fun x => ⟨h.sound x, ?_⟩, fun x hx => (h.done x hx (by simp)).1⟩
  rintro ⟨s, h1, h2⟩
  induction h2 with
  | here => exact h.start s h1
  | next _ h3 ih => exact (h.done _ ih (by simp)).2 _ h3
/-- All are still to be looked at. -/
theorem Work.begun (h1 : ∀ x, T x = true ↔ S x) (h2 : ∀ x, T x = true ↔ x ∈ l) : Work E S bad T l :=
  ⟨fun x hx => (h1 x).2 hx, fun x hx => ⟨x, (h1 x).1 hx, .here⟩, fun x hx => (h2 x).2 hx, fun x hx hl => absurd ((h2 x).1 hx) hl⟩
end

/-- Arrows that take no byte. -/
def freeE (A : NetA) (q q' : Nat) : Prop := ∃ a ∈ rowN A q, a.takes = none ∧ q' = a.dst
theorem rch_free {A : NetA} {p q : Nat} : Rch (freeE A) p q ↔ Path A p [] q := by
  constructor
  · intro h
    induction h with
    | here => exact .here _
    | next _ h2 ih =>
      obtain ⟨a, h3, h4, rfl⟩ := h2
      have := ih.trans (Path.free h3 h4 (.here _))
      rwa [List.nil_append] at this
  · intro h
    generalize hw : ([] : List UInt8) = w at h
    have key : ∀ r, Rch (freeE A) r p → Rch (freeE A) r q := by
      induction h with
      | here q => exact fun r hr => hr
      | free h1 h2 _ ih => exact fun r hr => ih hw r (.next hr ⟨_, h1, h2, rfl⟩)
      | byte => cases hw
    exact key p .here
theorem clos_all {A : NetA} {S : Nat → Prop} {bad : Nat → Prop} {T : Nat → Bool} (h : Work (freeE A) S bad T []) (q : Nat) : T q = true ↔ fclos A S q := by
  rw [h.all.1 q]
  unfold fclos
  constructor
  · rintro ⟨s, h1, h2⟩
    exact ⟨s, h1, rch_free.1 h2⟩
  · rintro ⟨s, h1, h2⟩
    exact ⟨s, h1, rch_free.2 h2⟩

theorem growN_app2 : ∀ (k : Nat) (u v : List UInt8), growN k (u ++ v) = (growN k u).bind (fun k' => growN k' v)
  | k, [], v => rfl
  | k, c :: u, v => by
    have e1 : ∀ r, growN k (c :: r) = if c = 0 then none else (grownN k c).bind (fun k' => growN k' r) := fun _ => rfl
    rw [List.cons_append, e1, e1]
    by_cases h : c = 0
    · rw [if_pos h, if_pos h]
      rfl
    · rw [if_neg h, if_neg h]
      cases grownN k c with
      | none => rfl
      | some k' => exact growN_app2 k' u v

/-- From one place to the next: a state, and what is there of a name. -/
def placeE (A : NetA) (x y : Nat × Nat) : Prop := ∃ a ∈ rowN A x.1, (a.takes = none ∧ y = (a.dst, x.2)) ∨ ∃ t c, a.takes = some t ∧ c ≠ 0 ∧ t c = true ∧ ∃ k, grownN x.2 c = some k ∧ y = (a.dst, k)
theorem rch_place {A : NetA} {p q k k' : Nat} : Rch (placeE A) (p, k) (q, k') ↔ ∃ r, Path A p r q ∧ growN k r = some k' := by
  constructor
  · intro h
    generalize hx : (p, k) = x at h
    generalize hy : (q, k') = y at h
    induction h generalizing q k' with
    | here =>
      subst hx
      injection hy with e1 e2
      subst e1 e2
      exact ⟨[], .here _, rfl⟩
    | @next y z _ h2 ih =>
      obtain ⟨y1, y2⟩ := y
      obtain ⟨r, h3, h4⟩ := ih rfl
      obtain ⟨a, ha, h5⟩ := h2
      rcases h5 with ⟨h5, h6⟩ | ⟨t, c, h5, hc, h6, k1, h7, h8⟩
      · rw [h6] at hy
        injection hy with e1 e2
        subst e1 e2
        refine ⟨r, ?_, h4⟩
        have := h3.trans (Path.free ha h5 (.here _))
        rwa [List.append_nil] at this
      · rw [h8] at hy
        injection hy with e1 e2
        subst e1 e2
        refine ⟨r ++ [c], h3.trans (Path.byte ha h5 h6 (.here _)), ?_⟩
        rw [growN_app2, h4]
        show growN _ [c] = _
        unfold growN
        rw [if_neg hc, h7]
        rfl
  · rintro ⟨r, h1, h2⟩
    have key : ∀ x, Rch (placeE A) x (p, k) → Rch (placeE A) x (q, k') := by
      induction h1 generalizing k with
      | here q =>
        injection h2 with h2
        subst h2
        exact fun x hx => hx
      | free h3 h4 _ ih => exact fun x hx => ih h2 x (.next hx ⟨_, h3, .inl ⟨h4, rfl⟩⟩)
      | @byte q q' w a c t h3 h4 h5 _ ih =>
        unfold growN at h2
        split at h2
        · cases h2
        next hc =>
        cases hg : grownN k c with
        | none => rw [hg] at h2; cases h2
        | some k1 =>
          rw [hg] at h2
          exact fun x hx => ih h2 x (.next hx ⟨_, h3, .inr ⟨t, c, h4, hc, h5, k1, hg, rfl⟩⟩)
    exact key _ .here
/-- Where the search begins. -/
def startP (S : Nat → Prop) (x : Nat × Nat) : Prop := S x.1 ∧ x.2 = 0
theorem some_found {A : NetA} {S : Nat → Prop} {bad : Nat × Nat → Prop} {T : Nat × Nat → Bool} {l : List (Nat × Nat)} {e : Nat} (h : Work (placeE A) (startP S) bad T l) (hm : (e, 3) ∈ l) : someN A S e := by
  obtain ⟨⟨s, k⟩, ⟨h1, h2⟩, h3⟩ := h.sound _ (h.todo _ hm)
  have h2 : k = 0 := h2
  subst h2
  obtain ⟨r, h4, h5⟩ := rch_place.1 h3
  exact ⟨s, r, h1, h4, h5⟩
theorem some_none {A : NetA} {S : Nat → Prop} {T : Nat × Nat → Bool} {e : Nat} (h : Work (placeE A) (startP S) (fun x => x = (e, 3)) T []) : ¬ someN A S e := by
  rintro ⟨q, r, h1, h2, h3⟩
  have h4 := (h.all.1 (e, 3)).2 ⟨(q, 0), ⟨h1, rfl⟩, rch_place.2 ⟨r, h2, h3⟩⟩
  exact h.all.2 _ h4 rfl
end Go.Proofs.YtnpcbcnclncniaaGreatDoor
namespace Go.Proofs.YtnpcbcnclncniaaGreatDoor
open Go.RowKit

/-- The types of the net's own blocks. -/
def netTy (ty : TypeId) : Prop := ty = 84 ∨ ty = 125 ∨ ty = 128
/-- Blocks of other types are as they were. -/
def NetKept (w w' : World) : Prop := ∀ (k : Nat) (vs : Array Value) (ty : TypeId) (fr : Nat × Nat), w.heap[k]? = some (.cells vs ty fr) → ¬ netTy ty → w'.heap[k]? = some (.cells vs ty fr)
theorem NetKept.refl (w : World) : NetKept w w := fun _ _ _ _ h _ => h
theorem NetKept.trans {w w' w'' : World} (h : NetKept w w') (k : NetKept w' w'') : NetKept w w'' := fun b vs ty fr h1 h2 => k b vs ty fr (h b vs ty fr h1 h2) h2
theorem NetKept.below {w w' : World} (h : Below w.heap.size w w') : NetKept w w' := fun k vs ty fr h1 _ => by
  rw [h.block k (Array.getElem?_eq_some_iff.1 h1).1]
  exact h1
theorem NetKept.grown {w w' : World} {row : Option Nat} (h : w.grownBy w' row) (hr : ∀ k, row = some k → ∃ (vs : Array Value) (ty : TypeId) (fr : Nat × Nat), w.heap[k]? = some (.cells vs ty fr) ∧ netTy ty) : NetKept w w' := fun k vs ty fr h1 h2 => by
  have hk := (Array.getElem?_eq_some_iff.1 h1).1
  rw [h.block k hk (fun e => by
    obtain ⟨vs', ty', fr', h3, h4⟩ := hr k e.symm
    rw [h1] at h3
    injection h3 with h3
    injection h3 with _ h5 _
    exact h2 (h5 ▸ h4))]
  exact h1
theorem NetKept.setCell {w w' : World} {b i : Nat} {v : Value} (h : NetKept w w') (hb : ∀ (vs : Array Value) (ty : TypeId) (fr : Nat × Nat), w.heap[b]? = some (.cells vs ty fr) → netTy ty) : NetKept w (w'.setCell ⟨b, i, none⟩ v) := fun k vs ty fr h1 h2 => by
  rw [Below.heap_setCell _ _ _ _ (fun e => h2 (hb vs ty fr (by rw [← show k = b from e]; exact h1)))]
  exact h k vs ty fr h1 h2

/-- A function value that answers whether a byte is taken; it has captured one box. -/
def FnOk (M : Nat) (w0 wx : World) (fv : Value) : Option (UInt8 → Bool) → Prop
  | none => fv = .nilFunc
  | some t => ∃ (F : FuncId) (k : Nat) (vs : Array Value) (ty : TypeId), fv = .func (.func F) #[] #[.pointer (some ⟨k, 0, none⟩)] ∧ ¬ netTy ty ∧ (w0.heap.size ≤ k ∧ k < M) ∧ wx.heap[k]? = some (.cells vs ty (0, 0)) ∧
      (∀ (args : Array Value) (W : World), (callFunc F args).run Tryz.prog W = .ok (.enter F args) W) ∧ ∀ (W : World) (c : UInt8), Below w0.heap.size w0 W → W.heap[k]? = some (.cells vs ty (0, 0)) → Calls Tryz.prog F #[.int .u8 c.toNat, .pointer (some ⟨k, 0, none⟩)] W fun e w' => e = .returned (.bool (t c)) ∧ Below W.heap.size W w'
theorem FnOk.kept {M : Nat} {w0 wx w' : World} {fv : Value} {t : Option (UInt8 → Bool)} (h : FnOk M w0 wx fv t) (hk : NetKept wx w') : FnOk M w0 w' fv t := by
  cases t with
  | none => exact h
  | some t =>
    obtain ⟨F, k, vs, ty, h1, h2, h3, h4, h5⟩ := h
    exact ⟨F, k, vs, ty, h1, h2, h3, hk k vs ty _ h4 h2, h5⟩

def arrCells (a : Arr) (f : Value) : List Value := [.int .i64 a.dst, .bool a.takes.isNone, f]
def rowCells (l : List Arr) (fs : List Value) : List Value := (List.zipWith arrCells l fs).flatten
/-- A state's arrows in memory. -/
def RowAt (M : Nat) (w0 wx : World) (a : Option Addr) (c : Nat) (l : List Arr) : Prop := ∃ fs : List Value, fs.length = l.length ∧ wx.ownsRow w0.heap.size 128 3 (.slice a l.length c) l.length (rowCells l fs) ∧ ∀ (j : Nat) (x : Arr) (f : Value), l[j]? = some x → fs[j]? = some f → FnOk M w0 wx f x.takes
def outerV (A : NetA) (ra : Nat → Option Addr) (rc : Nat → Nat) : List Value := (List.range A.length).map (fun q => .slice (ra q) (rowN A q).length (rc q))
/-- The net in memory; the boxes that its functions have captured lie below M. -/
def NetAtM (M : Nat) (w0 wx : World) (b : Nat) (A : NetA) : Prop := ∃ (ga : Option Addr) (cap : Nat) (ra : Nat → Option Addr) (rc : Nat → Nat),
  w0.heap.size ≤ b ∧ Below w0.heap.size w0 wx ∧ wx.heap[b]? = some (.cells #[.slice ga A.length cap] 84 (0, 0)) ∧
  wx.ownsRow w0.heap.size 125 1 (.slice ga A.length cap) A.length (outerV A ra rc) ∧
  (∀ q, q < A.length → RowAt M w0 wx (ra q) (rc q) (rowN A q)) ∧
  ∀ p q, p < A.length → q < A.length → p ≠ q → ∀ x y, ra p = some x → ra q = some y → x.block ≠ y.block

/-- A row's block is of the row's type. -/
theorem own_ty {w : World} {base n m size : Nat} {e : TypeId} {a : Option Addr} {c : Nat} {xs : List Value} (h : w.ownsRow base e size (.slice a n c) m xs) {x : Addr} (hx : a = some x) : ∃ cur, x = ⟨x.block, 0, none⟩ ∧ base ≤ x.block ∧ w.heap[x.block]? = some (.cells cur e (0, 0)) := by
  rcases h.2 with ⟨hv, _⟩ | ⟨g, c', cur, hv, h1, h2, _⟩
  · injection hv with e1
    rw [hx] at e1
    cases e1
  · injection hv with e1
    rw [hx] at e1
    injection e1 with e1
    subst e1
    exact ⟨cur, rfl, h1, h2⟩
theorem outerV_addS (A : NetA) (ra : Nat → Option Addr) (rc : Nat → Nat) : outerV (addS A) (fun q => if q = A.length then none else ra q) (fun q => if q = A.length then 0 else rc q) = outerV A ra rc ++ [.slice none 0 0] := by
  unfold outerV
  rw [addS_len, List.range_succ, List.map_append]
  congr 1
  · refine List.map_congr_left (fun q hq => ?_)
    have : q ≠ A.length := Nat.ne_of_lt (List.mem_range.1 hq)
    dsimp only
    rw [if_neg this, if_neg this, rowN_addS]
  · simp [rowN_addS, rowN_ge (Nat.le_refl A.length)]
theorem own_move {w w' : World} {base n m size : Nat} {e : TypeId} {a : Option Addr} {c : Nat} {xs : List Value} (h : w.ownsRow base e size (.slice a n c) m xs) (hk : ∀ x, a = some x → w'.heap[x.block]? = w.heap[x.block]?) : w'.ownsRow base e size (.slice a n c) m xs := by
  refine ⟨h.1, ?_⟩
  rcases h.2 with hv | ⟨g, c', cur, hv, h1, h2, h3⟩
  · exact .inl hv
  · refine .inr ⟨g, c', cur, hv, h1, ?_, h3⟩
    injection hv with e1
    rw [hk _ e1]
    exact h2
theorem RowAt.move {M : Nat} {w0 wx w' : World} {a : Option Addr} {c : Nat} {l : List Arr} (h : RowAt M w0 wx a c l) (hk : ∀ x, a = some x → w'.heap[x.block]? = wx.heap[x.block]?) (hn : NetKept wx w') : RowAt M w0 w' a c l := by
  obtain ⟨fs, h1, h2, h3⟩ := h
  exact ⟨fs, h1, own_move h2 hk, fun j x f hx hf => (h3 j x f hx hf).kept hn⟩
theorem RowAt.ty {M : Nat} {w0 wx : World} {a : Option Addr} {c : Nat} {l : List Arr} (h : RowAt M w0 wx a c l) {x : Addr} (hx : a = some x) : ∃ cur, x = ⟨x.block, 0, none⟩ ∧ w0.heap.size ≤ x.block ∧ wx.heap[x.block]? = some (.cells cur 128 (0, 0)) := by
  obtain ⟨fs, h1, h2, h3⟩ := h
  exact own_ty h2 hx
theorem set_box {w : World} {b : Nat} {v u : Value} {ty : TypeId} (h : w.heap[b]? = some (.cells #[v] ty (0, 0))) : (w.setCell ⟨b, 0, none⟩ u).heap[b]? = some (.cells #[u] ty (0, 0)) := by
  simp [World.setCell, Array.getElem?_modify, h]

/-- A state more: behind the append and the store into the net. -/
theorem netAt_state {M : Nat} {w0 wx w1 w' : World} {b g cap' : Nat} {A : NetA} {ga : Option Addr} {cap : Nat} {ra : Nat → Option Addr} {rc : Nat → Nat}
    (hb0 : w0.heap.size ≤ b) (hbel : Below w0.heap.size w0 wx) (hbox : wx.heap[b]? = some (.cells #[.slice ga A.length cap] 84 (0, 0)))
    (hown : wx.ownsRow w0.heap.size 125 1 (.slice ga A.length cap) A.length (outerV A ra rc))
    (hrows : ∀ q, q < A.length → RowAt M w0 wx (ra q) (rc q) (rowN A q))
    (hdist : ∀ p q, p < A.length → q < A.length → p ≠ q → ∀ x y, ra p = some x → ra q = some y → x.block ≠ y.block)
    (hb1 : Below wx.heap.size wx w1) (hg : w1.grownBy w' (Value.slice ga A.length cap).ownBlock)
    (hown' : w'.ownsRow w0.heap.size 125 1 (.slice (some ⟨g, 0, none⟩) (A.length + 1) cap') (A.length + 1) (outerV A ra rc ++ [.slice none 0 0])) :
    NetAtM M w0 (w'.setCell ⟨b, 0, none⟩ (.slice (some ⟨g, 0, none⟩) (A.length + 1) cap')) b (addS A) ∧ NetKept wx (w'.setCell ⟨b, 0, none⟩ (.slice (some ⟨g, 0, none⟩) (A.length + 1) cap')) ∧ w'.heap[b]? = some (.cells #[.slice ga A.length cap] 84 (0, 0)) ∧ wx.heap.size ≤ (w'.setCell ⟨b, 0, none⟩ (.slice (some ⟨g, 0, none⟩) (A.length + 1) cap')).heap.size := by
  have hty : 84 ≠ 125 ∧ 128 ≠ 125 ∧ 128 ≠ 84 := by decide
  have hga : ∀ k, (Value.slice ga A.length cap).ownBlock = some k → w0.heap.size ≤ k ∧ ∃ cur, wx.heap[k]? = some (.cells cur 125 (0, 0)) := fun k hk => by
    cases ga with
    | none => cases hk
    | some x =>
      obtain ⟨cur, _, h2, h3⟩ := own_ty hown rfl
      injection hk with hk
      subst hk
      exact ⟨h2, cur, h3⟩
  have hbl : ∀ (k : Nat) (cur : Array Value) (ty : TypeId), wx.heap[k]? = some (.cells cur ty (0, 0)) → ty ≠ 125 → w'.heap[k]? = wx.heap[k]? := fun k cur ty hk hne => by
    have hlt := (Array.getElem?_eq_some_iff.1 hk).1
    rw [hg.block k (Nat.lt_of_lt_of_le hlt hb1.size) (fun e => by
      obtain ⟨_, cur', h2⟩ := hga k e.symm
      rw [hk] at h2
      injection h2 with h2
      injection h2 with _ h3 _
      exact hne h3), hb1.block k hlt]
  have hbox' : w'.heap[b]? = some (.cells #[.slice ga A.length cap] 84 (0, 0)) := by rw [hbl b _ _ hbox hty.1]; exact hbox
  have hother : ∀ k, k ≠ b → (w'.setCell ⟨b, 0, none⟩ (.slice (some ⟨g, 0, none⟩) (A.length + 1) cap')).heap[k]? = w'.heap[k]? := fun k hk => Below.heap_setCell _ _ _ _ (fun e => hk e)
  have hkept : NetKept wx (w'.setCell ⟨b, 0, none⟩ (.slice (some ⟨g, 0, none⟩) (A.length + 1) cap')) := by
    refine NetKept.setCell ((NetKept.below hb1).trans (NetKept.grown hg (fun k hk => ?_))) (fun vs ty fr h => ?_)
    · obtain ⟨_, cur, h2⟩ := hga k hk
      refine ⟨cur, 125, (0, 0), ?_, .inr (.inl rfl)⟩
      rw [hb1.block k (Array.getElem?_eq_some_iff.1 h2).1]
      exact h2
    · rw [hbox] at h
      injection h with h
      injection h with _ h _
      exact .inl h.symm
  refine ⟨⟨some ⟨g, 0, none⟩, cap', fun q => if q = A.length then none else ra q, fun q => if q = A.length then 0 else rc q, hb0, ?_, ?_, ?_, ?_, ?_⟩, hkept, hbox', by have h1 := hb1.size; have h2 := hg.size; simp [World.setCell]; omega⟩
  · refine Below.setCell ((bTrans hbel hb1).grown hg (Nat.le_trans hbel.size hb1.size) (fun k hk => (hga k hk).1)) hb0 _
  · rw [addS_len]
    exact set_box hbox'
  · rw [addS_len, outerV_addS]
    refine own_move hown' (fun x hx => hother _ (fun e => ?_))
    obtain ⟨cur, _, _, h3⟩ := own_ty hown' hx
    rw [e, hbox'] at h3
    injection h3 with h3
    injection h3 with _ h3 _
    exact hty.1 h3
  · intro q hq
    rw [addS_len] at hq
    rw [rowN_addS]
    dsimp only
    by_cases e : q = A.length
    · subst e
      rw [if_pos rfl, if_pos rfl, rowN_ge (Nat.le_refl _)]
      exact ⟨[], rfl, World.ownsRow_nil _ _ _ _, fun j x f hx => by cases hx⟩
    · rw [if_neg e, if_neg e]
      refine (hrows q (by omega)).move (fun x hx => ?_) hkept
      obtain ⟨cur, _, _, h3⟩ := (hrows q (by omega)).ty hx
      rw [hother _ (fun e2 => ?_), hbl _ _ _ h3 hty.2.1]
      rw [e2, hbox] at h3
      injection h3 with h3
      injection h3 with _ h3 _
      exact hty.2.2 h3.symm
  · intro p q hp hq hne x y hx hy
    rw [addS_len] at hp hq
    dsimp only at hx hy
    by_cases e : p = A.length
    · rw [if_pos e] at hx
      cases hx
    · by_cases e2 : q = A.length
      · rw [if_pos e2] at hy
        cases hy
      · rw [if_neg e] at hx
        rw [if_neg e2] at hy
        exact hdist p q (by omega) (by omega) hne x y hx hy
theorem FnOk.bound {M : Nat} {w0 wx : World} {fv : Value} {t : Option (UInt8 → Bool)} (h : FnOk M w0 wx fv t) : FnOk wx.heap.size w0 wx fv t := by
  cases t with
  | none => exact h
  | some t =>
    obtain ⟨F, k, vs, ty, h1, h2, h3, h4, h5⟩ := h
    exact ⟨F, k, vs, ty, h1, h2, ⟨h3.1, (Array.getElem?_eq_some_iff.1 h4).1⟩, h4, h5⟩
theorem RowAt.bound {M : Nat} {w0 wx : World} {a : Option Addr} {c : Nat} {l : List Arr} (h : RowAt M w0 wx a c l) : RowAt wx.heap.size w0 wx a c l := by
  obtain ⟨fs, h1, h2, h3⟩ := h
  exact ⟨fs, h1, h2, fun j x f hx hf => (h3 j x f hx hf).bound⟩
theorem NetAtM.bound {M : Nat} {w0 wx : World} {b : Nat} {A : NetA} (h : NetAtM M w0 wx b A) : NetAtM wx.heap.size w0 wx b A := by
  obtain ⟨ga, cap, ra, rc, h1, h2, h3, h4, h5, h6⟩ := h
  exact ⟨ga, cap, ra, rc, h1, h2, h3, h4, fun q hq => (h5 q hq).bound, h6⟩
/-- The net in memory, wherever its boxes lie. -/
def NetAt (w0 wx : World) (b : Nat) (A : NetA) : Prop := ∃ M, NetAtM M w0 wx b A
/-- The net stays while blocks of other types are written that its functions have not captured. -/
theorem NetAtM.moveM {M : Nat} {w0 w w' : World} {b : Nat} {A : NetA} (h : NetAtM M w0 w b A) (hb : Below w0.heap.size w0 w') (h1 : ∀ (k : Nat) (vs : Array Value) (ty : TypeId) (fr : Nat × Nat), w.heap[k]? = some (.cells vs ty fr) → netTy ty → w'.heap[k]? = some (.cells vs ty fr)) (h2 : ∀ k, k < M → w'.heap[k]? = w.heap[k]?) : NetAtM M w0 w' b A := by
  obtain ⟨ga, cap, ra, rc, h0, hbel, hbox, hown, hrows, hd⟩ := h
  refine ⟨ga, cap, ra, rc, h0, hb, h1 _ _ _ _ hbox (.inl rfl), own_move hown (fun x hx => ?_), fun q hq => ?_, hd⟩
  · obtain ⟨cur, _, _, h3⟩ := own_ty hown hx
    rw [h1 _ _ _ _ h3 (.inr (.inl rfl)), h3]
  · have hty : ∀ x, ra q = some x → w'.heap[x.block]? = w.heap[x.block]? := fun x hx => by
      obtain ⟨cur, _, _, h3⟩ := (hrows q hq).ty hx
      rw [h1 _ _ _ _ h3 (.inr (.inr rfl)), h3]
    obtain ⟨fs, f1, f2, f3⟩ := hrows q hq
    refine ⟨fs, f1, own_move f2 hty, fun j x f hx hf => ?_⟩
    have f4 := f3 j x f hx hf
    cases ht : x.takes with
    | none =>
      rw [ht] at f4
      exact f4
    | some t =>
      rw [ht] at f4
      obtain ⟨F, k, vs, ty, g1, g2, g3, g4, g5⟩ := f4
      exact ⟨F, k, vs, ty, g1, g2, g3, (h2 k g3.2).trans g4, g5⟩
end Go.Proofs.YtnpcbcnclncniaaGreatDoor
namespace Go.Proofs.YtnpcbcnclncniaaGreatDoor
open Go.RowKit

theorem elem_rows : ElemOk Tryz.prog 82 125 (.slice none 0 0) 24 := by
  obtain ⟨i0, hi, hz0, hz1, hz2⟩ := info_parts (show (Tryz.prog.info? 125).map (fun i => (i.zero, i.size, i.bytes)) = some (some (.slice none 0 0), 1, 24) by kernel_rfl)
  exact ⟨i0, Tryz.underlying82, hi, hz0, hz1, hz2, rfl⟩

set_option maxRecDepth 100000 in
theorem wp_appO {ops : Array Oper} {rest : List Oper} {o : Oper} {act : Act} {Q : Exit → Act → World → Prop} {te : TypeId} {w0 wx : World} {a : Option Addr} {n cap : Nat} {xs : List Value}
    (hz : w0.heap.size ≤ wx.heap.size) (hO : wx.ownsRow w0.heap.size 125 1 (.slice a n cap) n xs) (hby : n ≤ 1000000000) (hgd : o.guard = none) (s x : Operand)
    (ho : o.op = .call { callee := .builtin .append, args := #[s, x], argTypes := #[82, 82] }) (hs : act.eval s = .slice a n cap) (hx : act.eval x = .slice (some ⟨wx.heap.size, 0, none⟩) 1 1)
    (h : ∀ g cap' w', w'.ownsRow w0.heap.size 125 1 (.slice (some ⟨g, 0, none⟩) (n + 1) cap') (n + 1) (xs ++ [.slice none 0 0]) → (wx.alloc (.cells #[.slice none 0 0] te)).grownBy w' (Value.slice a n cap).ownBlock → wpList Tryz.prog ops Q rest (act.put o.dst (.slice (some ⟨g, 0, none⟩) (n + 1) cap')) w') :
    wpList Tryz.prog ops Q (o :: rest) act (wx.alloc (.cells #[.slice none 0 0] te)) := by
  obtain ⟨i, ht, hi, hz0, hz1, hz2, hz3⟩ := elem_rows
  have hba : w0.heap.size ≤ (wx.alloc (.cells #[.slice none 0 0] te)).heap.size := by simp; omega
  refine wpList_append_lies _ hgd s x 82 ho w0.heap.size 125 i _ 1 24 ht hi hz0 hz1 hz2 hz3 (by decide) _ n xs hs (hO.alloc _) ⟨wx.heap.size, 0, none⟩ 1 1 [.slice none 0 0] hx rfl (World.news_of_block (heap_alloc_new wx (.cells #[.slice none 0 0] te))) (by simp [Value.oneCell']) (by decide) (by unfold maxLen; omega) (by omega) hba _ rfl ?_
  intro g cap' w' hown hgrow hat hlt
  exact h g cap' w' hown hgrow

set_option maxHeartbeats 1000000 in
set_option maxRecDepth 100000 in
theorem state_anyM {M : Nat} {w0 : World} {b : Nat} {A : NetA} (w : World) (h : NetAtM M w0 w b A) (hl : A.length ≤ 100000000) :
    Calls Tryz.prog 49 #[.pointer (some ⟨b, 0, none⟩)] w fun e w' => e = .returned (.int .i64 A.length) ∧ NetAtM M w0 w' b (addS A) ∧ NetKept w w' ∧ w.heap.size ≤ w'.heap.size := by
  obtain ⟨ga, cap, ra, rc, hb0, hbel, hbox, hown, hrows, hdist⟩ := h
  have HS := Lib.hid (fun w1 w' g cap' hb1 hg hown' => netAt_state (w1 := w1) (w' := w') (g := g) (cap' := cap') hb0 hbel hbox hown hrows hdist hb1 hg hown')
  have c0 := BoxIs.cell (j := 0) hbox rfl
  have HO := Lib.hid hown
  have hz := hbel.size
  obtain ⟨N, hN⟩ : ∃ N, A.length = N := ⟨_, rfl⟩
  rw [hN] at HS HO c0 hl ⊢
  clear hb0 hbel hbox hown hrows hdist hN
  go_enter Tryz.func49, Tryz.ntmps49
  go_wp2_with (at_builtin; refine wp_appO hz HO.out (by omega) rfl (.tmp 7) (.tmp 8) rfl rfl rfl ?_; intro g cap' w' hown' hg; obtain ⟨h1, h2, h3, h4⟩ := HS.out _ w' g cap' (bAlloc (Below.refl _ _) _) hg hown'; have f1 := BoxIs.cell (j := 0) h3 rfl; have f2 := Lib.frozen_of_heap h3 0; have H12 := Lib.hid (And.intro h1 (And.intro h2 h4)); have f3 := BoxIs.cell (j := 0) (set_box (u := .slice (some ⟨g, 0, none⟩) (N + 1) cap') h3) rfl; clear h1 h2 h3 h4 c0 HS HO hown' hg)
  go_ret
  exact ⟨by go_num, H12.out⟩
theorem state_any {w0 : World} {b : Nat} {A : NetA} (w : World) (h : NetAt w0 w b A) (hl : A.length ≤ 100000000) :
    Calls Tryz.prog 49 #[.pointer (some ⟨b, 0, none⟩)] w fun e w' => e = .returned (.int .i64 A.length) ∧ NetAt w0 w' b (addS A) ∧ NetKept w w' := by
  obtain ⟨M, h⟩ := h
  refine (state_anyM w h hl).mono ?_
  rintro e w' ⟨h1, h2, h3, _⟩
  exact ⟨h1, ⟨M, h2⟩, h3⟩
end Go.Proofs.YtnpcbcnclncniaaGreatDoor
namespace Go.Proofs.YtnpcbcnclncniaaGreatDoor
open Go.RowKit

theorem own_set {w : World} {base n g c q : Nat} {e : TypeId} {xs : List Value} (h : w.ownsRow base e 1 (.slice (some ⟨g, 0, none⟩) n c) n xs) (v : Value) : (w.setCell ⟨g, q, none⟩ v).ownsRow base e 1 (.slice (some ⟨g, 0, none⟩) n c) n (xs.set q v) := by
  refine ⟨by rw [List.length_set]; exact h.1, ?_⟩
  rcases h.2 with ⟨hv, _⟩ | ⟨g', c', cur, hv, h1, h2, h3, h4, h5, h6⟩
  · cases hv
  · injection hv with e1 _ e3
    injection e1 with e1
    injection e1 with e1 _ _
    subst e1 e3
    refine .inr ⟨g, c, cur.setIfInBounds q v, rfl, h1, ?_, h3, h4, by rw [Array.size_setIfInBounds]; exact h5, ?_⟩
    · simp [World.setCell, Array.getElem?_modify, h2]
    · apply List.ext_getElem?
      intro i
      rw [List.getElem?_set, ← h6]
      by_cases hi : i < n * 1
      · rw [List.getElem?_take_of_lt hi, List.getElem?_take_of_lt hi]
        simp only [Array.getElem?_toList, Array.getElem?_setIfInBounds]
        by_cases e : q = i
        · subst e
          have : q < cur.size := by rw [h5]; omega
          simp [this]
          omega
        · simp [e]
      · rw [List.getElem?_eq_none (by rw [List.length_take]; omega), List.getElem?_eq_none (by rw [List.length_take]; omega)]
        split
        · rw [if_neg (by rw [List.length_take]; omega)]
        · rfl
theorem outerV_addA {A : NetA} {q : Nat} (hq : q < A.length) (dst : Nat) (t : Option (UInt8 → Bool)) (ra : Nat → Option Addr) (rc : Nat → Nat) (a : Option Addr) (c : Nat) :
    outerV (addA A q dst t) (fun p => if p = q then a else ra p) (fun p => if p = q then c else rc p) = (outerV A ra rc).set q (.slice a ((rowN A q).length + 1) c) := by
  unfold outerV
  rw [addA_len]
  apply List.ext_getElem?
  intro i
  rw [List.getElem?_set, List.getElem?_map, List.getElem?_map]
  by_cases hi : i < A.length
  · rw [List.getElem?_range hi, List.length_map, List.length_range]
    simp only [Option.map_some]
    by_cases e : q = i
    · subst e
      rw [if_pos rfl, if_pos hi, if_pos rfl, if_pos rfl, rowN_addA dst t hq, if_pos rfl, List.length_append]
      rfl
    · rw [if_neg e, if_neg (fun h => e h.symm), if_neg (fun h => e h.symm), rowN_addA dst t hq, if_neg (fun h => e h.symm)]
  · rw [List.getElem?_eq_none (by rw [List.length_range]; omega)]
    split
    · rw [if_neg (by rw [List.length_map, List.length_range]; omega)]
      rfl
    · rfl
theorem rowCells_snoc {l : List Arr} {fs : List Value} (h : fs.length = l.length) (x : Arr) (f : Value) : rowCells (l ++ [x]) (fs ++ [f]) = rowCells l fs ++ arrCells x f := by
  unfold rowCells
  rw [List.zipWith_append h.symm]
  simp

/-- An arrow more: behind the append and the store into the state's cell. -/
theorem netAt_arrow {M : Nat} {w0 wx w1 w' : World} {b g gb c' q dst : Nat} {A : NetA} {cap : Nat} {ra : Nat → Option Addr} {rc : Nat → Nat} {t : Option (UInt8 → Bool)} {f : Value}
    (hb0 : w0.heap.size ≤ b) (hbel : Below w0.heap.size w0 wx) (hbox : wx.heap[b]? = some (.cells #[.slice (some ⟨gb, 0, none⟩) A.length cap] 84 (0, 0)))
    (hown : wx.ownsRow w0.heap.size 125 1 (.slice (some ⟨gb, 0, none⟩) A.length cap) A.length (outerV A ra rc))
    (hrows : ∀ q, q < A.length → RowAt M w0 wx (ra q) (rc q) (rowN A q))
    (hdist : ∀ p q, p < A.length → q < A.length → p ≠ q → ∀ x y, ra p = some x → ra q = some y → x.block ≠ y.block)
    (hq : q < A.length) {fs : List Value} (hfs : fs.length = (rowN A q).length) (hfo : ∀ (j : Nat) (x : Arr) (f : Value), (rowN A q)[j]? = some x → fs[j]? = some f → FnOk M w0 wx f x.takes) (hf : FnOk M w0 wx f t)
    (hb1 : Below wx.heap.size wx w1) (hg : w1.grownBy w' (Value.slice (ra q) (rowN A q).length (rc q)).ownBlock) (hloc : (Value.slice (ra q) (rowN A q).length (rc q)).ownBlock = some g ∨ wx.heap.size ≤ g)
    (hown' : w'.ownsRow w0.heap.size 128 3 (.slice (some ⟨g, 0, none⟩) ((rowN A q).length + 1) c') ((rowN A q).length + 1) (rowCells (rowN A q) fs ++ arrCells ⟨dst, t⟩ f)) :
    NetAtM M w0 (w'.setCell ⟨gb, q, none⟩ (.slice (some ⟨g, 0, none⟩) ((rowN A q).length + 1) c')) b (addA A q dst t) ∧ NetKept wx (w'.setCell ⟨gb, q, none⟩ (.slice (some ⟨g, 0, none⟩) ((rowN A q).length + 1) c')) ∧ w'.heap[gb]? = wx.heap[gb]? ∧ w'.heap[b]? = some (.cells #[.slice (some ⟨gb, 0, none⟩) A.length cap] 84 (0, 0)) := by
  have hty : 84 ≠ 125 ∧ 128 ≠ 125 ∧ 128 ≠ 84 := by decide
  have hga : ∀ k, (Value.slice (ra q) (rowN A q).length (rc q)).ownBlock = some k → w0.heap.size ≤ k ∧ (∃ x, ra q = some x ∧ x.block = k) ∧ ∃ cur, wx.heap[k]? = some (.cells cur 128 (0, 0)) := fun k hk => by
    cases hrq : ra q with
    | none => rw [hrq] at hk; cases hk
    | some x =>
      rw [hrq] at hk
      obtain ⟨cur, _, h2, h3⟩ := (hrows q hq).ty hrq
      injection hk with hk
      subst hk
      exact ⟨h2, ⟨x, rfl, rfl⟩, cur, h3⟩
  have hne2 : ∀ (k : Nat) (cur : Array Value) (ty : TypeId) (cur' : Array Value) (ty' : TypeId) (k' : Nat), wx.heap[k]? = some (.cells cur ty (0, 0)) → wx.heap[k']? = some (.cells cur' ty' (0, 0)) → ty ≠ ty' → k ≠ k' := fun k cur ty cur' ty' k' h1 h2 h3 e => by
    subst e
    rw [h1] at h2
    injection h2 with h2
    injection h2 with _ h4 _
    exact h3 h4
  have hbl : ∀ (k : Nat), k < wx.heap.size → (∀ x, ra q = some x → x.block ≠ k) → w'.heap[k]? = wx.heap[k]? := fun k hk hne => by
    rw [hg.block k (Nat.lt_of_lt_of_le hk hb1.size) (fun e => by
      obtain ⟨_, ⟨x, h1, h2⟩, _⟩ := hga k e.symm
      exact hne x h1 h2), hb1.block k hk]
  obtain ⟨curO, _, hgb0, hgb⟩ := own_ty hown rfl
  have hgbl := (Array.getElem?_eq_some_iff.1 hgb).1
  have hbb := (Array.getElem?_eq_some_iff.1 hbox).1
  have hqty : ∀ x, ra q = some x → ∃ cur, wx.heap[x.block]? = some (.cells cur 128 (0, 0)) := fun x hx => by
    obtain ⟨cur, _, _, h⟩ := (hrows q hq).ty hx
    exact ⟨cur, h⟩
  have hgb' : w'.heap[gb]? = wx.heap[gb]? := hbl gb hgbl (fun x hx => by
    obtain ⟨cur, h⟩ := hqty x hx
    exact hne2 _ _ _ _ _ _ h hgb hty.2.1)
  have hbox' : w'.heap[b]? = some (.cells #[.slice (some ⟨gb, 0, none⟩) A.length cap] 84 (0, 0)) := by
    rw [hbl b hbb (fun x hx => by
      obtain ⟨cur, h⟩ := hqty x hx
      exact hne2 _ _ _ _ _ _ h hbox hty.2.2)]
    exact hbox
  have hother : ∀ k, k ≠ gb → (w'.setCell ⟨gb, q, none⟩ (.slice (some ⟨g, 0, none⟩) ((rowN A q).length + 1) c')).heap[k]? = w'.heap[k]? := fun k hk => Below.heap_setCell _ _ _ _ (fun e => hk e)
  have hkept : NetKept wx (w'.setCell ⟨gb, q, none⟩ (.slice (some ⟨g, 0, none⟩) ((rowN A q).length + 1) c')) := by
    refine NetKept.setCell ((NetKept.below hb1).trans (NetKept.grown hg (fun k hk => ?_))) (fun vs ty fr h => ?_)
    · obtain ⟨_, _, cur, h2⟩ := hga k hk
      refine ⟨cur, 128, (0, 0), ?_, .inr (.inr rfl)⟩
      rw [hb1.block k (Array.getElem?_eq_some_iff.1 h2).1]
      exact h2
    · rw [show gb = (⟨gb, 0, none⟩ : Addr).block from rfl, hgb] at h
      injection h with h
      injection h with _ h _
      exact .inr (.inl h.symm)
  have hgne : g ≠ gb := by
    intro e
    rcases hloc with h | h
    · obtain ⟨_, _, cur, h2⟩ := hga g h
      exact hne2 _ _ _ _ _ _ h2 hgb hty.2.1 e
    · have : gb < wx.heap.size := hgbl
      omega
  refine ⟨⟨some ⟨gb, 0, none⟩, cap, fun p => if p = q then some ⟨g, 0, none⟩ else ra p, fun p => if p = q then c' else rc p, hb0, ?_, ?_, ?_, ?_, ?_⟩, hkept, hgb', hbox'⟩
  · exact Below.setCell ((bTrans hbel hb1).grown hg (Nat.le_trans hbel.size hb1.size) (fun k hk => (hga k hk).1)) (p := ⟨gb, q, none⟩) hgb0 _
  · rw [addA_len, hother b (hne2 _ _ _ _ _ _ hbox hgb hty.1)]
    exact hbox'
  · rw [addA_len, outerV_addA hq]
    exact own_set (own_move hown (fun x hx => by
      injection hx with hx
      subst hx
      exact hgb')) _
  · intro p hp
    rw [addA_len] at hp
    dsimp only
    by_cases e : p = q
    · subst e
      rw [if_pos rfl, if_pos rfl, rowN_addA _ _ hq, if_pos rfl]
      refine ⟨fs ++ [f], by rw [List.length_append, List.length_append, hfs]; rfl, ?_, fun j x f' hx hf' => ?_⟩
      · rw [rowCells_snoc hfs, List.length_append]
        refine own_move hown' (fun x hx => ?_)
        injection hx with hx
        subst hx
        exact hother g hgne
      · by_cases hj : j < (rowN A p).length
        · rw [List.getElem?_append_left hj] at hx
          rw [List.getElem?_append_left (by omega)] at hf'
          exact (hfo j x f' hx hf').kept hkept
        · have hj2 : j < (rowN A p ++ [(⟨dst, t⟩ : Arr)]).length := (List.getElem?_eq_some_iff.1 hx).1
          rw [List.length_append, List.length_singleton] at hj2
          obtain rfl : j = (rowN A p).length := by omega
          rw [List.getElem?_concat_length] at hx
          rw [← hfs, List.getElem?_concat_length] at hf'
          injection hx with hx
          injection hf' with hf'
          subst hx hf'
          exact hf.kept hkept
    · rw [if_neg e, if_neg e, rowN_addA _ _ hq, if_neg e]
      refine (hrows p hp).move (fun x hx => ?_) hkept
      obtain ⟨cur, _, _, h3⟩ := (hrows p hp).ty hx
      rw [hother _ (hne2 _ _ _ _ _ _ h3 hgb hty.2.1), hbl _ (Array.getElem?_eq_some_iff.1 h3).1 (fun y hy => (hdist p q hp hq e x y hx hy).symm)]
  · intro p r hp hr hne x y hx hy
    rw [addA_len] at hp hr
    dsimp only at hx hy
    have hnew : ∀ p, p < A.length → p ≠ q → ∀ x, ra p = some x → x.block ≠ g := fun p hp hpq x hx e => by
      obtain ⟨cur, _, _, h3⟩ := (hrows p hp).ty hx
      rcases hloc with h | h
      · obtain ⟨_, ⟨y, h1, h2⟩, _⟩ := hga g h
        exact hdist p q hp hq hpq x y hx h1 (by omega)
      · have := (Array.getElem?_eq_some_iff.1 h3).1
        omega
    by_cases e : p = q
    · rw [if_pos e] at hx
      rw [if_neg (fun e2 => hne (e.trans e2.symm))] at hy
      injection hx with hx
      subst hx
      exact fun h => hnew r hr (fun e2 => hne (e.trans e2.symm)) y hy h.symm
    · rw [if_neg e] at hx
      by_cases e2 : r = q
      · rw [if_pos e2] at hy
        injection hy with hy
        subst hy
        exact hnew p hp e x hx
      · rw [if_neg e2] at hy
        exact hdist p r hp hr hne x y hx hy
end Go.Proofs.YtnpcbcnclncniaaGreatDoor
namespace Go.Proofs.YtnpcbcnclncniaaGreatDoor
open Go.RowKit

theorem drB0 {B : Nat} {a b : World} (h : Below B a b) : Below B a b.drew := ⟨h.os, h.tape, h.output, h.size, h.block⟩

theorem elem_arrow : ∃ i : TypeInfo, Tryz.prog.underlying 125 = some (.slice 128) ∧ Tryz.prog.info? 128 = some i ∧ i.zero = some (.agg #[.int .i64 0, .bool false, .nilFunc]) ∧ i.size = 3 ∧ i.bytes = 24 := by
  obtain ⟨i0, hi, hz0, hz1, hz2⟩ := info_parts (show (Tryz.prog.info? 128).map (fun i => (i.zero, i.size, i.bytes)) = some (some (.agg #[.int .i64 0, .bool false, .nilFunc]), 3, 24) by kernel_rfl)
  exact ⟨i0, Tryz.underlying125, hi, hz0, hz1, hz2⟩

set_option maxRecDepth 100000 in
theorem wp_appA {o : Oper} {act : Act} {K : Act → World → Prop} {Q : Exit → Act → World → Prop} {te : TypeId} {w0 wx : World} {a : Option Addr} {n cap : Nat} {xs : List Value}
    (hz : w0.heap.size ≤ wx.heap.size) (hO : wx.ownsRow w0.heap.size 128 3 (.slice a n cap) n xs) (hby : n ≤ 1000000000) (dst : Nat) (fr : Bool) (f : Value) (hf1 : f.oneCell' = true) (s x : Operand)
    (ho : o.op = .call { callee := .builtin .append, args := #[s, x], argTypes := #[125, 125] }) (hs : act.eval s = .slice a n cap) (hx : act.eval x = .slice (some ⟨wx.heap.size, 0, none⟩) 1 1)
    (h : ∀ g cap' w', w'.ownsRow w0.heap.size 128 3 (.slice (some ⟨g, 0, none⟩) (n + 1) cap') (n + 1) (xs ++ [.int .i64 dst, .bool fr, f]) → (wx.alloc (.cells #[.int .i64 dst, .bool fr, f] te)).grownBy w' (Value.slice a n cap).ownBlock → ((Value.slice a n cap).ownBlock = some g ∨ wx.heap.size ≤ g) → K (act.put o.dst (.slice (some ⟨g, 0, none⟩) (n + 1) cap')) w') :
    o.wp Tryz.prog act (wx.alloc (.cells #[.int .i64 dst, .bool fr, f] te)) K Q := by
  obtain ⟨i, ht, hi, hz0, hz1, hz2⟩ := elem_arrow
  have hba : w0.heap.size ≤ (wx.alloc (.cells #[.int .i64 dst, .bool fr, f] te)).heap.size := by simp; omega
  refine wp_append_lies _ s x 125 ho w0.heap.size 128 i _ 3 24 ht hi hz0 hz1 hz2 rfl (by decide) _ n xs hs (hO.alloc _) ⟨wx.heap.size, 0, none⟩ 1 1 [.int .i64 dst, .bool fr, f] hx rfl (World.news_of_block (heap_alloc_new wx (.cells #[.int .i64 dst, .bool fr, f] te))) (by intro u hu; simp only [List.mem_cons, List.not_mem_nil, or_false] at hu; rcases hu with rfl | rfl | rfl <;> first | rfl | exact hf1) (by decide) (by unfold maxLen; omega) (by omega) hba _ rfl ?_
  intro g cap' w' hown hgrow hat hlt
  refine h g cap' w' hown hgrow ?_
  rcases hat with h' | h'
  · exact .inl h'
  · right
    rw [h']
    simp

theorem cell_same {w w' : World} {gb q : Nat} {v : Value} (e : w'.heap[gb]? = w.heap[gb]?) (h : w.cell? ⟨gb, q, none⟩ = some v) : w'.cell? ⟨gb, q, none⟩ = some v := by
  unfold World.cell? at *
  dsimp only at *
  rw [e]
  exact h
theorem frozen_same {w w' : World} {gb q : Nat} {v : Bool} (e : w'.heap[gb]? = w.heap[gb]?) (h : w.frozen? ⟨gb, q, none⟩ = v) : w'.frozen? ⟨gb, q, none⟩ = v := by
  unfold World.frozen? at *
  dsimp only at *
  rw [e]
  exact h

/-- A cell of a row of the call's own. -/
theorem own_cell {w : World} {base n g c q : Nat} {e : TypeId} {xs : List Value} {v : Value} (h : w.ownsRow base e 1 (.slice (some ⟨g, 0, none⟩) n c) n xs) (hv : xs[q]? = some v) : w.cell? ⟨g, q, none⟩ = some v ∧ w.frozen? ⟨g, q, none⟩ = false := by
  have hq := (List.getElem?_eq_some_iff.1 hv).1
  rcases h.2 with ⟨hs, _⟩ | ⟨g', c', cur, hs, _, hg, hn, _, hsz, htk⟩
  · cases hs
  · injection hs with e1
    injection e1 with e1
    injection e1 with e1
    subst e1
    refine ⟨?_, by simp [World.frozen?, hg]⟩
    rw [← htk] at hv
    have hv' : cur.toList[q]? = some v := by
      rw [List.getElem?_take] at hv
      split at hv
      · exact hv
      · cases hv
    simp only [World.cell?, hg]
    simpa using hv'

theorem nilEq (w : World) : (binOp .eql 126 .nilFunc .nilFunc).run Tryz.prog w = .ok (.bool true) w := by kernel_rfl
theorem funcEq (F : FuncId) (k : Nat) (w : World) : (binOp .eql 126 (.func (.func F) #[] #[.pointer (some ⟨k, 0, none⟩)]) .nilFunc).run Tryz.prog w = .ok (.bool false) w := by kernel_rfl

set_option maxHeartbeats 4000000 in
set_option maxRecDepth 100000 in
theorem arrow_any {w0 : World} {b : Nat} {A : NetA} (w : World) (h : NetAt w0 w b A) (q dst : Nat) (hq : q < A.length) (hl : (rowN A q).length ≤ 100000000) (_hA : A.length ≤ 100000000) (t : Option (UInt8 → Bool)) (fv : Value) (hf : FnOk w.heap.size w0 w fv t) :
    Calls Tryz.prog 112 #[.pointer (some ⟨b, 0, none⟩), .int .i64 q, .int .i64 dst, fv] w fun e w' => e = .returned (.tuple #[]) ∧ NetAt w0 w' b (addA A q dst t) ∧ NetKept w w' := by
  obtain ⟨M0, h⟩ := h
  obtain ⟨ga, cap, ra, rc, hb0, hbel, hbox, hown, hrows, hdist⟩ := h.bound
  clear h
  obtain ⟨gb, rfl⟩ : ∃ gb, ga = some ⟨gb, 0, none⟩ := by
    rcases hown.2 with ⟨_, h0⟩ | ⟨g, c, cur, hv, _⟩
    · have : A.length = 0 := by omega
      omega
    · injection hv with e1
      exact ⟨g, e1⟩
  obtain ⟨fs, hfs, hrow, hfo⟩ := hrows q hq
  have HS := Lib.hid (fun w1 w' g c' hb1 hg hloc hown' => netAt_arrow (w1 := w1) (w' := w') (g := g) (c' := c') (dst := dst) hb0 hbel hbox hown hrows hdist hq hfs hfo hf hb1 hg hloc hown')
  have c0 := BoxIs.cell (j := 0) hbox rfl
  have hov : (outerV A ra rc)[q]? = some (.slice (ra q) (rowN A q).length (rc q)) := by
    unfold outerV
    rw [List.getElem?_map, List.getElem?_range hq]
    rfl
  obtain ⟨c1, f1⟩ := own_cell hown hov
  have hgl : gb < w.heap.size := cell_lt c1
  have hbl : b < w.heap.size := cell_lt c0
  have HC1 := Lib.hid (fun (w' : World) (e : w'.heap[gb]? = w.heap[gb]?) => cell_same (w := w) (w' := w') (q := q) e c1)
  have HF1 := Lib.hid (fun (w' : World) (e : w'.heap[gb]? = w.heap[gb]?) => frozen_same (w := w) (w' := w') (q := q) e f1)
  have HO := Lib.hid (show w.drew.ownsRow w0.heap.size 128 3 (.slice (ra q) (rowN A q).length (rc q)) (rowN A q).length (rowCells (rowN A q) fs) from hrow)
  have hz : w0.heap.size ≤ w.drew.heap.size := hbel.size
  have HA := Lib.hid (fun (te : TypeId) (o : Array Value) => And.intro ((World.cell?_alloc_lt w.drew (.cells o te) ⟨b, 0, none⟩ hbl).trans c0) ((World.cell?_alloc_lt w.drew (.cells o te) ⟨gb, q, none⟩ hgl).trans c1))
  obtain ⟨N, hN⟩ : ∃ N, A.length = N := ⟨_, rfl⟩
  obtain ⟨l, hL⟩ : ∃ l, (rowN A q).length = l := ⟨_, rfl⟩
  rw [hN] at HS c0 _hA hq HA
  rw [hL] at HS HO c1 hl HA HC1
  have hnf := nilEq
  have hff := funcEq
  have hqI : (q : Int) < (N : Int) := by omega
  have hq0 : (0 : Int) ≤ (q : Int) := by omega
  cases t with
  | none =>
    obtain rfl := hf
    clear hb0 hbel hbox hown hrows hdist hN hL hfs hrow hfo hov f1
    go_enter Tryz.func112, Tryz.ntmps112
    have c0a := (HA.out 128 #[.int .i64 dst, .bool true, .nilFunc]).1
    have c1a := (HA.out 128 #[.int .i64 dst, .bool true, .nilFunc]).2
    refine wp_region_seqT (fun W => W.cell? ⟨b, 0, none⟩ = some (.slice (some ⟨gb, 0, none⟩) N cap) ∧ W.cell? ⟨gb, q, none⟩ = some (.slice (ra q) l (rc q))) 20 [(0, true), (1, true), (2, true), (3, true), (4, true), (5, true), (6, true), (7, true), (8, true), (9, true), (10, true), (11, true), (12, true), (13, true), (14, true), (15, true), (16, true), (17, false), (18, false), (19, true), (20, false)] (by as_aux_lemma => kernel_rfl) (by as_aux_lemma => kernel_rfl) (by as_aux_lemma => kernel_rfl) (by decide) (by as_aux_lemma => kernel_rfl) (by decide) (⟨c0, c1⟩) ?_
    intro OPS HOP
    refine seqT_take (o := ⟨_, _, _, _, _, _⟩) (v := ?_) (by rw [HOP.out]; rfl) (by rfl) ?_ ?_
    rotate_left 1
    · first | ((intro W _; go_simp) <;> with_reducible rfl) | (intro W hW; obtain ⟨s1, s2⟩ := hW; (go_simp <;> with_reducible rfl))
    try simp only [Act.put, List.setIfInBounds_toArray, List.set_cons_zero, List.set_cons_succ]
    refine seqT_take (o := ⟨_, _, _, _, _, _⟩) (v := ?_) (by rw [HOP.out]; rfl) (by rfl) ?_ ?_
    rotate_left 1
    · first | ((intro W _; go_simp) <;> with_reducible rfl) | (intro W hW; obtain ⟨s1, s2⟩ := hW; (go_simp <;> with_reducible rfl))
    try simp only [Act.put, List.setIfInBounds_toArray, List.set_cons_zero, List.set_cons_succ]
    refine seqT_take (o := ⟨_, _, _, _, _, _⟩) (v := ?_) (by rw [HOP.out]; rfl) (by rfl) ?_ ?_
    rotate_left 1
    · first | ((intro W _; go_simp) <;> with_reducible rfl) | (intro W hW; obtain ⟨s1, s2⟩ := hW; (go_simp <;> with_reducible rfl))
    try simp only [Act.put, List.setIfInBounds_toArray, List.set_cons_zero, List.set_cons_succ]
    refine seqT_take (o := ⟨_, _, _, _, _, _⟩) (v := ?_) (by rw [HOP.out]; rfl) (by rfl) ?_ ?_
    rotate_left 1
    · first | ((intro W _; go_simp) <;> with_reducible rfl) | (intro W hW; obtain ⟨s1, s2⟩ := hW; (go_simp <;> with_reducible rfl))
    try simp only [Act.put, List.setIfInBounds_toArray, List.set_cons_zero, List.set_cons_succ]
    refine seqT_take (o := ⟨_, _, _, _, _, _⟩) (v := ?_) (by rw [HOP.out]; rfl) (by rfl) ?_ ?_
    rotate_left 1
    · first | ((intro W _; go_simp) <;> with_reducible rfl) | (intro W hW; obtain ⟨s1, s2⟩ := hW; (go_simp <;> with_reducible rfl))
    try simp only [Act.put, List.setIfInBounds_toArray, List.set_cons_zero, List.set_cons_succ]
    refine seqT_take (o := ⟨_, _, _, _, _, _⟩) (v := ?_) (by rw [HOP.out]; rfl) (by rfl) ?_ ?_
    rotate_left 1
    · first | ((intro W _; go_simp) <;> with_reducible rfl) | (intro W hW; obtain ⟨s1, s2⟩ := hW; (go_simp <;> with_reducible rfl))
    try simp only [Act.put, List.setIfInBounds_toArray, List.set_cons_zero, List.set_cons_succ]
    refine seqT_take (o := ⟨_, _, _, _, _, _⟩) (v := ?_) (by rw [HOP.out]; rfl) (by rfl) ?_ ?_
    rotate_left 1
    · first | ((intro W _; go_simp) <;> with_reducible rfl) | (intro W hW; obtain ⟨s1, s2⟩ := hW; (go_simp <;> with_reducible rfl))
    try simp only [Act.put, List.setIfInBounds_toArray, List.set_cons_zero, List.set_cons_succ]
    refine seqT_take (o := ⟨_, _, _, _, _, _⟩) (v := ?_) (by rw [HOP.out]; rfl) (by rfl) ?_ ?_
    rotate_left 1
    · first | ((intro W _; go_simp) <;> with_reducible rfl) | (intro W hW; obtain ⟨s1, s2⟩ := hW; (go_simp <;> with_reducible rfl))
    try simp only [Act.put, List.setIfInBounds_toArray, List.set_cons_zero, List.set_cons_succ]
    refine seqT_take (o := ⟨_, _, _, _, _, _⟩) (v := ?_) (by rw [HOP.out]; rfl) (by rfl) ?_ ?_
    rotate_left 1
    · first | ((intro W _; go_simp) <;> with_reducible rfl) | (intro W hW; obtain ⟨s1, s2⟩ := hW; (go_simp <;> with_reducible rfl))
    try simp only [Act.put, List.setIfInBounds_toArray, List.set_cons_zero, List.set_cons_succ]
    refine seqT_take (o := ⟨_, _, _, _, _, _⟩) (v := ?_) (by rw [HOP.out]; rfl) (by rfl) ?_ ?_
    rotate_left 1
    · first | ((intro W _; go_simp) <;> with_reducible rfl) | (intro W hW; obtain ⟨s1, s2⟩ := hW; (go_simp <;> with_reducible rfl))
    try simp only [Act.put, List.setIfInBounds_toArray, List.set_cons_zero, List.set_cons_succ]
    refine seqT_take (o := ⟨_, _, _, _, _, _⟩) (v := ?_) (by rw [HOP.out]; rfl) (by rfl) ?_ ?_
    rotate_left 1
    · first | ((intro W _; go_simp) <;> with_reducible rfl) | (intro W hW; obtain ⟨s1, s2⟩ := hW; (go_simp <;> with_reducible rfl))
    try simp only [Act.put, List.setIfInBounds_toArray, List.set_cons_zero, List.set_cons_succ]
    refine seqT_take (o := ⟨_, _, _, _, _, _⟩) (v := ?_) (by rw [HOP.out]; rfl) (by rfl) ?_ ?_
    rotate_left 1
    · first | ((intro W _; go_simp) <;> with_reducible rfl) | (intro W hW; obtain ⟨s1, s2⟩ := hW; (go_simp <;> with_reducible rfl))
    try simp only [Act.put, List.setIfInBounds_toArray, List.set_cons_zero, List.set_cons_succ]
    refine seqT_take (o := ⟨_, _, _, _, _, _⟩) (v := ?_) (by rw [HOP.out]; rfl) (by rfl) ?_ ?_
    rotate_left 1
    · first | ((intro W _; go_simp) <;> with_reducible rfl) | (intro W hW; obtain ⟨s1, s2⟩ := hW; (go_simp <;> with_reducible rfl))
    try simp only [Act.put, List.setIfInBounds_toArray, List.set_cons_zero, List.set_cons_succ]
    refine seqT_take (o := ⟨_, _, _, _, _, _⟩) (v := ?_) (by rw [HOP.out]; rfl) (by rfl) ?_ ?_
    rotate_left 1
    · first | ((intro W _; go_simp) <;> with_reducible rfl) | (intro W hW; obtain ⟨s1, s2⟩ := hW; (go_simp <;> with_reducible rfl))
    try simp only [Act.put, List.setIfInBounds_toArray, List.set_cons_zero, List.set_cons_succ]
    refine seqT_take (o := ⟨_, _, _, _, _, _⟩) (v := ?_) (by rw [HOP.out]; rfl) (by rfl) ?_ ?_
    rotate_left 1
    · first | ((intro W _; go_simp) <;> with_reducible rfl) | (intro W hW; obtain ⟨s1, s2⟩ := hW; (go_simp <;> with_reducible rfl))
    try simp only [Act.put, List.setIfInBounds_toArray, List.set_cons_zero, List.set_cons_succ]
    refine seqT_take (o := ⟨_, _, _, _, _, _⟩) (v := ?_) (by rw [HOP.out]; rfl) (by rfl) ?_ ?_
    rotate_left 1
    · first | ((intro W _; go_simp) <;> with_reducible rfl) | (intro W hW; obtain ⟨s1, s2⟩ := hW; (go_simp <;> with_reducible rfl))
    try simp only [Act.put, List.setIfInBounds_toArray, List.set_cons_zero, List.set_cons_succ]
    refine seqT_take (o := ⟨_, _, _, _, _, _⟩) (v := ?_) (by rw [HOP.out]; rfl) (by rfl) ?_ ?_
    rotate_left 1
    · first | ((intro W _; go_simp) <;> with_reducible rfl) | (intro W hW; obtain ⟨s1, s2⟩ := hW; (go_simp <;> with_reducible rfl))
    try simp only [Act.put, List.setIfInBounds_toArray, List.set_cons_zero, List.set_cons_succ]
    refine seqT_do (o := ⟨_, _, _, _, _, _⟩) (by rw [HOP.out]; rfl) (by rfl) (fun K hK => ?_)
    go_wp2_with fail
    refine hK.out _ _ (fun _ => ⟨c0a, c1a⟩) ?_
    clear hK K
    try simp only [Act.put, List.setIfInBounds_toArray, List.set_cons_zero, List.set_cons_succ]
    refine seqT_do (o := ⟨_, _, _, _, _, _⟩) (by rw [HOP.out]; rfl) (by rfl) (fun K hK => ?_)
    refine wp_appA hz HO.out (by omega) dst true .nilFunc rfl (.tmp 19) (.tmp 25) rfl rfl rfl ?_
    intro g c' w' hown' hg hloc
    obtain ⟨h1, h2, h3, h4⟩ := HS.out _ w' g c' (bAlloc (drB0 (Below.refl _ _)) _) hg hloc hown'
    have d0 := BoxIs.cell (j := 0) h4 rfl
    have d1 := HC1.out w' h3
    have df := HF1.out w' h3
    have H12 := Lib.hid (And.intro h1 h2)
    clear h1 h2 h3 h4 HS HO hown' hg hloc
    refine hK.out _ _ (fun _ => ⟨d0, d1⟩) ?_
    clear hK K
    try simp only [Act.put, List.setIfInBounds_toArray, List.set_cons_zero, List.set_cons_succ]
    refine seqT_take (o := ⟨_, _, _, _, _, _⟩) (v := ?_) (by rw [HOP.out]; rfl) (by rfl) ?_ ?_
    rotate_left 1
    · first | ((intro W _; go_simp) <;> with_reducible rfl) | (intro W hW; obtain ⟨s1, s2⟩ := hW; (go_simp <;> with_reducible rfl))
    try simp only [Act.put, List.setIfInBounds_toArray, List.set_cons_zero, List.set_cons_succ]
    refine seqT_do (o := ⟨_, _, _, _, _, _⟩) (by rw [HOP.out]; rfl) (by rfl) (fun K hK => ?_)
    go_wp2_with fail
    refine hK.out _ _ (fun h => absurd rfl h) ?_
    clear hK K
    try simp only [Act.put, List.setIfInBounds_toArray, List.set_cons_zero, List.set_cons_succ]
    refine seqT_done ?_
    clear HOP OPS
    go_wp2_with fail
    go_end0
    exact ⟨rfl, ⟨_, H12.out.1⟩, H12.out.2⟩
  | some t =>
    obtain ⟨F, k, vs, ty, rfl, _⟩ := hf
    clear hb0 hbel hbox hown hrows hdist hN hL hfs hrow hfo hov f1
    go_enter Tryz.func112, Tryz.ntmps112
    have c0a := (HA.out 128 #[.int .i64 dst, .bool false, .func (.func F) #[] #[.pointer (some ⟨k, 0, none⟩)]]).1
    have c1a := (HA.out 128 #[.int .i64 dst, .bool false, .func (.func F) #[] #[.pointer (some ⟨k, 0, none⟩)]]).2
    refine wp_region_seqT (fun W => W.cell? ⟨b, 0, none⟩ = some (.slice (some ⟨gb, 0, none⟩) N cap) ∧ W.cell? ⟨gb, q, none⟩ = some (.slice (ra q) l (rc q))) 20 [(0, true), (1, true), (2, true), (3, true), (4, true), (5, true), (6, true), (7, true), (8, true), (9, true), (10, true), (11, true), (12, true), (13, true), (14, true), (15, true), (16, true), (17, false), (18, false), (19, true), (20, false)] (by as_aux_lemma => kernel_rfl) (by as_aux_lemma => kernel_rfl) (by as_aux_lemma => kernel_rfl) (by decide) (by as_aux_lemma => kernel_rfl) (by decide) (⟨c0, c1⟩) ?_
    intro OPS HOP
    refine seqT_take (o := ⟨_, _, _, _, _, _⟩) (v := ?_) (by rw [HOP.out]; rfl) (by rfl) ?_ ?_
    rotate_left 1
    · first | ((intro W _; go_simp) <;> with_reducible rfl) | (intro W hW; obtain ⟨s1, s2⟩ := hW; (go_simp <;> with_reducible rfl))
    try simp only [Act.put, List.setIfInBounds_toArray, List.set_cons_zero, List.set_cons_succ]
    refine seqT_take (o := ⟨_, _, _, _, _, _⟩) (v := ?_) (by rw [HOP.out]; rfl) (by rfl) ?_ ?_
    rotate_left 1
    · first | ((intro W _; go_simp) <;> with_reducible rfl) | (intro W hW; obtain ⟨s1, s2⟩ := hW; (go_simp <;> with_reducible rfl))
    try simp only [Act.put, List.setIfInBounds_toArray, List.set_cons_zero, List.set_cons_succ]
    refine seqT_take (o := ⟨_, _, _, _, _, _⟩) (v := ?_) (by rw [HOP.out]; rfl) (by rfl) ?_ ?_
    rotate_left 1
    · first | ((intro W _; go_simp) <;> with_reducible rfl) | (intro W hW; obtain ⟨s1, s2⟩ := hW; (go_simp <;> with_reducible rfl))
    try simp only [Act.put, List.setIfInBounds_toArray, List.set_cons_zero, List.set_cons_succ]
    refine seqT_take (o := ⟨_, _, _, _, _, _⟩) (v := ?_) (by rw [HOP.out]; rfl) (by rfl) ?_ ?_
    rotate_left 1
    · first | ((intro W _; go_simp) <;> with_reducible rfl) | (intro W hW; obtain ⟨s1, s2⟩ := hW; (go_simp <;> with_reducible rfl))
    try simp only [Act.put, List.setIfInBounds_toArray, List.set_cons_zero, List.set_cons_succ]
    refine seqT_take (o := ⟨_, _, _, _, _, _⟩) (v := ?_) (by rw [HOP.out]; rfl) (by rfl) ?_ ?_
    rotate_left 1
    · first | ((intro W _; go_simp) <;> with_reducible rfl) | (intro W hW; obtain ⟨s1, s2⟩ := hW; (go_simp <;> with_reducible rfl))
    try simp only [Act.put, List.setIfInBounds_toArray, List.set_cons_zero, List.set_cons_succ]
    refine seqT_take (o := ⟨_, _, _, _, _, _⟩) (v := ?_) (by rw [HOP.out]; rfl) (by rfl) ?_ ?_
    rotate_left 1
    · first | ((intro W _; go_simp) <;> with_reducible rfl) | (intro W hW; obtain ⟨s1, s2⟩ := hW; (go_simp <;> with_reducible rfl))
    try simp only [Act.put, List.setIfInBounds_toArray, List.set_cons_zero, List.set_cons_succ]
    refine seqT_take (o := ⟨_, _, _, _, _, _⟩) (v := ?_) (by rw [HOP.out]; rfl) (by rfl) ?_ ?_
    rotate_left 1
    · first | ((intro W _; go_simp) <;> with_reducible rfl) | (intro W hW; obtain ⟨s1, s2⟩ := hW; (go_simp <;> with_reducible rfl))
    try simp only [Act.put, List.setIfInBounds_toArray, List.set_cons_zero, List.set_cons_succ]
    refine seqT_take (o := ⟨_, _, _, _, _, _⟩) (v := ?_) (by rw [HOP.out]; rfl) (by rfl) ?_ ?_
    rotate_left 1
    · first | ((intro W _; go_simp) <;> with_reducible rfl) | (intro W hW; obtain ⟨s1, s2⟩ := hW; (go_simp <;> with_reducible rfl))
    try simp only [Act.put, List.setIfInBounds_toArray, List.set_cons_zero, List.set_cons_succ]
    refine seqT_take (o := ⟨_, _, _, _, _, _⟩) (v := ?_) (by rw [HOP.out]; rfl) (by rfl) ?_ ?_
    rotate_left 1
    · first | ((intro W _; go_simp) <;> with_reducible rfl) | (intro W hW; obtain ⟨s1, s2⟩ := hW; (go_simp <;> with_reducible rfl))
    try simp only [Act.put, List.setIfInBounds_toArray, List.set_cons_zero, List.set_cons_succ]
    refine seqT_take (o := ⟨_, _, _, _, _, _⟩) (v := ?_) (by rw [HOP.out]; rfl) (by rfl) ?_ ?_
    rotate_left 1
    · first | ((intro W _; go_simp) <;> with_reducible rfl) | (intro W hW; obtain ⟨s1, s2⟩ := hW; (go_simp <;> with_reducible rfl))
    try simp only [Act.put, List.setIfInBounds_toArray, List.set_cons_zero, List.set_cons_succ]
    refine seqT_take (o := ⟨_, _, _, _, _, _⟩) (v := ?_) (by rw [HOP.out]; rfl) (by rfl) ?_ ?_
    rotate_left 1
    · first | ((intro W _; go_simp) <;> with_reducible rfl) | (intro W hW; obtain ⟨s1, s2⟩ := hW; (go_simp <;> with_reducible rfl))
    try simp only [Act.put, List.setIfInBounds_toArray, List.set_cons_zero, List.set_cons_succ]
    refine seqT_take (o := ⟨_, _, _, _, _, _⟩) (v := ?_) (by rw [HOP.out]; rfl) (by rfl) ?_ ?_
    rotate_left 1
    · first | ((intro W _; go_simp) <;> with_reducible rfl) | (intro W hW; obtain ⟨s1, s2⟩ := hW; (go_simp <;> with_reducible rfl))
    try simp only [Act.put, List.setIfInBounds_toArray, List.set_cons_zero, List.set_cons_succ]
    refine seqT_take (o := ⟨_, _, _, _, _, _⟩) (v := ?_) (by rw [HOP.out]; rfl) (by rfl) ?_ ?_
    rotate_left 1
    · first | ((intro W _; go_simp) <;> with_reducible rfl) | (intro W hW; obtain ⟨s1, s2⟩ := hW; (go_simp <;> with_reducible rfl))
    try simp only [Act.put, List.setIfInBounds_toArray, List.set_cons_zero, List.set_cons_succ]
    refine seqT_take (o := ⟨_, _, _, _, _, _⟩) (v := ?_) (by rw [HOP.out]; rfl) (by rfl) ?_ ?_
    rotate_left 1
    · first | ((intro W _; go_simp) <;> with_reducible rfl) | (intro W hW; obtain ⟨s1, s2⟩ := hW; (go_simp <;> with_reducible rfl))
    try simp only [Act.put, List.setIfInBounds_toArray, List.set_cons_zero, List.set_cons_succ]
    refine seqT_take (o := ⟨_, _, _, _, _, _⟩) (v := ?_) (by rw [HOP.out]; rfl) (by rfl) ?_ ?_
    rotate_left 1
    · first | ((intro W _; go_simp) <;> with_reducible rfl) | (intro W hW; obtain ⟨s1, s2⟩ := hW; (go_simp <;> with_reducible rfl))
    try simp only [Act.put, List.setIfInBounds_toArray, List.set_cons_zero, List.set_cons_succ]
    refine seqT_take (o := ⟨_, _, _, _, _, _⟩) (v := ?_) (by rw [HOP.out]; rfl) (by rfl) ?_ ?_
    rotate_left 1
    · first | ((intro W _; go_simp) <;> with_reducible rfl) | (intro W hW; obtain ⟨s1, s2⟩ := hW; (go_simp <;> with_reducible rfl))
    try simp only [Act.put, List.setIfInBounds_toArray, List.set_cons_zero, List.set_cons_succ]
    refine seqT_take (o := ⟨_, _, _, _, _, _⟩) (v := ?_) (by rw [HOP.out]; rfl) (by rfl) ?_ ?_
    rotate_left 1
    · first | ((intro W _; go_simp) <;> with_reducible rfl) | (intro W hW; obtain ⟨s1, s2⟩ := hW; (go_simp <;> with_reducible rfl))
    try simp only [Act.put, List.setIfInBounds_toArray, List.set_cons_zero, List.set_cons_succ]
    refine seqT_do (o := ⟨_, _, _, _, _, _⟩) (by rw [HOP.out]; rfl) (by rfl) (fun K hK => ?_)
    go_wp2_with fail
    refine hK.out _ _ (fun _ => ⟨c0a, c1a⟩) ?_
    clear hK K
    try simp only [Act.put, List.setIfInBounds_toArray, List.set_cons_zero, List.set_cons_succ]
    refine seqT_do (o := ⟨_, _, _, _, _, _⟩) (by rw [HOP.out]; rfl) (by rfl) (fun K hK => ?_)
    refine wp_appA hz HO.out (by omega) dst false (.func (.func F) #[] #[.pointer (some ⟨k, 0, none⟩)]) rfl (.tmp 19) (.tmp 25) rfl rfl rfl ?_
    intro g c' w' hown' hg hloc
    obtain ⟨h1, h2, h3, h4⟩ := HS.out _ w' g c' (bAlloc (drB0 (Below.refl _ _)) _) hg hloc hown'
    have d0 := BoxIs.cell (j := 0) h4 rfl
    have d1 := HC1.out w' h3
    have df := HF1.out w' h3
    have H12 := Lib.hid (And.intro h1 h2)
    clear h1 h2 h3 h4 HS HO hown' hg hloc
    refine hK.out _ _ (fun _ => ⟨d0, d1⟩) ?_
    clear hK K
    try simp only [Act.put, List.setIfInBounds_toArray, List.set_cons_zero, List.set_cons_succ]
    refine seqT_take (o := ⟨_, _, _, _, _, _⟩) (v := ?_) (by rw [HOP.out]; rfl) (by rfl) ?_ ?_
    rotate_left 1
    · first | ((intro W _; go_simp) <;> with_reducible rfl) | (intro W hW; obtain ⟨s1, s2⟩ := hW; (go_simp <;> with_reducible rfl))
    try simp only [Act.put, List.setIfInBounds_toArray, List.set_cons_zero, List.set_cons_succ]
    refine seqT_do (o := ⟨_, _, _, _, _, _⟩) (by rw [HOP.out]; rfl) (by rfl) (fun K hK => ?_)
    go_wp2_with fail
    refine hK.out _ _ (fun h => absurd rfl h) ?_
    clear hK K
    try simp only [Act.put, List.setIfInBounds_toArray, List.set_cons_zero, List.set_cons_succ]
    refine seqT_done ?_
    clear HOP OPS
    go_wp2_with fail
    go_end0
    exact ⟨rfl, ⟨_, H12.out.1⟩, H12.out.2⟩
end Go.Proofs.YtnpcbcnclncniaaGreatDoor
namespace Go.Proofs.YtnpcbcnclncniaaGreatDoor
open Go.RowKit

theorem enters_part1 : ∀ args w, (callFunc 113 args).run Tryz.prog w = .ok (.enter 113 args) w := enters_of Tryz.func113 (by kernel_rfl) rfl
theorem enters_part2 : ∀ args w, (callFunc 114 args).run Tryz.prog w = .ok (.enter 114 args) w := enters_of Tryz.func114 (by kernel_rfl) rfl
theorem enters_part3 : ∀ args w, (callFunc 116 args).run Tryz.prog w = .ok (.enter 116 args) w := enters_of Tryz.func116 (by kernel_rfl) rfl

theorem byte_beq (c x : UInt8) : ((c.toNat : Int) == (x.toNat : Int)) = (c == x) := by
  rw [Bool.eq_iff_iff]
  simp only [beq_iff_eq]
  constructor
  · intro h
    exact UInt8.toNat_inj.1 (by omega)
  · rintro rfl
    rfl

/-- The closure over a function of the net's parts. -/
abbrev clos (F : FuncId) (k : Nat) : Value := .func (.func F) #[] #[.pointer (some ⟨k, 0, none⟩)]

theorem notNet_byte : ¬ netTy 5 := by unfold netTy; decide
theorem notNet_part : ¬ netTy 92 := by unfold netTy; decide

set_option maxHeartbeats 1000000 in
theorem part1_ok {w0 wx : World} (x : UInt8) (k : Nat) (h0 : w0.heap.size ≤ k) (hk : BoxIs wx k #[.int .u8 x.toNat] 5) : FnOk wx.heap.size w0 wx (clos 113 k) (some (fun c => c == x)) := by
  refine ⟨113, k, _, _, rfl, notNet_byte, ⟨h0, hk.lt⟩, hk, enters_part1, fun W c _ hW => ?_⟩
  have c0 := BoxIs.cell (j := 0) hW rfl
  have HB := Lib.hid (byte_beq c x)
  clear hW hk
  go_enter Tryz.func113, Tryz.ntmps113
  go_wp2
  go_ret
  exact ⟨ret_bool (by rw [← HB.out]), Below.refl _ _⟩

set_option maxHeartbeats 1000000 in
theorem part2_ok {α : Type} {w0 wx : World} (p : PartOf α) (k : Nat) (h0 : w0.heap.size ≤ k) (hk : BoxIs wx k (partArr p) 92) (hs : SlHolds w0 2 rgCells p.rg) (hl : p.rg.xs.length ≤ 1048576) : FnOk wx.heap.size w0 wx (clos 114 k) (some (oneB p)) := by
  refine ⟨114, k, _, _, rfl, notNet_part, ⟨h0, hk.lt⟩, hk, enters_part2, fun W c hb hW => ?_⟩
  have HO := Lib.hid (oneByte_any p c W (hs.under hb) hl)
  have c0 := BoxIs.cell (j := 0) hW rfl
  have c1 := BoxIs.cell (j := 1) hW rfl
  have c2 := BoxIs.cell (j := 2) hW rfl
  have c3 := BoxIs.cell (j := 3) hW rfl
  have c4 := BoxIs.cell (j := 4) hW rfl
  clear hW hk hs
  generalize oneB p c = E at *
  go_enter Tryz.func114, Tryz.ntmps114
  go_wp2_with (go_at_call 115; refine HO.out.mono ?_; rintro e w2 ⟨rfl, hb2⟩)
  go_ret
  exact ⟨rfl, hb2⟩

set_option maxHeartbeats 1000000 in
theorem part3_ok {α : Type} {w0 wx : World} (p : PartOf α) (k : Nat) (h0 : w0.heap.size ≤ k) (hk : BoxIs wx k (partArr p) 92) : FnOk wx.heap.size w0 wx (clos 116 k) (some (fun c => c != 47 || p.kind == 4)) := by
  refine ⟨116, k, _, _, rfl, notNet_part, ⟨h0, hk.lt⟩, hk, enters_part3, fun W c hb hW => ?_⟩
  have c0 := BoxIs.cell (j := 0) hW rfl
  have hb47 : ((c.toNat : Int) != 47) = (c != 47) := by
    have := byte_beq c 47
    simp only [bne]
    rw [← this]
    rfl
  clear hW hk
  cases h : (c != 47)
  · rw [h] at hb47
    have HB : Hid ((c != 47 || p.kind == 4) = (p.kind == 4)) := Lib.hid (by rw [h]; rfl)
    clear h
    go_enter Tryz.func116, Tryz.ntmps116
    go_wp2_with fail
    go_ret
    exact ⟨ret_bool (by rw [HB.out]), Below.refl _ _⟩
  · rw [h] at hb47
    have HB : Hid ((c != 47 || p.kind == 4) = true) := Lib.hid (by rw [h]; rfl)
    clear h
    go_enter Tryz.func116, Tryz.ntmps116
    go_wp2_with fail
    go_ret
    exact ⟨ret_bool HB.out.symm, Below.refl _ _⟩
end Go.Proofs.YtnpcbcnclncniaaGreatDoor
namespace Go.Proofs.YtnpcbcnclncniaaGreatDoor
open Go.RowKit

theorem NetAt.under {w0 w w' : World} {b : Nat} {A : NetA} (h : NetAt w0 w b A) (hb : Below w.heap.size w w') : NetAt w0 w' b A := by
  obtain ⟨M, ga, cap, ra, rc, h0, hbel, hbox, hown, hrows, hd⟩ := h
  refine ⟨M, ga, cap, ra, rc, h0, bTrans hbel hb, ?_, own_move hown (fun x hx => ?_), fun q hq => (hrows q hq).move (fun x hx => ?_) (NetKept.below hb), hd⟩
  · rw [hb.block b (Array.getElem?_eq_some_iff.1 hbox).1]
    exact hbox
  · obtain ⟨cur, _, _, h3⟩ := own_ty hown hx
    exact hb.block _ (Array.getElem?_eq_some_iff.1 h3).1
  · obtain ⟨cur, _, _, h3⟩ := (hrows q hq).ty hx
    exact hb.block _ (Array.getElem?_eq_some_iff.1 h3).1
theorem NetAt.below {w0 w : World} {b : Nat} {A : NetA} (h : NetAt w0 w b A) : Below w0.heap.size w0 w := by
  obtain ⟨_, _, _, _, _, _, hbel, _⟩ := h
  exact hbel

/-- What a step of the building leaves. -/
def NetPost (w0 w : World) (b : Nat) (r : NetA × Nat) (e : Ending) (w' : World) : Prop := e = .returned (.int .i64 r.2) ∧ NetAt w0 w' b r.1 ∧ NetKept w w'
/-- The contract of names.net.part at a depth. -/
def PartOk (n : Nat) : Prop := ∀ (w0 w : World) (b : Nat) (A : NetA) (p : P (n + 1)) (q : Nat), NetAt w0 w b A → POk w0 (n + 1) p → Good (n + 1) [p] → q < A.length → WF A → mA A + 4 * sz (n + 1) p ≤ 100000000 ∧ sz (n + 1) p ≤ 1048576 →
  Calls Tryz.prog 87 #[.pointer (some ⟨b, 0, none⟩), partVal (pt n p), .int .i64 q] w (NetPost w0 w b (partN (fun t => listN n t.xs) (pt n p) A q))
/-- The contract of names.net.list at a depth. -/
def ListOk (n : Nat) : Prop := ∀ (w0 w : World) (b : Nat) (A : NetA) (s : Sl (P n)) (q : Nat), NetAt w0 w b A → SOk w0 n s → Good n s.xs → q < A.length → WF A → mA A + 4 * szL n s.xs ≤ 100000000 ∧ szL n s.xs ≤ 1048576 →
  Calls Tryz.prog 50 #[.pointer (some ⟨b, 0, none⟩), s.val, .int .i64 q] w (NetPost w0 w b (listN n s.xs A q))

theorem listN_snoc (n : Nat) (xs : List (P (n + 1))) (x : P (n + 1)) (A : NetA) (q : Nat) : listN (n + 1) (xs ++ [x]) A q = partN (fun t => listN n t.xs) (pt n x) (listN (n + 1) xs A q).1 (listN (n + 1) xs A q).2 := by
  unfold listN
  rw [List.foldl_append]
  rfl
theorem good_take {n : Nat} {xs : List (P (n + 1))} (h : Good (n + 1) xs) (k : Nat) : Good (n + 1) (xs.take k) := fun p hp => h p (List.mem_of_mem_take hp)
theorem listN_ext {n : Nat} {xs : List (P n)} (hg : Good n xs) {A : NetA} {q : Nat} (hq : q < A.length) (hw : WF A) : A.length ≤ (listN n xs A q).1.length := by
  obtain ⟨h1, _⟩ := listN_builds [] n xs hg A q hq hw
  exact h1.1
theorem listN_ok {n : Nat} {xs : List (P n)} (hg : Good n xs) {A : NetA} {q : Nat} (hq : q < A.length) (hw : WF A) : WF (listN n xs A q).1 ∧ (listN n xs A q).2 < (listN n xs A q).1.length := by
  obtain ⟨_, h2, h3, _⟩ := listN_builds [] n xs hg A q hq hw
  exact ⟨h2, h3⟩

set_option maxHeartbeats 2000000 in
set_option maxRecDepth 100000 in
theorem list_zero : ListOk 0 := by
  intro w0 w b A s q hN hS hg hq hw hm
  obtain ⟨a, c, xs⟩ := s
  obtain rfl : xs = [] := by cases xs with | nil => rfl | cons x _ => exact nomatch (x : Empty)
  show Calls Tryz.prog 50 #[.pointer (some ⟨b, 0, none⟩), .slice a 0 c, .int .i64 q] w _
  go_enter Tryz.func50, Tryz.ntmps50
  go_wp2_with fail
  go_loopg [2, 11] 0 (fun g s2 i wx => s2 = .int .i64 q ∧ i = .int .i64 0 ∧ wx = w)
  case atStart => exact ⟨rfl, rfl, rfl⟩
  case round =>
    obtain ⟨rfl, rfl, rfl⟩ := hrel
    go_wp2_with fail
    go_ret
    exact ⟨rfl, hN, NetKept.refl _⟩

set_option maxHeartbeats 4000000 in
set_option maxRecDepth 100000 in
theorem list_of_part {n : Nat} (hp : PartOk n) : ListOk (n + 1) := by
  intro w0 w b A s q hN hS hg hq hw hm
  obtain ⟨a, c, xs⟩ := s
  have HS := Lib.hid hS
  have HG := Lib.hid hg
  have HW := Lib.hid (And.intro hq hw)
  have HP := Lib.hid hp
  have HM := Lib.hid (show mA A + 4 * szL (n + 1) xs ≤ 100000000 ∧ szL (n + 1) xs ≤ 1048576 from hm)
  have HN0 := Lib.hid hN
  have hxl : xs.length ≤ 100000000 := by
    have := len_le_sz (n + 1) xs
    have h2 : mA A + 4 * szL (n + 1) xs ≤ 100000000 := hm.1
    omega
  clear hN hS hg hq hw hm hp
  dsimp only at HG
  show Calls Tryz.prog 50 #[.pointer (some ⟨b, 0, none⟩), .slice a xs.length c, .int .i64 q] w (NetPost w0 w b (listN (n + 1) xs A q))
  generalize hL : xs.length = L at *
  have HL := Lib.hid hL
  clear hL
  go_enter Tryz.func50, Tryz.ntmps50
  go_wp2_with fail
  go_loopg [2, 11] L (fun g s2 i wx => ∃ (k r : Nat), k + g = L ∧ i = .int .i64 k ∧ s2 = .int .i64 r ∧ Hid (r = (listN (n + 1) (xs.take k) A q).2 ∧ NetAt w0 wx b (listN (n + 1) (xs.take k) A q).1 ∧ NetKept w wx))
  case atStart => exact ⟨0, q, by omega, rfl, rfl, Lib.hid ⟨rfl, HN0.out, NetKept.refl _⟩⟩
  case round =>
    obtain ⟨k, r, hk, rfl, rfl, HN⟩ := hrel
    by_cases hlt : k < L
    · obtain ⟨g, rfl⟩ : ∃ g, gk = g + 1 := ⟨gk - 1, by omega⟩
      obtain ⟨p, hx⟩ : ∃ p : P (n + 1), xs[k]? = some p := ⟨_, List.getElem?_eq_getElem (by rw [HL.out]; exact hlt)⟩
      have hbel := HN.out.2.1.below
      obtain ⟨ba, off, ha, hba, r0, r1, r2, r3, r4⟩ := partRow (s := ⟨a, c, xs⟩) (HS.out.1.under hbel) (p := pt n p) hx
      have ha' : a = some ⟨ba, off, none⟩ := ha
      subst ha'
      have hltI : (k : Int) < (L : Int) := by omega
      have hk0 : (0 : Int) ≤ (k : Int) := by omega
      have hmem := List.mem_of_getElem? hx
      have hsn : xs.take (k + 1) = xs.take k ++ [p] := by rw [List.take_add_one, hx]; rfl
      have hok := listN_ok (good_take HG.out k) HW.out.1 HW.out.2
      have hmk := mA_list (n + 1) (xs.take k) A q
      have hsz : szL (n + 1) (xs.take k) + sz (n + 1) p ≤ szL (n + 1) xs := by
        have h1 : szL (n + 1) (xs.take (k + 1)) ≤ szL (n + 1) xs := sum_take_le _ _ _
        rw [hsn] at h1
        unfold szL at h1 ⊢
        rw [List.map_append, List.sum_append] at h1
        simpa using h1
      have HC := Lib.hid (fun W (hb : Below wr.heap.size wr W) => HP.out w0 W b (listN (n + 1) (xs.take k) A q).1 p (listN (n + 1) (xs.take k) A q).2 (HN.out.2.1.under hb) (HS.out.2 p hmem) (fun x hxm => by rw [List.mem_singleton.1 hxm]; exact HG.out p hmem) hok.2 hok.1 (by have := HM.out; exact ⟨by omega, by omega⟩))
      rw [← listN_snoc, ← hsn] at HC
      rw [← HN.out.1] at HC
      have HK := Lib.hid HN.out.2.2
      clear hx ha hmem hsn hok hmk hsz HN hbel
      have hb5 : Below wr.heap.size wr (wr.alloc (.cells (partArr (pt n p)) 92)) := bAlloc (Below.refl _ _) _
      have HB5 := Lib.hid (BoxIs.new wr (partArr (pt n p)) 92)
      have HC5 := Lib.hid (HC.out _ hb5)
      generalize pt n p = u at *
      go_upto_region 4 with fail
      unfold partArr at *
      clear r0 r1 r2 r3 r4
      generalize wr.alloc _ = w5 at *
      have p0 := BoxIs.cell (j := 0) HB5.out rfl
      have p1 := BoxIs.cell (j := 1) HB5.out rfl
      have p2 := BoxIs.cell (j := 2) HB5.out rfl
      have p3 := BoxIs.cell (j := 3) HB5.out rfl
      have p4 := BoxIs.cell (j := 4) HB5.out rfl
      generalize hX0 : listN (n + 1) (xs.take (k + 1)) A q = X at *
      have hX := Lib.hid hX0.symm
      clear hX0
      go_wp2_with (go_at_call 87; refine HC5.out.mono ?_; rintro e w6 ⟨rfl, hN6, hK6⟩)
      go_roundg g
      case measure => omega
      case rel => exact ⟨k + 1, X.2, by omega, by go_num, rfl, Lib.hid ⟨hX.out ▸ rfl, hX.out ▸ hN6, HK.out.trans ((NetKept.below hb5).trans hK6)⟩⟩
    · have hltF : ¬ (k : Int) < (L : Int) := by omega
      have hF : Hid (r = (listN (n + 1) xs A q).2 ∧ NetAt w0 wr b (listN (n + 1) xs A q).1 ∧ NetKept w wr) := Lib.hid (by
        have := HN.out
        rw [List.take_of_length_le (by rw [HL.out]; omega)] at this
        exact this)
      clear HN
      go_wp2_with fail
      go_ret
      exact ⟨ret_int (by rw [hF.out.1]), hF.out.2.1, hF.out.2.2⟩
end Go.Proofs.YtnpcbcnclncniaaGreatDoor
namespace Go.Proofs.YtnpcbcnclncniaaGreatDoor
open Go.RowKit

/-- What holds whatever has come up. -/
def TxtInv {α : Type} (w0 wr : World) (b bx qk k : Nat) (u : PartOf α) (ch : UInt8) (A : NetA) (u32 u33 u34 u35 u36 u37 u38 : Value) (L : Nat → Prop) (a' : Act) (W : World) : Prop :=
  ∃ v8 v9 v26 v27 v28 v29 v30 v31, a' = ⟨#[.pointer (some ⟨b, 0, none⟩), partVal u, .int .i64 qk, undef, .pointer (some ⟨bx, 0, none⟩), undef, .int .i64 0, .int .i64 k, v8, v9, undef, undef, undef, undef, undef, undef, .pointer (some ⟨bx, 0, none⟩), .int .i64 u.kind, .bool true, .bool true, .pointer (some ⟨bx, 1, none⟩), .string u.text, .int .i64 u.text.size, .int .i64 k, .bool true, .int .i64 k, v26, v27, v28, v29, v30, v31, u32, u33, u34, u35, u36, u37, u38, undef, undef, undef, undef, undef, undef, undef, undef, undef, undef, undef, undef, undef, undef, undef, undef, undef, undef, undef, undef, undef, undef, undef, undef, undef, undef, undef, undef, undef, undef, undef, undef, undef, undef, undef, undef, undef, undef, undef, undef, undef, undef, undef, undef, undef, undef, undef, undef, undef, undef, undef], []⟩ ∧ NetKept wr W ∧ wr.heap.size ≤ W.heap.size ∧ (L 7 → L 6) ∧
    (L 0 → v26 = .pointer (some ⟨bx, 1, none⟩)) ∧ (L 1 → v27 = .string u.text) ∧ (L 2 → v28 = .int .i64 k) ∧ (L 3 → v29 = .int .u8 ch.toNat) ∧ (L 4 → v30 = .pointer (some ⟨b, 0, none⟩)) ∧
    (L 5 → v31 = .int .i64 A.length ∧ NetAtM wr.heap.size w0 W b (addS A)) ∧ (¬ L 5 → NetAtM wr.heap.size w0 W b A) ∧
    (L 6 → ∃ (kb : Nat) (c : UInt8), v8 = .pointer (some ⟨kb, 0, none⟩) ∧ wr.heap.size ≤ kb ∧ BoxIs W kb #[.int .u8 c.toNat] 5) ∧ (L 7 → ∃ kb : Nat, v8 = .pointer (some ⟨kb, 0, none⟩) ∧ wr.heap.size ≤ kb ∧ BoxIs W kb #[.int .u8 ch.toNat] 5) ∧ (L 8 → v9 = .int .i64 A.length)

theorem box_lt {w : World} {b : Nat} {vs : Array Value} {t : TypeId} (h : BoxIs w b vs t) : b < w.heap.size := h.lt
/-- A byte laid into a box that no function has captured. -/
theorem NetAtM.byte {M : Nat} {w0 w : World} {b kb : Nat} {A : NetA} {c x : UInt8} (h : NetAtM M w0 w b A) (h0 : w0.heap.size ≤ M) (hM : M ≤ kb) (hb : BoxIs w kb #[.int .u8 c.toNat] 5) : NetAtM M w0 (w.setCell ⟨kb, 0, none⟩ (.int .u8 x.toNat)) b A := by
  have hbel : Below w0.heap.size w0 w := by
    obtain ⟨_, _, _, _, _, hb, _⟩ := h
    exact hb
  refine h.moveM (Below.setCell hbel (p := ⟨kb, 0, none⟩) (Nat.le_trans h0 hM) _) (fun k vs ty fr hk ht => ?_) (fun k hk => ?_)
  · rw [Below.heap_setCell _ _ _ _ (fun e => ?_)]
    · exact hk
    · have e2 : k = kb := e
      subst e2
      rw [show w.heap[k]? = _ from hb] at hk
      injection hk with hk
      injection hk with _ h2 _
      exact notNet_byte (h2 ▸ ht)
  · exact Below.heap_setCell _ _ _ _ (fun e => by
      have e2 : k = kb := e
      omega)
theorem netKept_byte {wr w : World} {kb : Nat} {v : Value} (h : NetKept wr w) (hk : wr.heap.size ≤ kb) : NetKept wr (w.setCell ⟨kb, 0, none⟩ v) := fun k vs ty fr h1 h2 => by
  rw [Below.heap_setCell _ _ _ _ (fun e => ?_)]
  · exact h k vs ty fr h1 h2
  · have e2 : k = kb := e
    have := (Array.getElem?_eq_some_iff.1 h1).1
    omega

theorem NetAtM.under {M : Nat} {w0 w w' : World} {b : Nat} {A : NetA} (h : NetAtM M w0 w b A) (hb : Below w.heap.size w w') (hM : M ≤ w.heap.size := by assumption) : NetAtM M w0 w' b A := by
  have hbel : Below w0.heap.size w0 w := by
    obtain ⟨_, _, _, _, _, hb, _⟩ := h
    exact hb
  refine h.moveM (bTrans hbel hb) (fun k vs ty fr hk _ => ?_) (fun k hk => hb.block k (Nat.lt_of_lt_of_le hk hM))
  rw [hb.block k (Array.getElem?_eq_some_iff.1 hk).1]
  exact hk
theorem NetKept.box {w w' : World} {k : Nat} {vs : Array Value} {t : TypeId} (h : NetKept w w') (hb : BoxIs w k vs t) (ht : ¬ netTy t) : BoxIs w' k vs t := h k vs t _ hb ht

theorem TxtInv.begun {α : Type} {w0 wr : World} {b bx qk k : Nat} {u : PartOf α} {ch : UInt8} {A : NetA} {v8 v9 v26 v27 v28 v29 v30 v31 u32 u33 u34 u35 u36 u37 u38 : Value} (h : NetAtM wr.heap.size w0 wr.drew b A) : TxtInv w0 wr b bx qk k u ch A u32 u33 u34 u35 u36 u37 u38 (fun _ => False) ⟨#[.pointer (some ⟨b, 0, none⟩), partVal u, .int .i64 qk, undef, .pointer (some ⟨bx, 0, none⟩), undef, .int .i64 0, .int .i64 k, v8, v9, undef, undef, undef, undef, undef, undef, .pointer (some ⟨bx, 0, none⟩), .int .i64 u.kind, .bool true, .bool true, .pointer (some ⟨bx, 1, none⟩), .string u.text, .int .i64 u.text.size, .int .i64 k, .bool true, .int .i64 k, v26, v27, v28, v29, v30, v31, u32, u33, u34, u35, u36, u37, u38, undef, undef, undef, undef, undef, undef, undef, undef, undef, undef, undef, undef, undef, undef, undef, undef, undef, undef, undef, undef, undef, undef, undef, undef, undef, undef, undef, undef, undef, undef, undef, undef, undef, undef, undef, undef, undef, undef, undef, undef, undef, undef, undef, undef, undef, undef, undef, undef, undef, undef, undef], []⟩ wr.drew :=
  ⟨_, _, _, _, _, _, _, _, rfl, fun _ _ _ _ h _ => h, Nat.le_refl _, fun h => h.elim, fun h => h.elim, fun h => h.elim, fun h => h.elim, fun h => h.elim, fun h => h.elim, fun h => h.elim, fun _ => h, fun h => h.elim, fun h => h.elim, fun h => h.elim⟩

end Go.Proofs.YtnpcbcnclncniaaGreatDoor
namespace Go.Proofs.YtnpcbcnclncniaaGreatDoor
open Go.RowKit

/-- What is so behind some of the ways. -/
structure WaysAt (n : Nat) (w0 w1 wx : World) (b q e k : Nat) (ws : List (Sl (P n))) (A1 Ak : NetA) : Prop where
  same : waysN (fun t => listN n t.xs) ws e q A1 = waysN (fun t => listN n t.xs) (ws.drop k) e q Ak
  net : NetAt w0 wx b Ak
  kept : NetKept w1 wx
  wf : WF Ak
  q : q < Ak.length
  e : e < Ak.length
  m : mA Ak + 4 * ((ws.drop k).map (fun s => 1 + szL n s.xs)).sum ≤ 100000000
  s : ((ws.drop k).map (fun s => 1 + szL n s.xs)).sum ≤ 1048576

theorem ways_len {α : Type} : ∀ (ws : List α) (f : α → Nat), ws.length ≤ (ws.map (fun s => 1 + f s)).sum
  | [], _ => Nat.le_refl _
  | x :: ws, f => by
    have := ways_len ws f
    rw [List.map_cons, List.sum_cons, List.length_cons]
    omega

set_option maxHeartbeats 8000000 in
set_option maxRecDepth 100000 in
theorem part_of_list {n : Nat} (hl : ListOk n) : PartOk n := by
  intro w0 w b A p q hN hp hg hq hw hm
  have hgp := hg p (by simp)
  change (1 ≤ (pt n p).kind ∧ (pt n p).kind ≤ 6) ∧ _ ∧ _ ∧ _ at hgp
  obtain ⟨⟨hk1, hk6⟩, _, _, hgw⟩ := hgp
  change _ ∧ SlHolds w0 2 rgCells (pt n p).rg ∧ _ ∧ SlHolds w0 1 (fun s : Sl (P n) => [s.val]) (pt n p).ways ∧ (∀ s ∈ (pt n p).ways.xs, SlHolds w0 5 (partCells n) s ∧ ∀ q ∈ s.xs, POk w0 n q) at hp
  obtain ⟨hpt, hrg, _, hws, hwo⟩ := hp
  have hsz : sz (n + 1) p = 1 + (pt n p).text.size + (pt n p).rg.xs.length + ((pt n p).ways.xs.map (fun s => 1 + (s.xs.map (sz n)).sum)).sum := rfl
  rw [hsz] at hm
  obtain ⟨hm1, hm2⟩ := hm
  generalize pt n p = u at *
  have hb1 : Below w.heap.size w (w.alloc (.cells (partArr u) 92)) := bAlloc (Below.refl _ _) _
  have HB := Lib.hid (BoxIs.new w (partArr u) 92)
  have HN := Lib.hid (hN.under hb1)
  have HNk : Hid (NetKept w (w.alloc (.cells (partArr u) 92))) := Lib.hid (NetKept.below hb1)
  have h0 : w0.heap.size ≤ w.heap.size := hN.below.size
  have hrl : u.rg.xs.length ≤ 1048576 := by omega
  have HRg := Lib.hid hrg
  have HW := Lib.hid (And.intro hq hw)
  have hlA := mA_len A
  have hAl : A.length ≤ 99999996 := by omega
  have hrq := mA_row A q
  have hAl2 : mA A ≤ 99999996 := by omega
  have e0 := BoxIs.cell (j := 0) HB.out rfl
  have e1 := BoxIs.cell (j := 1) HB.out rfl
  have e4 := BoxIs.cell (j := 4) HB.out rfl
  clear hN hrg
  unfold partN
  unfold partArr at *
  generalize hbx : w.heap.size = bx at *
  have HBx := Lib.hid hbx
  clear hbx
  by_cases t1 : u.kind = 1
  · rw [if_pos t1]
    have n1 : (u.kind == 1) = true := by simp [t1]
    have HWf := Lib.hid (And.intro hq hw)
    have HM := Lib.hid (And.intro hm1 hm2)
    clear t1 hws hwo hgw hl hg hsz hm1 hm2 hrl hrq
    go_enter Tryz.func87, Tryz.ntmps87
    go_upto_region 1 with fail
    rw [HBx.out]
    generalize w.alloc _ = w1 at *
    go_wp2_with fail
    go_loopg [2, 23] u.text.size (fun g s2 s23 wx => ∃ (k qk : Nat) (Ak : NetA), k + g = u.text.size ∧ s23 = .int .i64 k ∧ s2 = .int .i64 qk ∧ Hid (textN u.text.data.toList A q = textN (u.text.data.toList.drop k) Ak qk ∧ NetAt w0 wx b Ak ∧ NetKept w1 wx ∧ WF Ak ∧ qk < Ak.length ∧ mA Ak + 4 * (u.text.size - k) ≤ 99999996))
    case atStart => exact ⟨0, q, A, by omega, rfl, rfl, Lib.hid ⟨rfl, HN.out, NetKept.refl _, HWf.out.2, HWf.out.1, by have := HM.out.1; omega⟩⟩
    case round =>
      obtain ⟨k, qk, Ak, hk, rfl, rfl, HK⟩ := hrel
      by_cases hlt : k < u.text.size
      · have hltI : (k : Int) < (u.text.size : Int) := by omega
        obtain ⟨g, rfl⟩ : ∃ g, gk = g + 1 := ⟨gk - 1, by omega⟩
        obtain ⟨ch, hch⟩ : ∃ ch : UInt8, u.text[k]'hlt = ch := ⟨_, rfl⟩
        have HBr := Lib.hid (HK.out.2.2.1.box HB.out notNet_part)
        have H0 := Lib.hid HK.out.2.1.below.size
        have hAk : Ak.length ≤ 100000000 := by
          have h1 := mA_len Ak
          have h2 := HK.out.2.2.2.2.2
          omega
        have HNm : Hid (NetAtM wr.heap.size w0 wr.drew b Ak) := Lib.hid (by
          obtain ⟨M, h⟩ := HK.out.2.1
          exact h.bound.moveM (drB0 HK.out.2.1.below) (fun _ _ _ _ h _ => h) (fun _ _ => rfl))
        have hltN := hlt
        go_upto_region 6 with fail
        go_cut [2, 7, 8, 9, 23] from 23 to 38 (fun s2 s7 s8 s9 s23 wx => s2 = .int .i64 qk ∧ s7 = .int .i64 k ∧ s23 = .int .i64 k ∧ s9 = .int .i64 Ak.length ∧ ∃ kb : Nat, s8 = .pointer (some ⟨kb, 0, none⟩) ∧ Hid (NetAt w0 wx b (addS Ak) ∧ NetKept wr wx ∧ wr.heap.size ≤ kb ∧ BoxIs wx kb #[.int .u8 ch.toNat] 5))
        case first =>
          refine wp_region_inv2 (TxtInv w0 wr b bx qk k u ch Ak u32 u33 u34 u35 u36 u37 u38) (by as_aux_lemma => kernel_rfl) (by as_aux_lemma => kernel_rfl) (TxtInv.begun HNm.out) ?_ ?_
          · intro i o ho L a' W hI hn hd K hK
            rcases i with _ | _ | _ | _ | _ | _ | _ | _ | _ | i
            · obtain rfl : o = ⟨_, _, _, _, _, _⟩ := (Option.some.inj ho).symm
              obtain ⟨v8, v9, v26, v27, v28, v29, v30, v31, rfl, qk, qs, qp, q0, q1, q2, q3, q4, q5, qn, q6, q7, q8⟩ := hI
              rw [if_pos (by rfl)]
              have QK := Lib.hid qk
              have QS := Lib.hid qs
              have QP := Lib.hid qp
              have Q0 := Lib.hid q0
              have Q1 := Lib.hid q1
              have Q2 := Lib.hid q2
              have Q3 := Lib.hid q3
              have Q4 := Lib.hid q4
              have Q5 := Lib.hid q5
              have QN := Lib.hid qn
              have Q6 := Lib.hid q6
              have Q7 := Lib.hid q7
              have Q8 := Lib.hid q8
              clear qk qs qp q0 q1 q2 q3 q4 q5 qn q6 q7 q8 hd hn
              go_wp2_with fail
              exact hK.out _ _ ⟨_, _, _, _, _, _, _, _, rfl, QK.out, QS.out, fun h => .inr (QP.out (h.resolve_left (by decide))), fun _ => rfl, fun h => Q1.out (h.resolve_left (by decide)), fun h => Q2.out (h.resolve_left (by decide)), fun h => Q3.out (h.resolve_left (by decide)), fun h => Q4.out (h.resolve_left (by decide)), fun h => Q5.out (h.resolve_left (by decide)), fun h => QN.out (fun h5 => h (.inr h5)), fun h => Q6.out (h.resolve_left (by decide)), fun h => Q7.out (h.resolve_left (by decide)), fun h => Q8.out (h.resolve_left (by decide))⟩
            · obtain rfl : o = ⟨_, _, _, _, _, _⟩ := (Option.some.inj ho).symm
              obtain ⟨v8, v9, v26, v27, v28, v29, v30, v31, rfl, qk, qs, qp, q0, q1, q2, q3, q4, q5, qn, q6, q7, q8⟩ := hI
              simp [Region.binds] at hd
              obtain rfl := q0 hd
              have cbx := BoxIs.cell (j := 1) (qk.box HBr.out notNet_part) rfl
              rw [if_pos (by rfl)]
              have QK := Lib.hid qk
              have QS := Lib.hid qs
              have QP := Lib.hid qp
              have Q0 := Lib.hid q0
              have Q1 := Lib.hid q1
              have Q2 := Lib.hid q2
              have Q3 := Lib.hid q3
              have Q4 := Lib.hid q4
              have Q5 := Lib.hid q5
              have QN := Lib.hid qn
              have Q6 := Lib.hid q6
              have Q7 := Lib.hid q7
              have Q8 := Lib.hid q8
              clear qk qs qp q0 q1 q2 q3 q4 q5 qn q6 q7 q8 hd hn
              go_wp2_with fail
              exact hK.out _ _ ⟨_, _, _, _, _, _, _, _, rfl, QK.out, QS.out, fun h => .inr (QP.out (h.resolve_left (by decide))), fun _ => rfl, fun _ => rfl, fun h => Q2.out (h.resolve_left (by decide)), fun h => Q3.out (h.resolve_left (by decide)), fun h => Q4.out (h.resolve_left (by decide)), fun h => Q5.out (h.resolve_left (by decide)), fun h => QN.out (fun h5 => h (.inr h5)), fun h => Q6.out (h.resolve_left (by decide)), fun h => Q7.out (h.resolve_left (by decide)), fun h => Q8.out (h.resolve_left (by decide))⟩
            · obtain rfl : o = ⟨_, _, _, _, _, _⟩ := (Option.some.inj ho).symm
              obtain ⟨v8, v9, v26, v27, v28, v29, v30, v31, rfl, qk, qs, qp, q0, q1, q2, q3, q4, q5, qn, q6, q7, q8⟩ := hI
              rw [if_pos (by rfl)]
              have QK := Lib.hid qk
              have QS := Lib.hid qs
              have QP := Lib.hid qp
              have Q0 := Lib.hid q0
              have Q1 := Lib.hid q1
              have Q2 := Lib.hid q2
              have Q3 := Lib.hid q3
              have Q4 := Lib.hid q4
              have Q5 := Lib.hid q5
              have QN := Lib.hid qn
              have Q6 := Lib.hid q6
              have Q7 := Lib.hid q7
              have Q8 := Lib.hid q8
              clear qk qs qp q0 q1 q2 q3 q4 q5 qn q6 q7 q8 hd hn
              go_wp2_with fail
              exact hK.out _ _ ⟨_, _, _, _, _, _, _, _, rfl, QK.out, QS.out, fun h => .inr (QP.out (h.resolve_left (by decide))), fun h => Q0.out (h.resolve_left (by decide)), fun h => Q1.out (h.resolve_left (by decide)), fun _ => rfl, fun h => Q3.out (h.resolve_left (by decide)), fun h => Q4.out (h.resolve_left (by decide)), fun h => Q5.out (h.resolve_left (by decide)), fun h => QN.out (fun h5 => h (.inr h5)), fun h => Q6.out (h.resolve_left (by decide)), fun h => Q7.out (h.resolve_left (by decide)), fun h => Q8.out (h.resolve_left (by decide))⟩
            · obtain rfl : o = ⟨_, _, _, _, _, _⟩ := (Option.some.inj ho).symm
              obtain ⟨v8, v9, v26, v27, v28, v29, v30, v31, rfl, qk, qs, qp, q0, q1, q2, q3, q4, q5, qn, q6, q7, q8⟩ := hI
              simp [Region.binds] at hd
              obtain rfl := q1 hd.1
              obtain rfl := q2 hd.2
              rw [if_pos (by rfl)]
              have QK := Lib.hid qk
              have QS := Lib.hid qs
              have QP := Lib.hid qp
              have Q0 := Lib.hid q0
              have Q1 := Lib.hid q1
              have Q2 := Lib.hid q2
              have Q3 := Lib.hid q3
              have Q4 := Lib.hid q4
              have Q5 := Lib.hid q5
              have QN := Lib.hid qn
              have Q6 := Lib.hid q6
              have Q7 := Lib.hid q7
              have Q8 := Lib.hid q8
              clear qk qs qp q0 q1 q2 q3 q4 q5 qn q6 q7 q8 hd hn
              go_wp2_with fail
              exact hK.out _ _ ⟨_, _, _, _, _, _, _, _, rfl, QK.out, QS.out, fun h => .inr (QP.out (h.resolve_left (by decide))), fun h => Q0.out (h.resolve_left (by decide)), fun _ => rfl, fun _ => rfl, fun _ => rfl, fun h => Q4.out (h.resolve_left (by decide)), fun h => Q5.out (h.resolve_left (by decide)), fun h => QN.out (fun h5 => h (.inr h5)), fun h => Q6.out (h.resolve_left (by decide)), fun h => Q7.out (h.resolve_left (by decide)), fun h => Q8.out (h.resolve_left (by decide))⟩
            · obtain rfl : o = ⟨_, _, _, _, _, _⟩ := (Option.some.inj ho).symm
              obtain ⟨v8, v9, v26, v27, v28, v29, v30, v31, rfl, qk, qs, qp, q0, q1, q2, q3, q4, q5, qn, q6, q7, q8⟩ := hI
              rw [if_pos (by rfl)]
              have QK := Lib.hid qk
              have QS := Lib.hid qs
              have QP := Lib.hid qp
              have Q0 := Lib.hid q0
              have Q1 := Lib.hid q1
              have Q2 := Lib.hid q2
              have Q3 := Lib.hid q3
              have Q4 := Lib.hid q4
              have Q5 := Lib.hid q5
              have QN := Lib.hid qn
              have Q6 := Lib.hid q6
              have Q7 := Lib.hid q7
              have Q8 := Lib.hid q8
              clear qk qs qp q0 q1 q2 q3 q4 q5 qn q6 q7 q8 hd hn
              go_wp2_with fail
              exact hK.out _ _ ⟨_, _, _, _, _, _, _, _, rfl, QK.out, QS.out, fun h => .inr (QP.out (h.resolve_left (by decide))), fun h => Q0.out (h.resolve_left (by decide)), fun h => Q1.out (h.resolve_left (by decide)), fun h => Q2.out (h.resolve_left (by decide)), fun h => Q3.out (h.resolve_left (by decide)), fun _ => rfl, fun h => Q5.out (h.resolve_left (by decide)), fun h => QN.out (fun h5 => h (.inr h5)), fun h => Q6.out (h.resolve_left (by decide)), fun h => Q7.out (h.resolve_left (by decide)), fun h => Q8.out (h.resolve_left (by decide))⟩
            · obtain rfl : o = ⟨_, _, _, _, _, _⟩ := (Option.some.inj ho).symm
              obtain ⟨v8, v9, v26, v27, v28, v29, v30, v31, rfl, qk, qs, qp, q0, q1, q2, q3, q4, q5, qn, q6, q7, q8⟩ := hI
              simp [Region.binds] at hd
              obtain rfl := q4 hd
              have HNow := Lib.hid (qn hn)
              rw [if_pos (by rfl)]
              have QK := Lib.hid qk
              have QS := Lib.hid qs
              have QP := Lib.hid qp
              have Q0 := Lib.hid q0
              have Q1 := Lib.hid q1
              have Q2 := Lib.hid q2
              have Q3 := Lib.hid q3
              have Q4 := Lib.hid q4
              have Q5 := Lib.hid q5
              have QN := Lib.hid qn
              have Q6 := Lib.hid q6
              have Q7 := Lib.hid q7
              have Q8 := Lib.hid q8
              clear qk qs qp q0 q1 q2 q3 q4 q5 qn q6 q7 q8 hd hn
              go_wp2_with (go_at_call 49; refine (state_anyM _ HNow.out hAk).mono ?_; rintro e W2 ⟨rfl, hN2, hK2, hs2⟩)
              have HN2 := Lib.hid hN2
              have HK2 := Lib.hid hK2
              clear hN2 hK2
              exact hK.out _ _ ⟨_, _, _, _, _, _, _, _, rfl, QK.out.trans HK2.out, Nat.le_trans QS.out hs2, fun h => .inr (QP.out (h.resolve_left (by decide))), fun h => Q0.out (h.resolve_left (by decide)), fun h => Q1.out (h.resolve_left (by decide)), fun h => Q2.out (h.resolve_left (by decide)), fun h => Q3.out (h.resolve_left (by decide)), fun _ => rfl, fun _ => ⟨rfl, HN2.out⟩, fun h => absurd (.inl rfl) h, fun h => (by obtain ⟨kb, c, e1, e2, e3⟩ := Q6.out (h.resolve_left (by decide)); exact ⟨kb, c, e1, e2, HK2.out.box e3 notNet_byte⟩), fun h => (by obtain ⟨kb, e1, e2, e3⟩ := Q7.out (h.resolve_left (by decide)); exact ⟨kb, e1, e2, HK2.out.box e3 notNet_byte⟩), fun h => Q8.out (h.resolve_left (by decide))⟩
            · obtain rfl : o = ⟨_, _, _, _, _, _⟩ := (Option.some.inj ho).symm
              obtain ⟨v8, v9, v26, v27, v28, v29, v30, v31, rfl, qk, qs, qp, q0, q1, q2, q3, q4, q5, qn, q6, q7, q8⟩ := hI
              have hn6 := Lib.hid hn
              rw [if_pos (by rfl)]
              have QK := Lib.hid qk
              have QS := Lib.hid qs
              have QP := Lib.hid qp
              have Q0 := Lib.hid q0
              have Q1 := Lib.hid q1
              have Q2 := Lib.hid q2
              have Q3 := Lib.hid q3
              have Q4 := Lib.hid q4
              have Q5 := Lib.hid q5
              have QN := Lib.hid qn
              have Q6 := Lib.hid q6
              have Q7 := Lib.hid q7
              have Q8 := Lib.hid q8
              clear qk qs qp q0 q1 q2 q3 q4 q5 qn q6 q7 q8 hd hn
              go_wp2_with fail
              exact hK.out _ _ ⟨_, _, _, _, _, _, _, _, rfl, QK.out.trans (NetKept.below (bAlloc (Below.refl _ _) _)), Nat.le_trans QS.out (by simp), fun _ => .inl rfl, fun h => Q0.out (h.resolve_left (by decide)), fun h => Q1.out (h.resolve_left (by decide)), fun h => Q2.out (h.resolve_left (by decide)), fun h => Q3.out (h.resolve_left (by decide)), fun h => Q4.out (h.resolve_left (by decide)), fun h => ⟨(Q5.out (h.resolve_left (by decide))).1, (Q5.out (h.resolve_left (by decide))).2.under (bAlloc (Below.refl _ _) _) QS.out⟩, fun h => (QN.out (fun h5 => h (.inr h5))).under (bAlloc (Below.refl _ _) _) QS.out, fun _ => ⟨_, 0, rfl, QS.out, BoxIs.new _ _ _⟩, fun h => absurd (QP.out (h.resolve_left (by decide))) hn6.out, fun h => Q8.out (h.resolve_left (by decide))⟩
            · obtain rfl : o = ⟨_, _, _, _, _, _⟩ := (Option.some.inj ho).symm
              obtain ⟨v8, v9, v26, v27, v28, v29, v30, v31, rfl, qk, qs, qp, q0, q1, q2, q3, q4, q5, qn, q6, q7, q8⟩ := hI
              simp [Region.binds] at hd
              have D6 := Lib.hid hd.1
              have D5 := Lib.hid hd.2.2.1
              obtain rfl := q3 hd.2.1
              obtain ⟨kb, c, rfl, hkb, hbox⟩ := q6 hd.1
              have cbx := BoxIs.cell (j := 0) hbox rfl
              have fbx := Lib.frozen_of_heap hbox 0
              have HBk := Lib.hid hbox
              clear hbox
              rw [if_pos (by rfl)]
              have QK := Lib.hid qk
              have QS := Lib.hid qs
              have QP := Lib.hid qp
              have Q0 := Lib.hid q0
              have Q1 := Lib.hid q1
              have Q2 := Lib.hid q2
              have Q3 := Lib.hid q3
              have Q4 := Lib.hid q4
              have Q5 := Lib.hid q5
              have QN := Lib.hid qn
              have Q6 := Lib.hid q6
              have Q7 := Lib.hid q7
              have Q8 := Lib.hid q8
              clear qk qs qp q0 q1 q2 q3 q4 q5 qn q6 q7 q8 hd hn
              go_wp2_with fail
              exact hK.out _ _ ⟨_, _, _, _, _, _, _, _, rfl, netKept_byte QK.out hkb, by simpa [World.setCell] using QS.out, fun _ => .inr D6.out, fun h => Q0.out (h.resolve_left (by decide)), fun h => Q1.out (h.resolve_left (by decide)), fun h => Q2.out (h.resolve_left (by decide)), fun _ => rfl, fun h => Q4.out (h.resolve_left (by decide)), fun _ => ⟨(Q5.out D5.out).1, (Q5.out D5.out).2.byte H0.out hkb HBk.out⟩, fun h => absurd (.inr D5.out) h, fun _ => ⟨kb, ch, rfl, hkb, set_box HBk.out⟩, fun _ => ⟨kb, rfl, hkb, set_box HBk.out⟩, fun h => Q8.out (h.resolve_left (by decide))⟩
            · obtain rfl : o = ⟨_, _, _, _, _, _⟩ := (Option.some.inj ho).symm
              obtain ⟨v8, v9, v26, v27, v28, v29, v30, v31, rfl, qk, qs, qp, q0, q1, q2, q3, q4, q5, qn, q6, q7, q8⟩ := hI
              simp [Region.binds] at hd
              obtain ⟨rfl, hq5⟩ := q5 hd.1
              have D5 := Lib.hid hd.1
              rw [if_pos (by rfl)]
              have QK := Lib.hid qk
              have QS := Lib.hid qs
              have QP := Lib.hid qp
              have Q0 := Lib.hid q0
              have Q1 := Lib.hid q1
              have Q2 := Lib.hid q2
              have Q3 := Lib.hid q3
              have Q4 := Lib.hid q4
              have Q5 := Lib.hid q5
              have QN := Lib.hid qn
              have Q6 := Lib.hid q6
              have Q7 := Lib.hid q7
              have Q8 := Lib.hid q8
              clear qk qs qp q0 q1 q2 q3 q4 q5 qn q6 q7 q8 hd hn hq5
              go_wp2_with fail
              exact hK.out _ _ ⟨_, _, _, _, _, _, _, _, rfl, QK.out, QS.out, fun h => .inr (QP.out (h.resolve_left (by decide))), fun h => Q0.out (h.resolve_left (by decide)), fun h => Q1.out (h.resolve_left (by decide)), fun h => Q2.out (h.resolve_left (by decide)), fun h => Q3.out (h.resolve_left (by decide)), fun h => Q4.out (h.resolve_left (by decide)), fun _ => ⟨rfl, (Q5.out D5.out).2⟩, fun h => QN.out (fun h5 => h (.inr h5)), fun h => Q6.out (h.resolve_left (by decide)), fun h => Q7.out (h.resolve_left (by decide)), fun _ => rfl⟩
            · simp at ho
          · rintro L a' W ⟨v8, v9, v26, v27, v28, v29, v30, v31, rfl, qk, qs, qp, q0, q1, q2, q3, q4, q5, qn, q6, q7, q8⟩ hall
            obtain ⟨kb, rfl, h1, h2⟩ := q7 (hall 7 (by simp))
            obtain rfl := q8 (hall 8 (by simp))
            have HF := Lib.hid (And.intro (q5 (hall 5 (by simp))).2 (And.intro qk (And.intro h1 h2)))
            clear qk qs qp q0 q1 q2 q3 q4 q5 qn q6 q7 q8 hall h1 h2
            go_wp2_with fail
            go_meet
            exact ⟨rfl, rfl, rfl, rfl, kb, rfl, Lib.hid ⟨⟨_, HF.out.1⟩, HF.out.2⟩⟩
        case rest =>
          obtain ⟨rfl, rfl, rfl, rfl, kb, rfl, HP⟩ := hcut
          obtain ⟨hsame, hN0, hKr, hwf, hqk, hmk⟩ := HK.out
          have hq2 : qk < (addS Ak).length := by rw [addS_len]; omega
          have hr2 : (rowN (addS Ak) qk).length ≤ 100000000 := by
            have h1 := mA_row Ak qk
            rw [rowN_addS]
            omega
          have hl2 : (addS Ak).length ≤ 100000000 := by
            have h1 := mA_len Ak
            rw [addS_len]
            omega
          have HAr := Lib.hid (arrow_any wc HP.out.1 qk Ak.length hq2 hr2 hl2 (some (fun c => c == ch)) (clos 113 kb) (part1_ok ch kb (Nat.le_trans H0.out HP.out.2.2.1) HP.out.2.2.2))
          have hdr : u.text.data.toList.drop k = ch :: u.text.data.toList.drop (k + 1) := by
            have h1 := Lib.data_getElem? u.text k hlt
            rw [hch] at h1
            obtain ⟨h2, h3⟩ := List.getElem?_eq_some_iff.1 h1
            rw [List.drop_eq_getElem_cons h2, h3]
          have HNx := Lib.hid (fun W (hW : NetAt w0 W b (addA (addS Ak) qk Ak.length (some (fun c => c == ch)))) (hKW : NetKept wc W) => (⟨by rw [hsame, hdr]; rfl, hW, hKr.trans (HP.out.2.1.trans hKW), (WF.addS hwf).addA hq2 (by rw [addS_len]; omega), by rw [addA_len, addS_len]; omega, by
            have h2 := mA_addA (addS Ak) qk Ak.length (some (fun c => c == ch))
            rw [mA_addS] at h2
            omega⟩ : textN u.text.data.toList A q = textN (u.text.data.toList.drop (k + 1)) (addA (addS Ak) qk Ak.length (some (fun c => c == ch))) Ak.length ∧ NetAt w0 W b (addA (addS Ak) qk Ak.length (some (fun c => c == ch))) ∧ NetKept w1 W ∧ WF (addA (addS Ak) qk Ak.length (some (fun c => c == ch))) ∧ Ak.length < (addA (addS Ak) qk Ak.length (some (fun c => c == ch))).length ∧ mA (addA (addS Ak) qk Ak.length (some (fun c => c == ch))) + 4 * (u.text.size - (k + 1)) ≤ 99999996))
          have htl : u.text.size ≤ 100000000 := by
            have := HM.out.1
            omega
          clear hsame hN0 hKr hwf hqk hmk hq2 hr2 hl2 hdr hltN HK hAk hch hlt
          go_wp2_with (go_at_call 112; refine HAr.out.mono ?_; rintro e w6 ⟨rfl, hN6, hK6⟩)
          go_roundg g
          case measure => omega
          case rel =>
            exact ⟨k + 1, Ak.length, _, by omega, by go_num, rfl, Lib.hid (HNx.out w6 hN6 hK6)⟩
      · have hltF : ¬ (k : Int) < (u.text.size : Int) := by omega
        have hF : Hid (textN u.text.data.toList A q = (Ak, qk) ∧ NetAt w0 wr b Ak ∧ NetKept w1 wr) := Lib.hid (by
          obtain ⟨h1, h2, h3, _⟩ := HK.out
          rw [List.drop_of_length_le (by rw [← Lib.size_eq]; omega)] at h1
          exact ⟨h1, h2, h3⟩)
        clear HK
        go_wp2_with fail
        go_ret
        obtain ⟨h1, h2, h3⟩ := hF.out
        rw [h1]
        exact ⟨rfl, h2, HNk.out.trans h3⟩
  by_cases t2 : u.kind = 2 ∨ u.kind = 5
  · rw [if_neg t1, if_pos t2]
    have n1 : (u.kind == 1) = false := by simp [t1]
    have hor : (u.kind == 2) = true ∨ ((u.kind == 2) = false ∧ (u.kind == 5) = true) := by
      rcases t2 with h | h <;> rw [h] <;> decide
    clear t1 t2
    go_enter Tryz.func87, Tryz.ntmps87
    go_upto_region 1 with fail
    rw [HBx.out]
    generalize w.alloc _ = w1 at *
    rcases hor with n2 | ⟨n2, n5⟩
    all_goals
      go_upto_region 14 with (go_at_call 49; refine (state_any _ HN.out (by omega)).mono ?_; rintro e w2 ⟨rfl, hN2, hK2⟩)
      have hr2 : (rowN (addS A) q).length ≤ 100000000 := by rw [rowN_addS]; omega
      have hl2 : (addS A).length ≤ 100000000 := by rw [addS_len]; omega
      have hq2 : q < (addS A).length := by rw [addS_len]; omega
      have HAr := Lib.hid (arrow_any w2 hN2 q A.length hq2 hr2 hl2 (some (oneB u)) (clos 114 bx) (part2_ok u bx h0 (hK2.box HB.out notNet_part) HRg.out hrl))
      have HK2 := Lib.hid hK2
      clear hr2 hl2 hq2 hN2 hK2
      go_wp2_with (go_at_call 112; refine HAr.out.mono ?_; rintro e w3 ⟨rfl, hN3, hK3⟩)
      go_ret
      exact ⟨rfl, hN3, HNk.out.trans (HK2.out.trans hK3)⟩
  by_cases t3 : u.kind = 3 ∨ u.kind = 4
  · rw [if_neg t1, if_neg t2, if_pos t3]
    have n1 : (u.kind == 1) = false := by simp [t1]
    have n2 : (u.kind == 2) = false := by simp; omega
    have n5 : (u.kind == 5) = false := by simp; omega
    have hor : (u.kind == 3) = true ∨ ((u.kind == 3) = false ∧ (u.kind == 4) = true) := by
      rcases t3 with h | h <;> rw [h] <;> decide
    clear t1 t2 t3
    go_enter Tryz.func87, Tryz.ntmps87
    go_upto_region 1 with fail
    rw [HBx.out]
    generalize w.alloc _ = w1 at *
    rcases hor with n3 | ⟨n3, n4⟩
    all_goals
      go_upto_region 19 with (go_at_call 49; refine (state_any _ HN.out (by omega)).mono ?_; rintro e w2 ⟨rfl, hN2, hK2⟩)
      have hr2 : (rowN (addS A) q).length ≤ 100000000 := by rw [rowN_addS]; omega
      have hl2 : (addS A).length ≤ 100000000 := by rw [addS_len]; omega
      have hq2 : q < (addS A).length := by rw [addS_len]; omega
      have HAr := Lib.hid (arrow_any w2 hN2 q A.length hq2 hr2 hl2 none .nilFunc rfl)
      have HK2 := Lib.hid hK2
      clear hr2 hl2 hq2 hN2 hK2
      go_upto_region 20 with (go_at_call 112; refine HAr.out.mono ?_; rintro e w3 ⟨rfl, hN3, hK3⟩)
      have hr3 : (rowN (addA (addS A) q A.length none) A.length).length ≤ 100000000 := by
        have h1 := mA_row (addA (addS A) q A.length none) A.length
        have h2 := mA_addA (addS A) q A.length none
        rw [mA_addS] at h2
        omega
      have hl3 : (addA (addS A) q A.length none).length ≤ 100000000 := by rw [addA_len, addS_len]; omega
      have hq3 : A.length < (addA (addS A) q A.length none).length := by rw [addA_len, addS_len]; omega
      have HAr3 := Lib.hid (arrow_any w3 hN3 A.length A.length hq3 hr3 hl3 (some (fun c => c != 47 || u.kind == 4)) (clos 116 bx) (part3_ok u bx h0 ((HK2.out.trans hK3).box HB.out notNet_part)))
      have HK3 := Lib.hid (HK2.out.trans hK3)
      clear hr3 hl3 hq3 hN3 hK3 HAr HK2
      go_wp2_with (go_at_call 112; refine HAr3.out.mono ?_; rintro e w4 ⟨rfl, hN4, hK4⟩)
      go_ret
      exact ⟨rfl, hN4, HNk.out.trans (HK3.out.trans hK4)⟩
  · rw [if_neg t1, if_neg t2, if_neg t3]
    have n1 : (u.kind == 1) = false := by simp [t1]
    have n2 : (u.kind == 2) = false := by simp; omega
    have n5 : (u.kind == 5) = false := by simp; omega
    have n3 : (u.kind == 3) = false := by simp; omega
    have n4 : (u.kind == 4) = false := by simp; omega
    have HWs := Lib.hid hws
    have HWo := Lib.hid hwo
    have HGw := Lib.hid hgw
    have HL := Lib.hid hl
    have hsum : (u.ways.xs.map (fun s => 1 + szL n s.xs)).sum = (u.ways.xs.map (fun s => 1 + (s.xs.map (sz n)).sum)).sum := rfl
    rw [← hsum] at hm1 hm2
    have hwl : u.ways.xs.length ≤ 1048576 := by
      have := ways_len u.ways.xs (fun s => szL n s.xs)
      omega
    have HM := Lib.hid (And.intro hm1 hm2)
    clear t1 t2 t3 hws hwo hgw hl hsum hg hpt hsz hm1 hm2 hrl hrq
    go_enter Tryz.func87, Tryz.ntmps87
    go_upto_region 1 with fail
    rw [HBx.out]
    generalize w.alloc _ = w1 at *
    generalize hWL : u.ways.xs.length = WL at *
    have HWL := Lib.hid hWL
    clear hWL
    generalize hwa : u.ways.a = wa at *
    have HWA := Lib.hid hwa
    clear hwa
    go_upto_region 23 with (go_at_call 49; refine (state_any _ HN.out (by omega)).mono ?_; rintro e w2 ⟨rfl, hN2, hK2⟩)
    have HB2 := Lib.hid (hK2.box HB.out notNet_part)
    have f4 := BoxIs.cell (j := 4) HB2.out rfl
    clear e0 e1 e4
    have HI : Hid (WaysAt n w0 w1 w2 b q A.length 0 u.ways.xs (addS A) (addS A)) := Lib.hid ⟨rfl, hN2, hK2, WF.addS HW.out.2, by rw [addS_len]; omega, by rw [addS_len]; omega, by
      have := HM.out.1
      rw [mA_addS, List.drop_zero]
      omega, by
      have := HM.out.2
      rw [List.drop_zero]
      omega⟩
    clear hN2 hK2
    go_wp2_with fail
    go_loopg [71] WL (fun g s71 wx => ∃ (k : Nat) (Ak : NetA), k + g = WL ∧ s71 = .int .i64 k ∧ Hid (WaysAt n w0 w1 wx b q A.length k u.ways.xs (addS A) Ak))
    case atStart => exact ⟨0, addS A, by omega, rfl, HI⟩
    case round =>
      obtain ⟨k, Ak, hk, rfl, HK⟩ := hrel
      clear HI HB HB2 HN f4
      by_cases hlt : k < WL
      · obtain ⟨g, rfl⟩ : ∃ g, gk = g + 1 := ⟨gk - 1, by omega⟩
        obtain ⟨t, hx⟩ : ∃ t : Sl (P n), u.ways.xs[k]? = some t := ⟨_, List.getElem?_eq_getElem (by rw [HWL.out]; exact hlt)⟩
        have hdr : u.ways.xs.drop k = t :: u.ways.xs.drop (k + 1) := by rw [List.drop_eq_getElem_cons (by rw [HWL.out]; exact hlt), (List.getElem?_eq_some_iff.1 hx).2]
        obtain ⟨bw, ow, ha, hbw, r0⟩ := wayRow (HWs.out.under HK.out.net.below) hx
        rw [HWA.out] at ha
        subst ha
        have hmem := List.mem_of_getElem? hx
        obtain ⟨hsame, hN2, hKk, hwf, hqk, hek, hmk, hsk⟩ := HK.out
        rw [hdr, List.map_cons, List.sum_cons] at hmk hsk
        have HSame : Hid (waysN (fun t => listN n t.xs) u.ways.xs A.length q (addS A) = waysN (fun t => listN n t.xs) (t :: u.ways.xs.drop (k + 1)) A.length q Ak) := Lib.hid (by rw [hsame, hdr])
        have hln := mA_len Ak
        have hrq := mA_row Ak q
        have hltI : (k : Int) < (WL : Int) := by omega
        have hk0 : (0 : Int) ≤ (k : Int) := by omega
        have HS := Lib.hid (state_any wr hN2 (by omega))
        have HKk := Lib.hid hKk
        have HWf := Lib.hid (And.intro hwf (And.intro hqk hek))
        have HM2 := Lib.hid (And.intro hmk hsk)
        have HLc := Lib.hid (fun W (hNW : NetAt w0 W b (addA (addS Ak) q Ak.length none)) => HL.out w0 W b (addA (addS Ak) q Ak.length none) t Ak.length hNW (HWo.out t hmem) (HGw.out t hmem) (by rw [addA_len, addS_len]; omega) ((WF.addS hwf).addA (by rw [addS_len]; omega) (by rw [addS_len]; omega)) (by
          have h2 := mA_addA (addS Ak) q Ak.length none
          rw [mA_addS] at h2
          exact ⟨by omega, by omega⟩))
        have HB3 := Lib.hid (fun (hq' : Ak.length < (addA (addS Ak) q Ak.length none).length) (hw' : WF (addA (addS Ak) q Ak.length none)) => And.intro (listN_ok (HGw.out t hmem) hq' hw') (listN_ext (HGw.out t hmem) hq' hw'))
        have hAr : ∀ W, NetAt w0 W b (addS Ak) → _ := fun W hW => arrow_any W hW q Ak.length (by rw [addS_len]; omega) (by rw [rowN_addS]; omega) (by rw [addS_len]; omega) none .nilFunc rfl
        have HAr := Lib.hid hAr
        clear hAr hsame hN2 hKk hwf hqk hek hmk hsk hx hdr hmem hln hrq HK
        go_upto_region 27 with (go_at_call 49; refine HS.out.mono ?_; rintro e w3 ⟨rfl, hN3, hK3⟩)
        have HA3 := Lib.hid (HAr.out w3 hN3)
        have HK3 := Lib.hid (HKk.out.trans hK3)
        clear hN3 hK3 HKk HAr HS r0
        go_upto_region 28 with (go_at_call 112; refine HA3.out.mono ?_; rintro e w4 ⟨rfl, hN4, hK4⟩)
        have HL4 := Lib.hid (HLc.out w4 hN4)
        have HK4 := Lib.hid (HK3.out.trans hK4)
        clear hN4 hK4 HK3 HLc HA3
        have hAl' : (addA (addS Ak) q Ak.length none).length = Ak.length + 1 := by rw [addA_len, addS_len]
        obtain ⟨hwf, hqk, hek⟩ := HWf.out
        obtain ⟨⟨hBw, hBl⟩, hBe⟩ := HB3.out (by omega) ((WF.addS hwf).addA (by rw [addS_len]; omega) (by rw [addS_len]; omega))
        have hmB := mA_list n t.xs (addA (addS Ak) q Ak.length none) Ak.length
        have hmA := mA_addA (addS Ak) q Ak.length none
        rw [mA_addS] at hmA
        obtain ⟨hmk, hsk⟩ := HM2.out
        have HStep : Hid (waysN (fun t => listN n t.xs) (t :: u.ways.xs.drop (k + 1)) A.length q Ak = waysN (fun t => listN n t.xs) (u.ways.xs.drop (k + 1)) A.length q (addA (listN n t.xs (addA (addS Ak) q Ak.length none) Ak.length).1 (listN n t.xs (addA (addS Ak) q Ak.length none) Ak.length).2 A.length none)) := Lib.hid rfl
        generalize listN n t.xs (addA (addS Ak) q Ak.length none) Ak.length = B at *
        have hrB := mA_row B.1 B.2
        have hlB := mA_len B.1
        have hmB2 := mA_addA B.1 B.2 A.length none
        have HArB := Lib.hid (fun W (hW : NetAt w0 W b B.1) => arrow_any W hW B.2 A.length hBl (by omega) (by omega) none .nilFunc rfl)
        have HNx := Lib.hid (fun W (hW : NetAt w0 W b (addA B.1 B.2 A.length none)) (hKW : NetKept w1 W) => (WaysAt.mk (HSame.out.trans HStep.out) hW hKW (hBw.addA hBl (by omega)) (by rw [addA_len]; omega) (by rw [addA_len]; omega) (by omega) (by omega) : WaysAt n w0 w1 W b q A.length (k + 1) u.ways.xs (addS A) (addA B.1 B.2 A.length none)))
        clear hAl' hwf hqk hek hBw hBl hBe hmB hmA hmk hsk hrB hlB hmB2 HStep HSame HB3 HWf
        obtain ⟨B1, B2⟩ := B
        dsimp only at *
        go_wp2_with (first | (go_at_call 50; refine HL4.out.mono ?_; rintro e w5 ⟨rfl, hN5, hK5⟩; have HA5 := Lib.hid (HArB.out w5 hN5); have HK5 := Lib.hid (HK4.out.trans hK5); clear hN5 hK5) | (go_at_call 112; refine HA5.out.mono ?_; rintro e w6 ⟨rfl, hN6, hK6⟩))
        go_roundg g
        case measure => omega
        case rel => exact ⟨k + 1, _, by omega, by go_num, Lib.hid (HNx.out w6 hN6 (HK5.out.trans hK6))⟩
      · have hltF : ¬ (k : Int) < (WL : Int) := by omega
        obtain ⟨hsame, hNk, hKk, _⟩ := HK.out
        rw [List.drop_of_length_le (by rw [HWL.out]; omega)] at hsame
        have HF := Lib.hid (And.intro hsame (And.intro hNk hKk))
        clear hsame hNk hKk HK
        go_wp2_with fail
        go_ret
        obtain ⟨hsame, hNk, hKk⟩ := HF.out
        refine ⟨rfl, ?_, HNk.out.trans hKk⟩
        show NetAt w0 wr b (waysN _ _ _ _ _)
        rw [hsame]
        exact hNk
end Go.Proofs.YtnpcbcnclncniaaGreatDoor
