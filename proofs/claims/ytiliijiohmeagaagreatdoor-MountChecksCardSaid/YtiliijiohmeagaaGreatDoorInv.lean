/-
  A region that draws its order, by an invariant: one step for each operation, whatever has come up before.
-/
import Derived.Test.YtiliijiohmeagaaGreatDoorBase
import Derived.Deep.RegionHeld3
namespace Go.Proofs.YtiliijiohmeagaaGreatDoor
open Go.RowKit

section
variable {P : Program} {ops : Array Oper} {Q : Exit → Act → World → Prop} {md : Region.Mode}

/-- How many have not come up. -/
def unl (listed : Array Bool) : Nat := listed.toList.countP (!·)

theorem unl_set {listed : Array Bool} {i : Nat} (h : listed.getD i true = false) : unl (listed.setIfInBounds i true) + 1 = unl listed := by
  have hlt : i < listed.size := by
    rcases Nat.lt_or_ge i listed.size with h' | h'
    · exact h'
    · simp [Array.getElem?_eq_none h'] at h
  have hv : listed.toList[i]'(by simpa using hlt) = false := by
    simp [hlt] at h
    simpa using h
  unfold unl
  rw [Array.toList_setIfInBounds, List.countP_set (h := by simpa using hlt), hv]
  have : 0 < listed.toList.countP (!·) := List.countP_pos_iff.2 ⟨false, by rw [← hv]; exact List.getElem_mem _, rfl⟩
  simp only [Bool.not_false, Bool.not_true, if_true, Bool.false_eq_true, if_false]
  omega

theorem unl_none {listed : Array Bool} (h : unl listed = 0) (i : Nat) : listed.getD i true = true := by
  rcases Nat.lt_or_ge i listed.size with h' | h'
  · have hx := List.countP_eq_zero.1 h (listed[i]'h') (by simp)
    simp at hx
    simp [h', hx]
  · simp [Array.getElem?_eq_none h']

/-- Each operation waits for earlier ones alone. -/
def topoOk (ops : Array Oper) : Bool := (List.range ops.size).all fun i => match ops[i]? with | some o => o.after.all (fun e => decide (e.on < i)) | none => true

theorem topoOk_spec (h : topoOk ops = true) {i : Nat} {o : Oper} (ho : ops[i]? = some o) : ∀ e ∈ o.after, e.on < i := by
  intro e he
  have hi := (Array.getElem?_eq_some_iff.1 ho).1
  have h1 := List.all_eq_true.1 h i (List.mem_range.2 hi)
  rw [ho] at h1
  have h2 := Array.all_eq_true_iff_forall_mem.1 h1 e he
  exact of_decide_eq_true h2

theorem all_listed (ht : topoOk ops = true) {listed : Array Bool} (hs : listed.size = ops.size) (hr : Region.ready md ops listed = []) : ∀ i, i < ops.size → listed.getD i false = true := by
  intro i
  induction i using Nat.strongRecOn with
  | _ i ih =>
    intro hi
    have ho : ops[i]? = some ops[i] := Array.getElem?_eq_getElem hi
    cases hl : listed.getD i false with
    | true => rfl
    | false =>
      have hl2 : listed.getD i true = false := by
        have hlt : i < listed.size := by omega
        simp [hlt] at hl ⊢
        exact hl
      have : i ∈ Region.ready md ops listed := mem_ready.2 ⟨hl2, _, ho, fun e he _ => ih e.on (topoOk_spec ht ho e he) (Nat.lt_trans (topoOk_spec ht ho e he) hi)⟩
      rw [hr] at this
      cases this

theorem wpAny_inv {Inv : (Nat → Prop) → Act → World → Prop} (ht : topoOk ops = true)
    (hstep : ∀ i o, ops[i]? = some o → ∀ (L : Nat → Prop) a w, Inv L a w → (∀ e ∈ o.after, Region.binds md e = true → L e.on) →
      ∀ K : Act → World → Prop, Shut (∀ a w, (∀ L' : Nat → Prop, (∀ j, L' j → j = i ∨ L j) → Inv L' a w) → K a w) → if Region.wanted o (yielded ops a.tmps) = true then Oper.wp P o a w K Q else K (a.put o.dst undef) w)
    (hdone : ∀ L a w, Inv L a w → (∀ i, i < ops.size → L i) → Q .normal a w) :
    ∀ (fuel : Nat) (listed : Array Bool) (a : Act) (w : World), listed.size = ops.size → unl listed ≤ fuel → Inv (fun j => listed.getD j false = true) a w → wpAny P md ops Q fuel listed a w := by
  intro fuel
  induction fuel with
  | zero =>
    intro listed a w hs hu hI
    have hr : Region.ready md ops listed = [] := by
      rw [List.eq_nil_iff_forall_not_mem]
      intro i hi
      have := (mem_ready.1 hi).1
      rw [unl_none (by omega) i] at this
      cases this
    exact ⟨hr, hdone _ a w hI (all_listed ht hs hr)⟩
  | succ fuel ih =>
    intro listed a w hs hu hI
    refine ⟨fun hr => hdone _ a w hI (all_listed ht hs hr), fun i hi => ?_⟩
    obtain ⟨hun, o, ho, hall⟩ := mem_ready.1 hi
    refine wpOp_step ho fun K hK => hstep i o ho _ a w hI hall K (fun a' w' h => hK a' w' ?_)
    refine ih _ a' w' (by simpa using hs) (by have := unl_set hun; omega) (h _ fun j hj => ?_)
    by_cases hji : j = i
    · exact .inl hji
    · rw [getD_set_ne false (Ne.symm hji)] at hj
      exact .inr hj

/-- The beginning. -/
theorem wp_region_inv (Inv : (Nat → Prop) → Act → World → Prop) {id : Nat} {a : Act} {w : World} (hm : P.follows .mixedOrders = true) (ht : topoOk ops = true) (h0 : Inv (fun _ => False) a w.drew)
    (hstep : ∀ i o, ops[i]? = some o → ∀ (L : Nat → Prop) a w, Inv L a w → (∀ e ∈ o.after, Region.binds .any e = true → L e.on) →
      ∀ K : Act → World → Prop, Shut (∀ a w, (∀ L' : Nat → Prop, (∀ j, L' j → j = i ∨ L j) → Inv L' a w) → K a w) → if Region.wanted o (yielded ops a.tmps) = true then Oper.wp P o a w K Q else K (a.put o.dst undef) w)
    (hdone : ∀ L a w, Inv L a w → (∀ i, i < ops.size → L i) → Q .normal a w) : (Code.region id ops true).wp P Q a w := by
  refine wp_region_any hm (wpAny_inv ht hstep hdone _ _ _ _ (by simp) (by unfold unl; exact Nat.le_trans List.countP_le_length (by simp)) ?_)
  have e : (fun j => (Array.replicate ops.size false).getD j false = true) = fun _ : Nat => False := by
    funext j
    simp [Array.getElem?_replicate]
    split <;> simp
  rw [e]
  exact h0
end
end Go.Proofs.YtiliijiohmeagaaGreatDoor
