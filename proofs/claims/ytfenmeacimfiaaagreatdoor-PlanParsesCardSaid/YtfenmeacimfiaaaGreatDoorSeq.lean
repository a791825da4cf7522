/-
  A region that draws its order, walked along one order: what yields the same in every world that meets S is taken first, the rest comes up alone.
-/
import Derived.Test.YtfenmeacimfiaaaGreatDoorBase
import Derived.Deep.RegionHeld3
namespace Go.Proofs.YtfenmeacimfiaaaGreatDoor
open Go.RowKit

section
variable {P : Program} {ops : Array Oper} {Q : Exit → Act → World → Prop} {md : Region.Mode} {S : World → Prop}

/-- The order is one that the edges allow; each number marked 'true' may be taken first, each other one is the only one that may come up. -/
def seqOk (md : Region.Mode) (ops : Array Oper) : List (Nat × Bool) → Array Bool → Bool
  | [], listed => (Region.ready md ops listed).isEmpty
  | (i, true) :: r, listed => ((Region.ready md ops listed).contains i && Region.free md ops listed i) && seqOk md ops r (listed.setIfInBounds i true)
  | (i, false) :: r, listed => (Region.ready md ops listed == [i]) && seqOk md ops r (listed.setIfInBounds i true)

/-- The walk along the order. -/
def wpSeq (P : Program) (ops : Array Oper) (Q : Exit → Act → World → Prop) (S : World → Prop) : List (Nat × Bool) → Act → World → Prop
  | [], a, w => Q .normal a w
  | (i, true) :: r, a, w => ∃ o v, ops[i]? = some o ∧ YieldsIf P ops S o v a ∧ wpSeq P ops Q S r (a.put o.dst v) w
  | (i, false) :: r, a, w => wpOp P ops Q i (fun a' w' => S w' ∧ wpSeq P ops Q S r a' w') a w

theorem wpSeq_sound (hs : Region.noSelect ops = true) (hQ : ∀ c a a' w, Q (.panic c) a w → Q (.panic c) a' w) :
    ∀ (order : List (Nat × Bool)) (fuel : Nat) (listed : Array Bool) (a : Act) (w : World), order.length ≤ fuel → seqOk md ops order listed = true → S w →
      wpSeq P ops Q S order a w → wpAnyH P md ops Q S fuel listed a w := by
  intro order
  induction order with
  | nil =>
    intro fuel listed a w _ hok _ h
    exact wpAnyH_done (List.isEmpty_iff.1 hok) h fuel
  | cons x r ih =>
    obtain ⟨i, t⟩ := x
    intro fuel listed a w hf hok hS h
    rcases fuel with _ | fuel
    · simp at hf
    have hf' : r.length ≤ fuel := by simpa using hf
    cases t with
    | true =>
      obtain ⟨o, v, ho, hy, hr⟩ := h
      unfold seqOk at hok
      simp only [Bool.and_eq_true] at hok
      exact wpAnyH_take ho hs hok.1.2 hok.1.1 (fun c a w hq => hQ c _ _ w hq) hy hS (ih fuel _ _ _ hf' hok.2 hS hr)
    | false =>
      unfold seqOk at hok
      simp only [Bool.and_eq_true, beq_iff_eq] at hok
      refine wpAnyH_all hok.1 (by simp) fun j hj => ?_
      obtain rfl : j = i := by simpa using hj
      exact wpOp_mono (fun a' w' hh => ⟨hh.1, ih fuel _ a' w' hf' hok.2 hh.1 hh.2⟩) h

/-- The beginning: the region is shown not to panic. -/
theorem wp_region_seq (S : World → Prop) (order : List (Nat × Bool)) {id : Nat} {a : Act} {w : World} (hm : P.follows .mixedOrders = true) (hs : Region.noSelect ops = true)
    (hl : order.length ≤ ops.size) (hok : seqOk .any ops order (Array.replicate ops.size false) = true) (hS : S w.drew)
    (h : ∀ OPS, Hid (OPS = ops) → wpSeq P OPS (NoPanic Q) S order a w.drew) : (Code.region id ops true).wp P Q a w :=
  wp_region_noPanic (wp_region_held hm (wpSeq_sound hs (fun _ _ _ _ h => h) order _ _ _ _ hl hok hS (h ops (Lib.hid rfl))))

variable {r : List (Nat × Bool)} {i : Nat} {o : Oper} {v : Value} {a : Act} {w : World}

theorem seq_take (ho : ops[i]? = some o) (hw : Region.wanted o (yielded ops a.tmps) = true) (hv : ∀ w, S w → (execOp a.eval o).run P w = .ok (.value v) w)
    (h : wpSeq P ops Q S r (a.put o.dst v) w) : wpSeq P ops Q S ((i, true) :: r) a w := ⟨o, v, ho, .inl ⟨hw, hv⟩, h⟩

theorem seq_skip (ho : ops[i]? = some o) (hw : Region.wanted o (yielded ops a.tmps) = false)
    (h : wpSeq P ops Q S r (a.put o.dst undef) w) : wpSeq P ops Q S ((i, true) :: r) a w := ⟨o, undef, ho, .inr ⟨hw, rfl⟩, h⟩

theorem seq_do (ho : ops[i]? = some o) (hw : Region.wanted o (yielded ops a.tmps) = true)
    (h : ∀ K : Act → World → Prop, Shut (∀ a w, S w → (S w → wpSeq P ops Q S r a w) → K a w) → Oper.wp P o a w K Q) : wpSeq P ops Q S ((i, false) :: r) a w :=
  wpOp_step ho fun K hK => by
    rw [if_pos hw]
    exact h K (fun a w hS hr => hK a w ⟨hS, hr hS⟩)

theorem seq_done (h : Q .normal a w) : wpSeq P ops (NoPanic Q) S [] a w := h
end
end Go.Proofs.YtfenmeacimfiaaaGreatDoor
