/-
  Ranges found by looking at each byte, in plain words: as the reference finds them.
-/
import Derived.Test.YtfenmeacimfiaaaGreatDoorGp7
namespace Wh.G

/-- Whether a byte lies in ranges. -/
def hasOf (acc : List (Int × Int)) (i : Nat) : Bool := acc.any (fun r => decide (r.1 ≤ (i : Int)) && decide ((i : Int) ≤ r.2))
theorem hasOf_in (acc : List (Int × Int)) (i : Nat) : hasOf acc i = true ↔ In (i : Int) acc := by
  unfold hasOf In
  rw [List.any_eq_true]
  simp
theorem hasOf_snoc (acc : List (Int × Int)) (A B : Nat) : hasOf (acc ++ [((A : Int), (B : Int))]) = fun x => hasOf acc x || (decide (A ≤ x) && decide (x < B + 1)) := by
  funext x
  unfold hasOf
  rw [List.any_append]
  simp only [List.any_cons, List.any_nil, Bool.or_false]
  congr 1
  rw [Bool.eq_iff_iff]
  simp
  omega
/-- What has been found of the bytes below i. -/
structure CInv (acc out : List (Int × Int)) (i : Nat) : Prop where
  canon : Canon out
  same : ∀ n, In n out ↔ (n < i ∧ In n acc)
  last : ∀ y, out.getLast? = some y → In (i : Int) acc → y.2 + 1 < i
theorem CInv.start {acc : List (Int × Int)} (h : ∀ n, In n acc → 1 ≤ n) : CInv acc [] 1 :=
  ⟨trivial, fun n => ⟨fun h => absurd h in_nil, fun h2 => by have := h n h2.2; have := h2.1; omega⟩, fun y h => by cases h⟩
theorem CInv.skip {acc out : List (Int × Int)} {i : Nat} (h : CInv acc out i) (hi : ¬ In (i : Int) acc) : CInv acc out (i + 1) := by
  refine ⟨h.canon, fun n => ?_, fun y hy hin => ?_⟩
  · rw [h.same n]
    constructor
    · intro h2; exact ⟨by have := h2.1; omega, h2.2⟩
    · intro h2
      refine ⟨?_, h2.2⟩
      rcases Int.lt_or_eq_of_le (show n ≤ i by have := h2.1; omega) with h3 | h3
      · exact h3
      · exact absurd (h3 ▸ h2.2) hi
  · obtain ⟨ys, rfl⟩ := List.getLast?_eq_some_iff.1 hy
    have h1 := canon_part ys y h.canon
    have h2 := ((h.same y.2).1 (in_app.2 (.inr (in_cons.2 (.inl ⟨h1, Int.le_refl _⟩))))).1
    omega
theorem CInv.add {acc out : List (Int × Int)} {i k : Nat} (h : CInv acc out i) (hik : i ≤ k) (hi : ∀ n : Int, i ≤ n → n ≤ k → In n acc) (hk : ¬ In ((k + 1 : Nat) : Int) acc) : CInv acc (out ++ [((i : Int), (k : Int))]) (k + 1) := by
  refine ⟨canon_add out _ h.canon (fun y hy => h.last y hy (hi i (Int.le_refl _) (by omega))) (by show (i : Int) ≤ k; omega), fun n => ?_, fun y hy hin => absurd hin hk⟩
  rw [in_app, h.same n, in_cons]
  constructor
  · rintro (h2 | h2 | h2)
    · exact ⟨by omega, h2.2⟩
    · have h3 : (i : Int) ≤ n ∧ n ≤ k := h2
      exact ⟨by omega, hi n h3.1 h3.2⟩
    · exact absurd h2 in_nil
  · intro h2
    by_cases h3 : n < i
    · exact .inl ⟨h3, h2.2⟩
    · exact .inr (.inl ⟨by show (i : Int) ≤ n; omega, by show n ≤ (k : Int); omega⟩)
theorem CInv.done {acc out : List (Int × Int)} (h : CInv acc out 256) (hb : ∀ n, In n acc → n ≤ 255) : out = canonOf acc := by
  refine (canonOf_eq h.canon fun n => ?_).symm
  rw [h.same n]
  exact ⟨fun h2 => h2.2, fun h2 => ⟨by have := hb n h2; omega, h2⟩⟩
theorem CInv.ok {acc out : List (Int × Int)} {i : Nat} (h : CInv acc out i) (hb : ∀ n, In n acc → 1 ≤ n ∧ n ≤ 255) : ∀ r ∈ out, 0 ≤ r.1 ∧ r.1 ≤ r.2 ∧ r.2 ≤ 255 := by
  intro r hr
  have key : ∀ (l : List (Int × Int)), Canon l → ∀ r ∈ l, r.1 ≤ r.2 := by
    intro l
    induction l with
    | nil => intro _ r hr; cases hr
    | cons x l ih =>
      intro hc r hr
      rcases List.mem_cons.1 hr with rfl | hr
      · exact hc.head
      · exact ih hc.tail r hr
  have h1 := key out h.canon r hr
  have h2 := hb _ ((h.same r.1).1 ⟨r, hr, Int.le_refl _, h1⟩).2
  have h3 := hb _ ((h.same r.2).1 ⟨r, hr, h1, Int.le_refl _⟩).2
  omega
theorem in_bounds {acc : List (Int × Int)} (h : ∀ r ∈ acc, 1 ≤ r.1 ∧ r.2 ≤ 255) : ∀ n, In n acc → 1 ≤ n ∧ n ≤ 255 := by
  rintro n ⟨r, hr, h1, h2⟩
  have := h r hr
  omega
end Wh.G
