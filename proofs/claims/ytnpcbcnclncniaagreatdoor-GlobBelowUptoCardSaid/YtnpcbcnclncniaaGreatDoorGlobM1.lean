/-
  What globs match, in plain words: the places of a text to which parts lead.
-/
import Derived.Test.YtnpcbcnclncniaaGreatDoorGlobT1
namespace Go.Proofs.YtnpcbcnclncniaaGreatDoor
open Go.RowKit

def inRg (l : List (Int × Int)) (c : Int) : Bool := l.any (fun r => decide (r.1 ≤ c) && decide (c ≤ r.2))
def oneB {α : Type} (p : PartOf α) (c : UInt8) : Bool := c != 47 && (p.kind == 2 || (inRg p.rg.xs c.toNat != p.neg))
/-- A part leads from one place of a text to another. -/
def PRel {α : Type} (f : Sl α → Nat → Nat → Prop) (s : List UInt8) (p : PartOf α) (i j : Nat) : Prop :=
  if p.kind = 1 then j = i + p.text.size ∧ j ≤ s.length ∧ (s.drop i).take p.text.size = p.text.data.toList
  else if p.kind = 2 ∨ p.kind = 5 then j = i + 1 ∧ ∃ c, s[i]? = some c ∧ oneB p c = true
  else if p.kind = 3 ∨ p.kind = 4 then i ≤ j ∧ j ≤ s.length ∧ (p.kind = 3 → ∀ m, i ≤ m → m < j → s[m]? ≠ some 47)
  else if p.kind = 6 then ∃ t ∈ p.ways.xs, f t i j
  else False
def LRel {β : Type} (f : β → Nat → Nat → Prop) : List β → Nat → Nat → Prop
  | [], i, j => i = j
  | p :: r, i, j => ∃ m, f p i m ∧ LRel f r m j
/-- Parts lead from one place of a text to another. -/
def Rel (s : List UInt8) : (n : Nat) → List (P n) → Nat → Nat → Prop
  | 0, _, i, j => i = j
  | n + 1, xs, i, j => LRel (fun p => PRel (fun t => Rel s n t.xs) s (pt n p)) xs i j
def PR (s : List UInt8) (n : Nat) (p : PartOf (P n)) (i j : Nat) : Prop := PRel (fun t => Rel s n t.xs) s p i j

theorem LRel_snoc {β : Type} {f : β → Nat → Nat → Prop} : ∀ {l : List β} {p : β} {i j : Nat}, LRel f (l ++ [p]) i j ↔ ∃ m, LRel f l i m ∧ f p m j
  | [], p, i, j => by
    constructor
    · rintro ⟨m, h, e⟩
      cases e
      exact ⟨i, rfl, h⟩
    · rintro ⟨m, e, h⟩
      cases e
      exact ⟨j, h, rfl⟩
  | x :: l, p, i, j => by
    constructor
    · rintro ⟨m, h, hr⟩
      obtain ⟨k, h1, h2⟩ := LRel_snoc.1 hr
      exact ⟨k, ⟨m, h, h1⟩, h2⟩
    · rintro ⟨k, ⟨m, h, h1⟩, h2⟩
      exact ⟨m, h, LRel_snoc.2 ⟨k, h1, h2⟩⟩
theorem Rel_snoc {s : List UInt8} {n : Nat} {xs : List (P (n + 1))} {k : Nat} {p : P (n + 1)} (h : xs[k]? = some p) {i j : Nat} : Rel s (n + 1) (xs.take (k + 1)) i j ↔ ∃ m, Rel s (n + 1) (xs.take k) i m ∧ PR s n (pt n p) m j := by
  rw [List.take_add_one, h]
  exact LRel_snoc

/-- The places to which a relation leads. -/
def Leads (r : Nat → Nat → Prop) (frm tos : List Bool) : Prop := tos.length = frm.length ∧ ∀ j, tos[j]? = some true ↔ ∃ i, frm[i]? = some true ∧ r i j
theorem Leads.refl {r : Nat → Nat → Prop} (h : ∀ i j, r i j ↔ i = j) (frm : List Bool) : Leads r frm frm := ⟨rfl, fun j => ⟨fun hj => ⟨j, hj, (h j j).2 rfl⟩, fun ⟨i, hi, hr⟩ => by rw [← (h i j).1 hr]; exact hi⟩⟩
theorem Leads.trans {r q t : Nat → Nat → Prop} {a b c : List Bool} (h1 : Leads r a b) (h2 : Leads q b c) (ht : ∀ i j, t i j ↔ ∃ m, r i m ∧ q m j) : Leads t a c := by
  refine ⟨h2.1.trans h1.1, fun j => ?_⟩
  rw [h2.2 j]
  constructor
  · rintro ⟨m, hm, hq⟩
    obtain ⟨i, hi, hr⟩ := (h1.2 m).1 hm
    exact ⟨i, hi, (ht i j).2 ⟨m, hr, hq⟩⟩
  · rintro ⟨i, hi, hr⟩
    obtain ⟨m, hr, hq⟩ := (ht i j).1 hr
    exact ⟨m, (h1.2 m).2 ⟨i, hi, hr⟩, hq⟩
theorem Leads.iff {r q : Nat → Nat → Prop} {a b : List Bool} (h : Leads r a b) (hrq : ∀ i j, a[i]? = some true → (r i j ↔ q i j)) : Leads q a b :=
  ⟨h.1, fun j => (h.2 j).trans ⟨fun ⟨i, hi, hr⟩ => ⟨i, hi, (hrq i j hi).1 hr⟩, fun ⟨i, hi, hr⟩ => ⟨i, hi, (hrq i j hi).2 hr⟩⟩⟩

/-- Parts lead onwards, and only within the text. -/
theorem PRel_le {α : Type} {f : Sl α → Nat → Nat → Prop} {s : List UInt8} {p : PartOf α} {i j : Nat} (hf : ∀ t ∈ p.ways.xs, ∀ i j, f t i j → i ≤ j ∧ (i ≤ s.length → j ≤ s.length)) (h : PRel f s p i j) : i ≤ j ∧ (i ≤ s.length → j ≤ s.length) := by
  unfold PRel at h
  split at h
  · omega
  split at h
  · obtain ⟨rfl, c, hc, _⟩ := h
    have := (List.getElem?_eq_some_iff.1 hc).1
    omega
  split at h
  · omega
  split at h
  · obtain ⟨t, ht, h⟩ := h
    exact hf t ht i j h
  · exact h.elim
theorem LRel_le {β : Type} {f : β → Nat → Nat → Prop} {L : Nat} : ∀ {l : List β} {i j : Nat}, (∀ p ∈ l, ∀ i j, f p i j → i ≤ j ∧ (i ≤ L → j ≤ L)) → LRel f l i j → i ≤ j ∧ (i ≤ L → j ≤ L)
  | [], i, j, _, h => by
    cases h
    exact ⟨Nat.le_refl _, id⟩
  | x :: l, i, j, hf, ⟨m, h, hr⟩ => by
    have h1 := hf x (by simp) i m h
    have h2 := LRel_le (fun p hp => hf p (by simp [hp])) hr
    omega
theorem Rel_le {s : List UInt8} : ∀ (n : Nat) (xs : List (P n)) (i j : Nat), Rel s n xs i j → i ≤ j ∧ (i ≤ s.length → j ≤ s.length)
  | 0, _, i, j, h => by
    cases h
    exact ⟨Nat.le_refl _, id⟩
  | n + 1, xs, i, j, h => LRel_le (fun p _ _ _ hp => PRel_le (fun t _ i j ht => Rel_le n t.xs i j ht) hp) h

/-- A relation of parts at one text is that at another. -/
theorem LRel_iff {β : Type} {f g : β → Nat → Nat → Prop} {D : Nat → Prop} (e : Nat → Nat) (he : ∀ m, D m ↔ ∃ i, m = e i) (hi : ∀ i j, e i = e j → i = j) : ∀ {l : List β} {i j : Nat}, (∀ p ∈ l, ∀ i j, f p i j ↔ g p (e i) (e j)) → (∀ p ∈ l, ∀ i m, g p (e i) m → D m) → (LRel f l i j ↔ LRel g l (e i) (e j))
  | [], i, j, _, _ => ⟨fun h => congrArg e h, fun h => hi i j h⟩
  | x :: l, i, j, hf, hg => by
    constructor
    · rintro ⟨m, h, hr⟩
      exact ⟨e m, (hf x (by simp) i m).1 h, (LRel_iff e he hi (fun p hp => hf p (by simp [hp])) (fun p hp => hg p (by simp [hp]))).1 hr⟩
    · rintro ⟨m, h, hr⟩
      obtain ⟨k, rfl⟩ := (he m).1 (hg x (by simp) i m h)
      exact ⟨k, (hf x (by simp) i k).2 h, (LRel_iff e he hi (fun p hp => hf p (by simp [hp])) (fun p hp => hg p (by simp [hp]))).2 hr⟩

/-- Parts at the end of a text: as at the whole text, from a later place on. -/
theorem PRel_drop {α : Type} {f g : Sl α → Nat → Nat → Prop} {s : List UInt8} {k : Nat} (hk : k ≤ s.length) {p : PartOf α} (hf : ∀ t ∈ p.ways.xs, ∀ i j, f t i j ↔ g t (i + k) (j + k)) (i j : Nat) : PRel f (s.drop k) p i j ↔ PRel g s p (i + k) (j + k) := by
  have hl : (s.drop k).length = s.length - k := List.length_drop
  unfold PRel
  split
  · rw [hl, List.drop_drop, Nat.add_comm k i]
    constructor
    · rintro ⟨a, b, c⟩
      exact ⟨by omega, by omega, c⟩
    · rintro ⟨a, b, c⟩
      exact ⟨by omega, by omega, c⟩
  split
  · rw [List.getElem?_drop, Nat.add_comm k i]
    constructor
    · rintro ⟨a, b⟩
      exact ⟨by omega, b⟩
    · rintro ⟨a, b⟩
      exact ⟨by omega, b⟩
  split
  · rw [hl]
    constructor
    · rintro ⟨a, b, c⟩
      refine ⟨by omega, by omega, fun h m h1 h2 => ?_⟩
      have := c h (m - k) (by omega) (by omega)
      rw [List.getElem?_drop] at this
      rw [show m = k + (m - k) by omega]
      exact this
    · rintro ⟨a, b, c⟩
      refine ⟨by omega, by omega, fun h m h1 h2 => ?_⟩
      have := c h (k + m) (by omega) (by omega)
      rw [List.getElem?_drop]
      exact this
  split
  · constructor
    · rintro ⟨t, ht, h⟩
      exact ⟨t, ht, (hf t ht i j).1 h⟩
    · rintro ⟨t, ht, h⟩
      exact ⟨t, ht, (hf t ht i j).2 h⟩
  · exact Iff.rfl
theorem Rel_drop {s : List UInt8} {k : Nat} (hk : k ≤ s.length) : ∀ (n : Nat) (xs : List (P n)) (i j : Nat), Rel (s.drop k) n xs i j ↔ Rel s n xs (i + k) (j + k)
  | 0, _, i, j => by
    show i = j ↔ i + k = j + k
    omega
  | n + 1, xs, i, j => LRel_iff (D := fun m => k ≤ m) (fun i => i + k) (fun m => ⟨fun h => ⟨m - k, by omega⟩, fun ⟨i, h⟩ => by omega⟩) (fun i j h => by simpa using h) (fun p _ i j => PRel_drop hk (fun t _ i j => Rel_drop hk n t.xs i j) i j) (fun p _ i m h => by
      have := (PRel_le (fun t _ i j ht => Rel_le n t.xs i j ht) h).1
      omega)

/-- Parts at the beginning of a text. -/
theorem PRel_take {α : Type} {f g : Sl α → Nat → Nat → Prop} {s : List UInt8} {k : Nat} (hk : k ≤ s.length) {p : PartOf α} (hf : ∀ t ∈ p.ways.xs, ∀ i j, j ≤ k → (f t i j ↔ g t i j)) (i j : Nat) (hj : j ≤ k) : PRel f (s.take k) p i j ↔ PRel g s p i j := by
  have hl : (s.take k).length = k := by rw [List.length_take]; omega
  unfold PRel
  split
  · rw [hl]
    constructor
    · rintro ⟨a, b, c⟩
      refine ⟨a, by omega, ?_⟩
      rw [List.drop_take, List.take_take, Nat.min_eq_left (by omega)] at c
      exact c
    · rintro ⟨a, b, c⟩
      refine ⟨a, by omega, ?_⟩
      rw [List.drop_take, List.take_take, Nat.min_eq_left (by omega)]
      exact c
  split
  · constructor
    · rintro ⟨a, b⟩
      rw [List.getElem?_take_of_lt (by omega)] at b
      exact ⟨a, b⟩
    · rintro ⟨a, b⟩
      rw [List.getElem?_take_of_lt (by omega)]
      exact ⟨a, b⟩
  split
  · rw [hl]
    constructor
    · rintro ⟨a, b, c⟩
      refine ⟨a, by omega, fun h m h1 h2 => ?_⟩
      have := c h m h1 h2
      rw [List.getElem?_take_of_lt (by omega)] at this
      exact this
    · rintro ⟨a, b, c⟩
      refine ⟨a, by omega, fun h m h1 h2 => ?_⟩
      rw [List.getElem?_take_of_lt (by omega)]
      exact c h m h1 h2
  split
  · constructor
    · rintro ⟨t, ht, h⟩
      exact ⟨t, ht, (hf t ht i j hj).1 h⟩
    · rintro ⟨t, ht, h⟩
      exact ⟨t, ht, (hf t ht i j hj).2 h⟩
  · exact Iff.rfl
theorem LRel_ge {β : Type} {f : β → Nat → Nat → Prop} : ∀ {l : List β} {i j : Nat}, (∀ p ∈ l, ∀ i j, f p i j → i ≤ j) → LRel f l i j → i ≤ j
  | [], i, j, _, h => Nat.le_of_eq h
  | x :: l, i, j, hf, ⟨m, h, hr⟩ => Nat.le_trans (hf x (by simp) i m h) (LRel_ge (fun p hp => hf p (by simp [hp])) hr)
theorem LRel_on {β : Type} {f g : β → Nat → Nat → Prop} {k : Nat} : ∀ {l : List β} {i j : Nat}, j ≤ k → (∀ p ∈ l, ∀ i j, j ≤ k → (f p i j ↔ g p i j)) → (∀ p ∈ l, ∀ i j, f p i j → i ≤ j) → (∀ p ∈ l, ∀ i j, g p i j → i ≤ j) → (LRel f l i j ↔ LRel g l i j)
  | [], i, j, _, _, _, _ => Iff.rfl
  | x :: l, i, j, hj, h, hf, hg => by
    have ih : ∀ m, LRel f l m j ↔ LRel g l m j := fun m => LRel_on hj (fun p hp => h p (by simp [hp])) (fun p hp => hf p (by simp [hp])) (fun p hp => hg p (by simp [hp]))
    constructor
    · rintro ⟨m, h1, hr⟩
      have hm := LRel_ge (fun p hp => hf p (by simp [hp])) hr
      exact ⟨m, (h x (by simp) i m (by omega)).1 h1, (ih m).1 hr⟩
    · rintro ⟨m, h1, hr⟩
      have hm := LRel_ge (fun p hp => hg p (by simp [hp])) hr
      exact ⟨m, (h x (by simp) i m (by omega)).2 h1, (ih m).2 hr⟩
theorem Rel_take {s : List UInt8} {k : Nat} (hk : k ≤ s.length) : ∀ (n : Nat) (xs : List (P n)) (i j : Nat), j ≤ k → (Rel (s.take k) n xs i j ↔ Rel s n xs i j)
  | 0, _, _, _, _ => Iff.rfl
  | n + 1, _, _, _, hj => LRel_on hj (fun _ _ i j hj => PRel_take hk (fun t _ i j hj => Rel_take hk n t.xs i j hj) i j hj) (fun _ _ _ _ h => (PRel_le (fun t _ i j ht => Rel_le n t.xs i j ht) h).1) (fun _ _ _ _ h => (PRel_le (fun t _ i j ht => Rel_le n t.xs i j ht) h).1)

/-- A glob without Dirs matches a path. -/
def GPath (rooted : Bool) (n : Nat) (xs : List (P n)) (s : List UInt8) : Prop := s ≠ [] ∧ ∃ i, (i = 0 ∨ (rooted = false ∧ 0 < i ∧ s[i - 1]? = some 47)) ∧ i ≤ s.length ∧ Rel s n xs i s.length
/-- A glob matches a path. -/
def GMatch (rooted dirs : Bool) (n : Nat) (xs : List (P n)) (s : List UInt8) : Prop := if dirs then ∃ k, s[k]? = some 47 ∧ GPath rooted n xs (s.take k) else GPath rooted n xs s
end Go.Proofs.YtnpcbcnclncniaaGreatDoor
