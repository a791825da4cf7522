/-
  Globs read from their text, in plain words: what both readers compute.
-/
import Derived.Test.YtfenmeacimfiaaaGreatDoorProg
namespace Wh.G

/-- A part of a glob. -/
inductive GP where
  | text (l : List UInt8)
  | one
  | star
  | deep
  | set (neg : Bool) (rg : List (Int × Int))
  | ways (l : List (List GP))
/-- What a reader says: something, and what is left; or where it fails. -/
inductive Rd (α : Type) where
  | ok (a : α) (r : List UInt8)
  | bad (r : List UInt8)

/-- Ranges in order, that neither overlap nor meet. -/
def Canon : List (Int × Int) → Prop
  | [] => True
  | [x] => x.1 ≤ x.2
  | x :: y :: r => x.1 ≤ x.2 ∧ x.2 + 1 < y.1 ∧ Canon (y :: r)
def In (n : Int) (l : List (Int × Int)) : Prop := ∃ r ∈ l, r.1 ≤ n ∧ n ≤ r.2
theorem Canon.tail {x : Int × Int} {r : List (Int × Int)} (h : Canon (x :: r)) : Canon r := by
  cases r with
  | nil => trivial
  | cons y r => exact h.2.2
theorem Canon.head {x : Int × Int} {r : List (Int × Int)} (h : Canon (x :: r)) : x.1 ≤ x.2 := by
  cases r with
  | nil => exact h
  | cons y r => exact h.1
theorem Canon.above : ∀ {x : Int × Int} {r : List (Int × Int)}, Canon (x :: r) → ∀ y ∈ r, x.2 + 1 < y.1
  | _, [], _, _, hy => nomatch hy
  | x, z :: r, h, y, hy => by
    rcases List.mem_cons.1 hy with rfl | hy
    · exact h.2.1
    · have h1 := Canon.above h.2.2 y hy
      have h2 := Canon.head h.2.2
      have h3 := h.2.1
      omega
theorem in_cons {n : Int} {x : Int × Int} {r : List (Int × Int)} : In n (x :: r) ↔ (x.1 ≤ n ∧ n ≤ x.2) ∨ In n r := by
  unfold In
  constructor
  · rintro ⟨y, hy, h⟩
    rcases List.mem_cons.1 hy with rfl | hy
    · exact .inl h
    · exact .inr ⟨y, hy, h⟩
  · rintro (h | ⟨y, hy, h⟩)
    · exact ⟨x, by simp, h⟩
    · exact ⟨y, by simp [hy], h⟩
theorem in_nil {n : Int} : ¬ In n [] := by rintro ⟨_, h, _⟩; cases h
theorem in_app {n : Int} {a b : List (Int × Int)} : In n (a ++ b) ↔ In n a ∨ In n b := by
  unfold In
  constructor
  · rintro ⟨y, hy, h⟩
    rcases List.mem_append.1 hy with hy | hy
    · exact .inl ⟨y, hy, h⟩
    · exact .inr ⟨y, hy, h⟩
  · rintro (⟨y, hy, h⟩ | ⟨y, hy, h⟩)
    · exact ⟨y, by simp [hy], h⟩
    · exact ⟨y, by simp [hy], h⟩
/-- Ranges in order are told by what lies in them. -/
theorem canon_ext : ∀ {a b : List (Int × Int)}, Canon a → Canon b → (∀ n, In n a ↔ In n b) → a = b
  | [], [], _, _, _ => rfl
  | [], y :: b, _, hb, h => absurd ((h y.1).2 (in_cons.2 (.inl ⟨Int.le_refl _, hb.head⟩))) in_nil
  | x :: a, [], ha, _, h => absurd ((h x.1).1 (in_cons.2 (.inl ⟨Int.le_refl _, ha.head⟩))) in_nil
  | x :: a, y :: b, ha, hb, h => by
    have below : ∀ {u : Int × Int} {r : List (Int × Int)} {n : Int}, Canon (u :: r) → In n (u :: r) → u.1 ≤ n ∧ (n ≤ u.2 + 1 → n ≤ u.2) := fun {u r n} hc hi => by
      rcases in_cons.1 hi with h | ⟨z, hz, h⟩
      · exact ⟨h.1, fun _ => h.2⟩
      · have h1 := hc.above z hz
        have h2 := hc.head
        exact ⟨by omega, fun h3 => by omega⟩
    have hx := ha.head
    have hy := hb.head
    have e1 : x.1 = y.1 := by
      have h1 := (below hb ((h x.1).1 (in_cons.2 (.inl ⟨Int.le_refl _, hx⟩)))).1
      have h2 := (below ha ((h y.1).2 (in_cons.2 (.inl ⟨Int.le_refl _, hy⟩)))).1
      omega
    have e2 : x.2 = y.2 := by
      rcases Int.lt_trichotomy x.2 y.2 with hlt | he | hgt
      · have h1 := (h (x.2 + 1)).2 (in_cons.2 (.inl ⟨by omega, by omega⟩))
        have := (below ha h1).2 (Int.le_refl _)
        omega
      · exact he
      · have h1 := (h (y.2 + 1)).1 (in_cons.2 (.inl ⟨by omega, by omega⟩))
        have := (below hb h1).2 (Int.le_refl _)
        omega
    have e : x = y := Prod.ext e1 e2
    subst e
    rw [canon_ext ha.tail hb.tail (fun n => ?_)]
    have hn := h n
    rw [in_cons, in_cons] at hn
    have no : ∀ {r : List (Int × Int)}, Canon (x :: r) → In n r → ¬ (x.1 ≤ n ∧ n ≤ x.2) := fun {r} hc ⟨z, hz, h⟩ h2 => by
      have := hc.above z hz
      omega
    constructor
    · intro hi
      rcases hn.1 (.inr hi) with h1 | h1
      · exact absurd h1 (no ha hi)
      · exact h1
    · intro hi
      rcases hn.2 (.inr hi) with h1 | h1
      · exact absurd h1 (no hb hi)
      · exact h1
open Classical in
/-- The ranges in order that hold what these hold. -/
noncomputable def canonOf (l : List (Int × Int)) : List (Int × Int) := if h : ∃ c, Canon c ∧ ∀ n, In n c ↔ In n l then Classical.choose h else []
theorem canonOf_eq {l c : List (Int × Int)} (hc : Canon c) (h : ∀ n, In n c ↔ In n l) : canonOf l = c := by
  have hx : ∃ c, Canon c ∧ ∀ n, In n c ↔ In n l := ⟨c, hc, h⟩
  unfold canonOf
  rw [dif_pos hx]
  exact canon_ext (Classical.choose_spec hx).1 hc (fun n => ((Classical.choose_spec hx).2 n).trans (h n).symm)

/-- A bound of a range. -/
def bnd : List UInt8 → Rd UInt8
  | [] => .bad []
  | c :: r =>
    if c = 92 then (match r with | [] => .bad [] | x :: q => if x = 0 ∨ x = 47 then .bad (x :: q) else .ok x q)
    else if c = 0 ∨ c = 93 ∨ c = 94 ∨ c = 45 ∨ c = 47 then .bad (c :: r) else .ok c r
/-- What stands behind the first bound of a range. -/
def rng2 (a : UInt8) : List UInt8 → Rd (Int × Int)
  | 45 :: q => (match bnd q with | .bad s => .bad s | .ok b s => if b.toNat < a.toNat then .bad (b :: s) else .ok (a.toNat, b.toNat) s)
  | r => .ok (a.toNat, a.toNat) r
def rng (l : List UInt8) : Rd (Int × Int) := match bnd l with | .bad s => .bad s | .ok a r => rng2 a r
/-- The ranges of a set, up to its end; behind the first a ']' ends it. -/
def setGo : Nat → List (Int × Int) → List UInt8 → Rd (List (Int × Int))
  | 0, acc, l => .ok acc l
  | n + 1, acc, l =>
    if acc ≠ [] ∧ l.head? = some 93 then .ok acc l.tail
    else match rng l with | .bad s => .bad s | .ok x q => setGo n (acc ++ [x]) q
noncomputable def setR (l : List UInt8) : Rd GP :=
  match (if l.head? = some 94 then setGo (l.length + 1) [] l.tail else setGo (l.length + 1) [] l) with
  | .bad s => .bad s
  | .ok x q => .ok (.set (decide (l.head? = some 94)) (canonOf x)) q
/-- A byte more of text. -/
def addT : List GP → UInt8 → List GP
  | [], c => [.text [c]]
  | [.text l], c => [.text (l ++ [c])]
  | x :: r, c => x :: addT r c
mutual
/-- The parts of a list. -/
noncomputable def parts : Nat → Bool → List GP → List UInt8 → Rd (List GP)
  | 0, _, acc, l => .ok acc l
  | _ + 1, _, acc, [] => .ok acc []
  | n + 1, d, acc, c :: r =>
    if d = true ∧ (c = 44 ∨ c = 125) then .ok acc (c :: r)
    else if c = 63 then parts n d (acc ++ [.one]) r
    else if c = 42 then (if r.head? = some 42 then (if r.tail.head? = some 42 then .bad r.tail else parts n d (acc ++ [.deep]) r.tail) else parts n d (acc ++ [.star]) r)
    else if c = 91 then (match setR r with | .bad s => .bad s | .ok p q => parts n d (acc ++ [p]) q)
    else if c = 123 then (match ways n [] r with | .bad s => .bad s | .ok w q => parts n d (acc ++ [.ways w]) q)
    else if c = 92 then (match r with | [] => .bad [] | x :: q => if x = 0 then .bad (x :: q) else parts n d (addT acc x) q)
    else if c = 0 ∨ c = 93 ∨ c = 125 then .bad (c :: r)
    else parts n d (addT acc c) r
/-- Lists between braces. -/
noncomputable def ways : Nat → List (List GP) → List UInt8 → Rd (List (List GP))
  | 0, ws, l => .ok ws l
  | n + 1, ws, l => match parts n true [] l with
    | .bad s => .bad s
    | .ok _ [] => .bad []
    | .ok p (c :: q) => if c = 44 then ways n (ws ++ [p]) q else .ok (ws ++ [p]) q
end
end Wh.G
