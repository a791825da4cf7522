/-
  Encoded names, in plain Lean.
-/
import Derived.Test.YtbcadgooelcnhaaDoorPlainEnc
namespace Wh
open Go

/-- A hexadecimal digit. -/
def hexd (n : Nat) : UInt8 := if n < 10 then UInt8.ofNat (48 + n) else UInt8.ofNat (55 + n)

/-- Must a byte be written by its number? -/
def escB (x : Enc) (named first last : Bool) (c : UInt8) : Bool :=
  c == 37 || x.forbid.data.toList.contains c || (first && (x.head.data.toList.contains c || named)) || (last && x.tail.data.toList.contains c)

/-- Must a byte be marked as a capital, or as the mark itself? -/
def markB (x : Enc) (c : UInt8) : Bool := x.cs && (c == 94 || (decide (65 ≤ c.toNat) && decide (c.toNat ≤ 90)))

/-- A byte, encoded. -/
def encB (x : Enc) (named first last : Bool) (c : UInt8) : List UInt8 :=
  if escB x named first last c then [37, hexd (c.toNat / 16), hexd (c.toNat % 16)] else if markB x c then [94, small c] else [c]

/-- The bytes from place i on of a name of n bytes, encoded. -/
def encFrom (x : Enc) (named : Bool) (n : Nat) : Nat → List UInt8 → List UInt8
  | _, [] => []
  | i, c :: l => encB x named (i == 0) (i + 1 == n) c ++ encFrom x named n (i + 1) l

/-- A name, encoded. -/
def encName (x : Enc) (l : List UInt8) : List UInt8 := encFrom x (x.names.any (fun y => y.data.toList == lower l)) l.length 0 l

theorem encB_length (x : Enc) (named first last : Bool) (c : UInt8) : 1 ≤ (encB x named first last c).length ∧ (encB x named first last c).length ≤ 3 := by
  unfold encB
  split
  · simp
  · split <;> simp

theorem encFrom_length (x : Enc) (named : Bool) (n : Nat) : ∀ (i : Nat) (l : List UInt8), l.length ≤ (encFrom x named n i l).length ∧ (encFrom x named n i l).length ≤ 3 * l.length
  | _, [] => by simp [encFrom]
  | i, c :: l => by
    have h1 := encB_length x named (i == 0) (i + 1 == n) c
    have h2 := encFrom_length x named n (i + 1) l
    simp only [encFrom, List.length_append, List.length_cons]
    omega

/-- What is written of a name when k bytes are done. -/
def encTo (x : Enc) (named : Bool) (l : List UInt8) (k : Nat) : List UInt8 := encFrom x named l.length 0 (l.take k)

theorem encFrom_snoc (x : Enc) (named : Bool) (n : Nat) (c : UInt8) : ∀ (i : Nat) (l : List UInt8), encFrom x named n i (l ++ [c]) = encFrom x named n i l ++ encB x named (i + l.length == 0) (i + l.length + 1 == n) c
  | i, [] => by simp [encFrom]
  | i, d :: l => by
    have ih := encFrom_snoc x named n c (i + 1) l
    have e : i + 1 + l.length = i + (l.length + 1) := by omega
    simp only [List.cons_append, encFrom, ih, List.append_assoc, List.length_cons, e]

theorem encTo_step {x : Enc} {named : Bool} {l : List UInt8} {k : Nat} {c : UInt8} (h : l[k]? = some c) : encTo x named l (k + 1) = encTo x named l k ++ encB x named (k == 0) (k + 1 == l.length) c := by
  have hk := (List.getElem?_eq_some_iff.1 h).1
  unfold encTo
  rw [List.take_add_one, h, Option.toList_some, encFrom_snoc]
  have e : (l.take k).length = k := by rw [List.length_take]; omega
  rw [e, Nat.zero_add]

theorem encTo_end (x : Enc) (l : List UInt8) {k : Nat} (h : l.length ≤ k) : encTo x (x.names.any (fun y => y.data.toList == lower l)) l k = encName x l := by
  unfold encTo encName
  rw [List.take_of_length_le h]

theorem encTo_length (x : Enc) (named : Bool) (l : List UInt8) (k : Nat) : (encTo x named l k).length ≤ 3 * l.length := by
  have := (encFrom_length x named l.length 0 (l.take k)).2
  unfold encTo
  have e : (l.take k).length ≤ l.length := by rw [List.length_take]; omega
  omega

theorem hexd_at (n : Nat) (h : n < 16) : (⟨#[48, 49, 50, 51, 52, 53, 54, 55, 56, 57, 65, 66, 67, 68, 69, 70]⟩ : ByteArray).data.toList[n]? = some (hexd n) := by
  have : ∀ n : Fin 16, (⟨#[48, 49, 50, 51, 52, 53, 54, 55, 56, 57, 65, 66, 67, 68, 69, 70]⟩ : ByteArray).data.toList[n.1]? = some (hexd n.1) := by decide
  exact this ⟨n, h⟩
end Wh
