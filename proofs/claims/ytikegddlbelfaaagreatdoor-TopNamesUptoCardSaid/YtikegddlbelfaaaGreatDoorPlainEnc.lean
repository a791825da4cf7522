/-
  Encodings, in plain Lean: what is checked.
-/
import Derived.Test.YtikegddlbelfaaaGreatDoorPlainClean2
import Derived.WalkKit
namespace Wh
open Go

def digit (c : UInt8) : Bool := decide (48 ≤ c.toNat) && decide (c.toNat ≤ 57)
def letter (c : UInt8) : Bool := (decide (97 ≤ c.toNat) && decide (c.toNat ≤ 122)) || (decide (65 ≤ c.toNat) && decide (c.toNat ≤ 90))

theorem letter_eq (c : UInt8) : letter c = ((decide (97 ≤ c.toNat) && decide (c.toNat ≤ 122)) || (decide (65 ≤ c.toNat) && decide (c.toNat ≤ 90))) := rfl

theorem letter_small (c : UInt8) : letter c = (decide (97 ≤ (small c).toNat) && decide ((small c).toNat ≤ 122)) := by
  rw [Bool.eq_iff_iff, small_nat]
  unfold letter
  simp
  split <;> omega
/-- A byte that may stand in Forbid, Head or Tail. -/
def okB (cs : Bool) (c : UInt8) : Bool := !(letter c || digit c || c == 37 || c == 47 || (cs && c == 94))
/-- Forbid, Head or Tail as it must be. -/
def formOk (cs : Bool) : List UInt8 → Bool
  | [] => true
  | x :: r => !r.contains x && okB cs x && formOk cs r

theorem formOk_snoc (cs : Bool) (x : UInt8) : ∀ l : List UInt8, formOk cs (l ++ [x]) = (formOk cs l && okB cs x && !l.contains x)
  | [] => by simp [formOk]
  | y :: r => by
    rw [List.cons_append, formOk, formOk, formOk_snoc cs x r, List.contains_append]
    simp only [List.contains_cons, List.contains_nil, Bool.or_false]
    have e : (y == x) = (x == y) := by rw [Bool.eq_iff_iff]; simp; exact ⟨Eq.symm, Eq.symm⟩
    rw [e]
    cases r.contains y <;> cases r.contains x <;> cases (x == y) <;> cases okB cs y <;> cases okB cs x <;> cases formOk cs r <;> rfl

theorem formOk_prefix {cs : Bool} : ∀ {a b : List UInt8}, formOk cs (a ++ b) = true → formOk cs a = true
  | [], _, _ => rfl
  | x :: a, b, h => by
    rw [List.cons_append, formOk, Bool.and_eq_true, Bool.and_eq_true] at h
    rw [formOk, Bool.and_eq_true, Bool.and_eq_true]
    refine ⟨⟨?_, h.1.2⟩, formOk_prefix h.2⟩
    have h1 := h.1.1
    rw [List.contains_append] at h1
    simp at h1 ⊢
    exact h1.1

theorem formOk_bad {cs : Bool} {l : List UInt8} {k : Nat} {x : UInt8} (hx : l[k]? = some x) (h : (l.take k).contains x = true ∨ okB cs x = false) : formOk cs l = false := by
  cases hf : formOk cs l with
  | false => rfl
  | true =>
    have h1 : formOk cs (l.take (k + 1)) = true := formOk_prefix (b := l.drop (k + 1)) (by rw [List.take_append_drop]; exact hf)
    rw [List.take_add_one, hx, Option.toList_some, formOk_snoc] at h1
    rcases h with h | h
    · rw [h] at h1; simp at h1
    · rw [h] at h1; simp at h1

theorem formOk_step {cs : Bool} {l : List UInt8} {k : Nat} {x : UInt8} (hx : l[k]? = some x) (h : formOk cs (l.take k) = true) (h1 : (l.take k).contains x = false) (h2 : okB cs x = true) : formOk cs (l.take (k + 1)) = true := by
  rw [List.take_add_one, hx, Option.toList_some, formOk_snoc, h, h1, h2]
  rfl

theorem formOk_drop {cs : Bool} {l : List UInt8} {k : Nat} {x : UInt8} (hx : l[k]? = some x) : formOk cs (l.drop k) = (!(l.drop (k + 1)).contains x && okB cs x && formOk cs (l.drop (k + 1))) := by
  have h := List.getElem?_eq_some_iff.1 hx
  rw [List.drop_eq_getElem_cons h.1, h.2, formOk]

/-- One of Names as it must be. -/
def nameOk (l : List UInt8) : Bool := isName l && (lower l == l) && !Lib.containsAny l [37, 94]

def namesErrFrom (prev : Option ByteArray) : List ByteArray → Int
  | [] => 0
  | n :: r => if nameOk n.data.toList = false then 2 else if (match prev with | none => false | some p => !Op.bytesLess p.toList n.toList) then 10 else namesErrFrom (some n) r

def namesErrAt (xs : List ByteArray) (k : Nat) : Int := namesErrFrom (if k = 0 then none else xs[k - 1]?) (xs.drop k)

section
variable {xs : List ByteArray} {k : Nat} {n p : ByteArray}
theorem namesErrAt_zero : namesErrAt xs 0 = namesErrFrom none xs := by simp [namesErrAt]
theorem namesErrAt_succ : namesErrAt xs (k + 1) = namesErrFrom xs[k]? (xs.drop (k + 1)) := by simp [namesErrAt]
theorem namesErr_name (hn : xs[k]? = some n) (h : nameOk n.data.toList = false) : namesErrAt xs k = 2 := by
  have hh := List.getElem?_eq_some_iff.1 hn
  rw [namesErrAt, List.drop_eq_getElem_cons hh.1, hh.2]
  generalize (if k = 0 then none else xs[k - 1]?) = pv
  cases pv <;> rw [namesErrFrom, if_pos h]
theorem namesErr_first (hn : xs[0]? = some n) (h : nameOk n.data.toList = true) : namesErrAt xs 0 = namesErrAt xs 1 := by
  have hh := List.getElem?_eq_some_iff.1 hn
  have e1 : xs = n :: xs.drop 1 := by
    have := List.drop_eq_getElem_cons hh.1
    rw [hh.2] at this
    exact this
  rw [namesErrAt_succ, hn, namesErrAt_zero]
  conv => lhs; rw [e1]
  rw [namesErrFrom, if_neg (by simp [h])]
  rfl
theorem namesErr_order (hn : xs[k + 1]? = some n) (hp : xs[k]? = some p) (h : nameOk n.data.toList = true) (h2 : Op.bytesLess p.toList n.toList = false) : namesErrAt xs (k + 1) = 10 := by
  have hh := List.getElem?_eq_some_iff.1 hn
  rw [namesErrAt_succ, hp, List.drop_eq_getElem_cons hh.1, hh.2, namesErrFrom, if_neg (by simp [h])]
  simp [h2]
theorem namesErr_next (hn : xs[k + 1]? = some n) (hp : xs[k]? = some p) (h : nameOk n.data.toList = true) (h2 : Op.bytesLess p.toList n.toList = true) : namesErrAt xs (k + 1) = namesErrAt xs (k + 1 + 1) := by
  have hh := List.getElem?_eq_some_iff.1 hn
  rw [namesErrAt_succ (k := k + 1), hn, namesErrAt_succ, hp, List.drop_eq_getElem_cons hh.1, hh.2, namesErrFrom, if_neg (by simp [h])]
  simp [h2]
theorem namesErr_end (hk : xs.length ≤ k) : namesErrAt xs k = 0 := by
  rw [namesErrAt, List.drop_eq_nil_of_le hk]
  rfl
end

theorem bytesLess_flip : ∀ a b : List UInt8, (Op.bytesLess a b || a == b) = !Op.bytesLess b a
  | [], [] => rfl
  | [], _ :: _ => rfl
  | _ :: _, [] => rfl
  | x :: a, y :: b => by
    have ih := bytesLess_flip a b
    rw [Op.bytesLess, Op.bytesLess]
    by_cases hxy : x = y
    · subst hxy
      have h1 : ¬ x < x := by simp
      simp only [h1, decide_false, Bool.false_or, beq_self_eq_true, Bool.true_and]
      rw [← ih]
      simp [List.cons_beq_cons]
    · have h2 : (x == y) = false := by simpa using hxy
      have h3 : (y == x) = false := by simpa using fun e => hxy e.symm
      have h4 : ((x :: a) == (y :: b)) = false := by simp [hxy]
      rw [h2, h3, h4]
      by_cases h5 : x < y
      · have h6 : ¬ y < x := by rw [UInt8.lt_iff_toNat_lt] at *; omega
        simp [h5, h6]
      · have h6 : y < x := by
          rw [UInt8.lt_iff_toNat_lt] at *
          have : x.toNat ≠ y.toNat := fun e => hxy (UInt8.toNat_inj.1 e)
          omega
        simp [h5, h6]

theorem byte_is (x k : UInt8) (i : Int) (h : (k.toNat : Int) = i) : ((x.toNat : Int) == i) = (x == k) := by
  rw [← h, Bool.eq_iff_iff, beq_iff_eq, beq_iff_eq]
  constructor
  · intro e
    exact UInt8.toNat_inj.1 (by omega)
  · intro e
    rw [e]

/-- Names that rise. -/
def Sorted (xs : List ByteArray) : Prop := ∀ (i j : Nat) (a b : ByteArray), i < j → xs[i]? = some a → xs[j]? = some b → Op.bytesLess a.toList b.toList = true

/-- What a search knows. -/
def Cut (xs : List ByteArray) (x : ByteArray) (i j : Nat) : Prop :=
  (∀ (t : Nat) (y : ByteArray), t < i → xs[t]? = some y → Op.bytesLess y.toList x.toList = true) ∧ (∀ (t : Nat) (y : ByteArray), j ≤ t → xs[t]? = some y → Op.bytesLess y.toList x.toList = false)

theorem cut_start (xs : List ByteArray) (x : ByteArray) : Cut xs x 0 xs.length :=
  ⟨fun t y ht => absurd ht (Nat.not_lt_zero _), fun t y ht hy => absurd (List.getElem?_eq_some_iff.1 hy).1 (by omega)⟩

/-- An encoding. -/
structure Enc where
  forbid : ByteArray
  head : ByteArray
  tail : ByteArray
  names : List ByteArray
  cs : Bool
  max : Int

/-- What is wrong with an encoding. -/
def encErr (x : Enc) : Int :=
  if [x.forbid, x.head, x.tail].all (fun s => formOk x.cs s.data.toList) = false then 6
  else if namesErrAt x.names 0 ≠ 0 then namesErrAt x.names 0
  else if x.max < 3 ∨ 255 < x.max then 7 else 0

theorem encErr_form {x : Enc} (h : [x.forbid, x.head, x.tail].all (fun s => formOk x.cs s.data.toList) = false) : encErr x = 6 := by
  unfold encErr; rw [if_pos h]
theorem encErr_names {x : Enc} (h : [x.forbid, x.head, x.tail].all (fun s => formOk x.cs s.data.toList) = true) (h2 : namesErrAt x.names 0 ≠ 0) : encErr x = namesErrAt x.names 0 := by
  unfold encErr; rw [if_neg (by simp [h]), if_pos h2]
theorem encErr_max {x : Enc} (h : [x.forbid, x.head, x.tail].all (fun s => formOk x.cs s.data.toList) = true) (h2 : namesErrAt x.names 0 = 0) (h3 : x.max < 3 ∨ 255 < x.max) : encErr x = 7 := by
  unfold encErr; rw [if_neg (by simp [h]), if_neg (by simp [h2]), if_pos h3]
theorem encErr_ok {x : Enc} (h : [x.forbid, x.head, x.tail].all (fun s => formOk x.cs s.data.toList) = true) (h2 : namesErrAt x.names 0 = 0) (h3 : ¬ (x.max < 3 ∨ 255 < x.max)) : encErr x = 0 := by
  unfold encErr; rw [if_neg (by simp [h]), if_neg (by simp [h2]), if_neg h3]
end Wh
