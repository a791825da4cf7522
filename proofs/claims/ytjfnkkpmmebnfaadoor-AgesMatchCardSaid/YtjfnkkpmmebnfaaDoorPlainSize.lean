/-
  Plain law: sizes: what a text says, and what is written of a number.
-/
import Derived.Test.YtjfnkkpmmebnfaaDoorPlainEnc
import Derived.Lib.ItoaNum
import Derived.Lib.SlTrimSet
namespace Wh

/-- A digit's value; the value of a row of digits. -/
def dv (c : UInt8) : Nat := c.toNat - 48
def dval (l : List UInt8) : Nat := l.foldl (fun n c => 10 * n + dv c) 0

theorem dval_snoc (l : List UInt8) (c : UInt8) : dval (l ++ [c]) = 10 * dval l + dv c := by simp [dval]

theorem dval_ge : ∀ (r : List UInt8) (n : Nat), n ≤ r.foldl (fun n c => 10 * n + dv c) n
  | [], n => Nat.le_refl _
  | c :: r, n => by
    have := dval_ge r (10 * n + dv c)
    simp only [List.foldl_cons]
    omega

theorem dval_mono (a b : List UInt8) : dval a ≤ dval (a ++ b) := by
  unfold dval
  rw [List.foldl_append]
  exact dval_ge b _

theorem dv_lt {c : UInt8} (h : digit c = true) : dv c ≤ 9 := by
  simp [digit] at h
  unfold dv
  omega

/-- Is there a point? -/
def hasDot (l : List UInt8) : Bool := l.contains 46

theorem dropWhile_nil {α : Type} {p : α → Bool} : ∀ {l : List α}, l.dropWhile p = [] ↔ ∀ x ∈ l, p x = true
  | [] => by simp
  | a :: l => by
    rw [List.dropWhile_cons]
    cases h : p a
    · simp [h]
    · simp [h, dropWhile_nil (l := l)]

theorem takeWhile_all {α : Type} {p : α → Bool} : ∀ {l : List α}, (∀ x ∈ l, p x = true) → l.takeWhile p = l
  | [], _ => rfl
  | a :: l, h => by rw [List.takeWhile_cons, if_pos (h a (by simp)), takeWhile_all (fun x hx => h x (by simp [hx]))]

theorem takeWhile_mem {α : Type} {p : α → Bool} : ∀ {l : List α} {x : α}, x ∈ l.takeWhile p → p x = true
  | [], _, h => by simp at h
  | a :: l, x, h => by
    rw [List.takeWhile_cons] at h
    cases hp : p a
    · simp [hp] at h
    · simp [hp] at h
      rcases h with rfl | h
      · exact hp
      · exact takeWhile_mem h

theorem dropWhile_head {α : Type} {p : α → Bool} : ∀ {l : List α} {x : α} {r : List α}, l.dropWhile p = x :: r → p x = false
  | [], _, _, h => by simp at h
  | a :: l, x, r, h => by
    rw [List.dropWhile_cons] at h
    cases hp : p a
    · simp [hp] at h
      rw [← h.1]
      exact hp
    · simp [hp] at h
      exact dropWhile_head h

abbrev most : Nat := 4611686018427387904

/-- A row of digits that is a number: there is one, and no superfluous 0. -/
def numOk (d : List UInt8) : Bool := !d.isEmpty && !(decide (1 < d.length) && d.head? == some 48)

/-- What names.number returns of it. -/
def numV (d : List UInt8) : Nat := if dval d ≤ most then dval d else most + 1

/-- A number times a unit, as names.times has it. -/
def timesV (n u : Nat) : Nat := if n ≤ most / u then n * u else most + 1

/-- The part behind the point, rounded down. -/
def fracP (fr : List UInt8) (u : Nat) : Nat := fr.foldr (fun c p => (p + dv c * u) / 10) 0

theorem fracP_le (u : Nat) : ∀ (fr : List UInt8), fr.all digit = true → fracP fr u ≤ u
  | [], _ => Nat.zero_le _
  | c :: r, h => by
    rw [List.all_cons, Bool.and_eq_true] at h
    have h1 := fracP_le u r h.2
    have h2 := dv_lt h.1
    have h3 : dv c * u ≤ 9 * u := Nat.mul_le_mul_right u h2
    show (fracP r u + dv c * u) / 10 ≤ u
    omega

def unitOf : List UInt8 → Option Nat
  | [] => some 1
  | [c] => if c = 98 then some 1 else if c = 107 then some 1024 else if c = 77 then some 1048576 else if c = 71 then some 1073741824 else if c = 84 then some 1099511627776 else none
  | _ => none

def sizeFin (d fr : List UInt8) (u : Nat) : Int × Int := if dval d * u + fracP fr u ≤ most then (((dval d * u + fracP fr u : Nat) : Int), 0) else (0, 7)

def sizeEnd (d fr rest : List UInt8) : Int × Int := match unitOf rest with
  | none => (0, 9)
  | some u => sizeFin d fr u

/-- What names.ParseSize returns. -/
def parseSz (l : List UInt8) : Int × Int :=
  if numOk (l.takeWhile digit) then
    if (l.dropWhile digit).head? = some 46 then
      if ((l.dropWhile digit).tail.takeWhile digit).isEmpty then (0, 9) else sizeEnd (l.takeWhile digit) ((l.dropWhile digit).tail.takeWhile digit) ((l.dropWhile digit).tail.dropWhile digit)
    else sizeEnd (l.takeWhile digit) [] (l.dropWhile digit)
  else (0, 9)

theorem unit_pos {r : List UInt8} {u : Nat} (h : unitOf r = some u) : 1 ≤ u ∧ u ≤ 1099511627776 := by
  unfold unitOf at h
  split at h
  · simp at h; omega
  · repeat (split at h; · simp at h; omega)
    simp at h
  · cases h

/-- The steps of names.ParseSize come to the same. -/
theorem size_steps {d fr : List UInt8} {u : Nat} (hu : 1 ≤ u) :
    (most < timesV (numV d) u + fracP fr u → sizeFin d fr u = (0, 7)) ∧
    (timesV (numV d) u + fracP fr u ≤ most → sizeFin d fr u = (((timesV (numV d) u + fracP fr u : Nat) : Int), 0)) := by
  have hle : ∀ n, n ≤ most / u ↔ n * u ≤ most := fun n => Nat.le_div_iff_mul_le hu
  have h1 : timesV (numV d) u = if dval d * u ≤ most then dval d * u else most + 1 := by
    unfold timesV numV
    by_cases h : dval d ≤ most
    · rw [if_pos h]
      by_cases h2 : dval d * u ≤ most
      · rw [if_pos ((hle _).2 h2), if_pos h2]
      · rw [if_neg (fun hh => h2 ((hle _).1 hh)), if_neg h2]
    · rw [if_neg h]
      have hx : ¬ dval d * u ≤ most := fun hh => h (Nat.le_trans (Nat.le_mul_of_pos_right _ hu) hh)
      have hy : ¬ most + 1 ≤ most / u := fun hh => by
        have := (hle _).1 hh
        have h3 : most + 1 ≤ (most + 1) * u := Nat.le_mul_of_pos_right _ hu
        omega
      rw [if_neg hy, if_neg hx]
  rw [h1]
  unfold sizeFin
  by_cases h2 : dval d * u ≤ most
  · rw [if_pos h2]
    exact ⟨fun h => by rw [if_neg (by omega)], fun h => by rw [if_pos h]⟩
  · rw [if_neg h2]
    exact ⟨fun _ => by rw [if_neg (by omega)], fun h => by omega⟩
end Wh
