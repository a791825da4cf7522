/-
  Plain law: sizes: the reference reads the same.
-/
import Derived.Test.YtjfnkkpmmebnfaaDoorPlainSize
namespace Wh

/-- The place of a letter among the units. -/
def unitIdx (c : UInt8) : Option Nat := if c = 98 then some 0 else if c = 107 then some 1 else if c = 77 then some 2 else if c = 71 then some 3 else if c = 84 then some 4 else none

theorem unit_one (c : UInt8) : unitOf [c] = (unitIdx c).map (fun i => 1024 ^ i) := by
  unfold unitOf unitIdx
  by_cases h1 : c = 98
  · simp [h1]
  by_cases h2 : c = 107
  · simp [h2]
  by_cases h3 : c = 77
  · simp [h3]
  by_cases h4 : c = 71
  · simp [h4]
  by_cases h5 : c = 84
  · simp [h5]
  simp [h1, h2, h3, h4, h5]

theorem unitIdx_digit {c : UInt8} {i : Nat} (h : unitIdx c = some i) : digit c = false ∧ c ≠ 46 ∧ i ≤ 4 := by
  unfold unitIdx at h
  split at h
  · rename_i h1; subst h1; simp at h; subst h; decide
  split at h
  · rename_i h1; subst h1; simp at h; subst h; decide
  split at h
  · rename_i h1; subst h1; simp at h; subst h; decide
  split at h
  · rename_i h1; subst h1; simp at h; subst h; decide
  split at h
  · rename_i h1; subst h1; simp at h; subst h; decide
  cases h

/-- What stands ahead of the unit, and the unit. -/
def core (t : List UInt8) (u : Nat) : Int × Int :=
  if numOk (t.takeWhile digit) then
    if t.dropWhile digit = [] then sizeFin (t.takeWhile digit) [] u
    else if (t.dropWhile digit).head? = some 46 ∧ (t.dropWhile digit).tail ≠ [] ∧ (t.dropWhile digit).tail.all digit = true then sizeFin (t.takeWhile digit) (t.dropWhile digit).tail u
    else (0, 9)
  else (0, 9)

theorem while_snoc {c : UInt8} (hc : digit c = false) : ∀ t : List UInt8, (t ++ [c]).takeWhile digit = t.takeWhile digit ∧ (t ++ [c]).dropWhile digit = t.dropWhile digit ++ [c]
  | [] => by simp [hc]
  | x :: t => by
    obtain ⟨h1, h2⟩ := while_snoc hc t
    rw [List.cons_append, List.takeWhile_cons, List.takeWhile_cons, List.dropWhile_cons, List.dropWhile_cons, h1, h2]
    cases digit x <;> simp

theorem unitOf_long {a b : UInt8} {r : List UInt8} : unitOf (a :: b :: r) = none := rfl

theorem unitOf_snoc {r : List UInt8} {c : UInt8} (h : r ≠ []) : unitOf (r ++ [c]) = none := by
  match r, h with
  | [x], _ => rfl
  | x :: y :: r, _ => rfl

theorem sizeEnd_no {d fr r : List UInt8} (h : unitOf r = none) : sizeEnd d fr r = (0, 9) := by unfold sizeEnd; rw [h]
theorem sizeEnd_so {d fr r : List UInt8} {u : Nat} (h : unitOf r = some u) : sizeEnd d fr r = sizeFin d fr u := by unfold sizeEnd; rw [h]

theorem take_or_drop {q : List UInt8} (h : q.dropWhile digit = []) : q.takeWhile digit = q ∧ q.all digit = true := by
  have h1 := dropWhile_nil.1 h
  exact ⟨takeWhile_all h1, List.all_eq_true.2 h1⟩

theorem not_all {q : List UInt8} (h : q.dropWhile digit ≠ []) : q.all digit = false := by
  rw [Bool.eq_false_iff]
  intro ha
  exact h (dropWhile_nil.2 (List.all_eq_true.1 ha))

theorem parseSz_unit {t : List UInt8} {c : UInt8} {i : Nat} (hc : unitIdx c = some i) : parseSz (t ++ [c]) = core t (1024 ^ i) := by
  obtain ⟨hd, h46, _⟩ := unitIdx_digit hc
  obtain ⟨h1, h2⟩ := while_snoc hd t
  have hu : unitOf [c] = some (1024 ^ i) := by rw [unit_one, hc]; rfl
  unfold parseSz core
  rw [h1, h2]
  cases hok : numOk (t.takeWhile digit)
  · simp
  · rw [if_pos rfl, if_pos rfl]
    cases hr : t.dropWhile digit with
    | nil =>
      rw [if_pos rfl, List.nil_append, if_neg (by simpa using h46)]
      exact sizeEnd_so hu
    | cons x q =>
      rw [if_neg (show ¬ (x :: q = []) by simp), List.cons_append, List.head?_cons, List.head?_cons, List.tail_cons, List.tail_cons]
      by_cases hx : x = 46
      · subst hx
        rw [if_pos rfl]
        obtain ⟨g1, g2⟩ := while_snoc hd q
        rw [g1, g2]
        cases hq : q.dropWhile digit with
        | nil =>
          obtain ⟨k1, k2⟩ := take_or_drop hq
          rw [k1, k2]
          cases q with
          | nil => simp
          | cons y q' =>
            rw [if_neg (by simp), if_pos (by simp), List.nil_append]
            exact sizeEnd_so hu
        | cons y q' =>
          have k2 := not_all (q := q) (by rw [hq]; simp)
          rw [if_neg (show ¬ (some 46 = some (46 : UInt8) ∧ q ≠ [] ∧ q.all digit = true) by rw [k2]; simp)]
          split
          · rfl
          · exact sizeEnd_no (unitOf_snoc (by simp))
      · rw [if_neg (show ¬ (some x = some (46 : UInt8)) by simp [hx]), if_neg (by simp [hx])]
        exact sizeEnd_no (by rw [← List.cons_append]; exact unitOf_snoc (by simp))

theorem parseSz_bare {l : List UInt8} (h : ∀ c, l.getLast? = some c → unitIdx c = none) : parseSz l = core l 1 := by
  have hlast : ∀ (q : List UInt8) (x : UInt8), l.dropWhile digit = q ++ [x] → unitIdx x = none := fun q x hq => by
    refine h x ?_
    have e : l = l.takeWhile digit ++ l.dropWhile digit := (List.takeWhile_append_dropWhile).symm
    rw [e, hq, ← List.append_assoc, List.getLast?_append]
    simp
  unfold parseSz core
  cases hok : numOk (l.takeWhile digit)
  · simp
  · rw [if_pos rfl, if_pos rfl]
    cases hr : l.dropWhile digit with
    | nil =>
      rw [if_pos rfl, if_neg (by simp)]
      exact sizeEnd_so rfl
    | cons x q =>
      rw [if_neg (show ¬ (x :: q = []) by simp), List.head?_cons, List.tail_cons]
      have hend : ∀ r, r ≠ [] → (∃ p, l.dropWhile digit = p ++ r) → unitOf r = none := fun r hr0 hp => by
        obtain ⟨p, hp⟩ := hp
        match r, hr0 with
        | [y], _ => rw [unit_one, hlast p y hp]; rfl
        | y :: z :: r, _ => rfl
      by_cases hx : x = 46
      · subst hx
        rw [if_pos rfl]
        cases hq : q.dropWhile digit with
        | nil =>
          obtain ⟨k1, k2⟩ := take_or_drop hq
          rw [k1, k2]
          cases q with
          | nil => simp
          | cons y q' =>
            rw [if_neg (by simp), if_pos (by simp)]
            exact sizeEnd_so rfl
        | cons y q' =>
          have k2 := not_all (q := q) (by rw [hq]; simp)
          rw [if_neg (show ¬ (some 46 = some (46 : UInt8) ∧ q ≠ [] ∧ q.all digit = true) by rw [k2]; simp)]
          split
          · rfl
          · refine sizeEnd_no (hend _ (by simp) ⟨46 :: q.takeWhile digit, ?_⟩)
            rw [hr, ← hq, List.cons_append, List.takeWhile_append_dropWhile]
      · rw [if_neg (show ¬ (some x = some (46 : UInt8)) by simp [hx]), if_neg (by simp [hx])]
        exact sizeEnd_no (hend _ (by simp) ⟨[], by rw [hr]; rfl⟩)

/-- What the reference tests. -/
def refBad (t : List UInt8) : Bool :=
  (t.takeWhile (· != 46)).isEmpty || !(t.takeWhile (· != 46)).all digit || (decide (1 < (t.takeWhile (· != 46)).length) && (t.takeWhile (· != 46)).head? == some 48) ||
    (hasDot t && (((t.dropWhile (· != 46)).drop 1).isEmpty || !((t.dropWhile (· != 46)).drop 1).all digit))

theorem digit_dot {c : UInt8} (h : digit c = true) : (c != 46) = true := by
  rw [bne_iff_ne]
  rintro rfl
  simp [digit] at h

theorem dot_split : ∀ (d r : List UInt8), d.all digit = true → (d ++ r).takeWhile (· != 46) = d ++ r.takeWhile (· != 46) ∧ (d ++ r).dropWhile (· != 46) = r.dropWhile (· != 46) ∧ hasDot (d ++ r) = hasDot r
  | [], r, _ => by simp
  | c :: d, r, h => by
    rw [List.all_cons, Bool.and_eq_true] at h
    obtain ⟨h1, h2, h3⟩ := dot_split d r h.2
    have hc := digit_dot h.1
    have hc2 : (46 == c) = false := by
      rw [bne_iff_ne] at hc
      simpa using fun e => hc e.symm
    refine ⟨?_, ?_, ?_⟩
    · rw [List.cons_append, List.takeWhile_cons, if_pos hc, h1]; rfl
    · rw [List.cons_append, List.dropWhile_cons, if_pos hc, h2]
    · unfold hasDot at h3 ⊢
      rw [List.cons_append, List.contains_cons, hc2, Bool.false_or, h3]

theorem core_ref (t : List UInt8) (u : Nat) : core t u = if refBad t then (0, 9) else sizeFin (t.takeWhile (· != 46)) ((t.dropWhile (· != 46)).drop 1) u := by
  have e : t = t.takeWhile digit ++ t.dropWhile digit := (List.takeWhile_append_dropWhile).symm
  have hd : (t.takeWhile digit).all digit = true := List.all_eq_true.2 fun x hx => takeWhile_mem hx
  obtain ⟨h1, h2, h3⟩ := dot_split (t.takeWhile digit) (t.dropWhile digit) hd
  rw [← e] at h1 h2 h3
  have hh : ∀ x r, t.dropWhile digit = x :: r → digit x = false := fun x r h => dropWhile_head h
  unfold core refBad
  rw [h1, h2, h3]
  generalize t.takeWhile digit = d at *
  generalize t.dropWhile digit = r at *
  clear e h1 h2 h3
  cases r with
  | nil =>
    have e1 : hasDot [] = false := rfl
    rw [if_pos rfl, e1]
    simp only [List.takeWhile_nil, List.append_nil, List.dropWhile_nil, List.drop_nil, hd, Bool.not_true, Bool.or_false, Bool.false_and]
    unfold numOk
    cases hb : (d.isEmpty || (decide (1 < d.length) && d.head? == some 48))
    · rw [if_pos (by rw [← Bool.not_or, hb]; rfl), if_neg (by simp)]
    · rw [if_neg (by rw [← Bool.not_or, hb]; simp), if_pos rfl]
  | cons x r =>
    have hx := hh x r rfl
    rw [if_neg (show ¬ (x :: r = []) by simp)]
    by_cases h46 : x = 46
    · subst h46
      have e1 : hasDot (46 :: r) = true := by simp [hasDot]
      have e2 : (46 :: r).takeWhile (· != 46) = [] := by simp
      have e3 : (46 :: r).dropWhile (· != 46) = 46 :: r := by simp
      rw [e1, e2, e3]
      simp only [List.append_nil, hd, Bool.not_true, Bool.or_false, Bool.true_and, List.drop_one, List.tail_cons, List.head?_cons, true_and]
      unfold numOk
      cases hb : (d.isEmpty || (decide (1 < d.length) && d.head? == some 48))
      · rw [if_pos (by rw [← Bool.not_or, hb]; rfl), Bool.false_or]
        cases r with
        | nil => simp
        | cons y r' =>
          cases ha : (y :: r').all digit
          · simp
          · simp
      · rw [if_neg (by rw [← Bool.not_or, hb]; simp), Bool.true_or, if_pos rfl]
    · have e2 : (x :: r).takeWhile (· != 46) = x :: r.takeWhile (· != 46) := by simp [h46]
      have hna : (d ++ x :: r.takeWhile (· != 46)).all digit = false := by
        rw [List.all_append, List.all_cons, hx]
        simp
      rw [e2, hna]
      simp [h46]
end Wh
