/-
  A glob read from its text, in plain words: as the reference reads it.
-/
import Derived.Test.YtfenmeacimfiaaaGreatDoorGp5
namespace Wh.G

theorem addT_ne (l : List GP) (c : UInt8) : addT l c ≠ [] := by
  cases l with
  | nil => simp [addT]
  | cons x r =>
    cases x with
    | text t => cases r <;> simp [addT]
    | one => simp [addT]
    | star => simp [addT]
    | deep => simp [addT]
    | set a b => simp [addT]
    | ways w => simp [addT]
theorem PL_keep : ∀ (n : Nat) (d : Bool) (acc : List GP) (l : List UInt8) (a : List GP) (q : List UInt8), l.length ≤ n → acc ≠ [] → PL d acc l = .ok a q → a ≠ []
  | _, _, _, [], _, _, _, ha, h => by
    rw [PL_nil] at h
    injection h with h _
    rw [← h]
    exact ha
  | 0, _, _, _ :: _, _, _, hn, _, _ => by simp at hn
  | n + 1, d, acc, c :: r, a, q, hn, ha, h => by
    simp only [List.length_cons] at hn
    have key : ∀ (acc : List GP) (s : List UInt8), s.length ≤ r.length → acc ≠ [] → PL d acc s = .ok a q → a ≠ [] := fun acc s hs ha h => PL_keep n d acc s a q (by omega) ha h
    have tl : r.tail.length ≤ r.length := by rw [List.length_tail]; omega
    rw [PL_bind] at h
    split at h
    · injection h with h _
      rw [← h]
      exact ha
    split at h
    · exact key _ r (Nat.le_refl _) (by simp) h
    split at h
    · split at h
      · split at h
        · cases h
        · exact key _ r.tail tl (by simp) h
      · exact key _ r (Nat.le_refl _) (by simp) h
    split at h
    · cases hb : setR r with
      | bad s => rw [hb] at h; cases h
      | ok p s =>
        rw [hb] at h
        exact key _ s (setR_len hb) (by simp) h
    split at h
    · cases hb : WL [] r with
      | bad s => rw [hb] at h; cases h
      | ok p s =>
        rw [hb] at h
        exact key _ s (WL_len hb) (by simp) h
    split at h
    · split at h
      · cases h
      · split at h
        · cases h
        · exact key _ r.tail tl (addT_ne _ _) h
    split at h
    · cases h
    · exact key _ r (Nat.le_refl _) (addT_ne _ _) h
/-- Where something stands, something is read. -/
theorem PL_some {c : UInt8} {r : List UInt8} {a : List GP} {q : List UInt8} (h : PL false [] (c :: r) = .ok a q) : a ≠ [] := by
  have key : ∀ (acc : List GP) (s : List UInt8), acc ≠ [] → PL false acc s = .ok a q → a ≠ [] := fun acc s ha h => PL_keep _ false acc s a q (Nat.le_refl _) ha h
  rw [PL_bind] at h
  split at h
  · rename_i hc
    exact absurd hc.1 (by decide)
  split at h
  · exact key _ r (by simp) h
  split at h
  · split at h
    · split at h
      · cases h
      · exact key _ r.tail (by simp) h
    · exact key _ r (by simp) h
  split at h
  · cases hb : setR r with
    | bad s => rw [hb] at h; cases h
    | ok p s =>
      rw [hb] at h
      exact key _ s (by simp) h
  split at h
  · cases hb : WL [] r with
    | bad s => rw [hb] at h; cases h
    | ok p s =>
      rw [hb] at h
      exact key _ s (by simp) h
  split at h
  · split at h
    · cases h
    · split at h
      · cases h
      · exact key _ r.tail (addT_ne _ _) h
  split at h
  · cases h
  · exact key _ r (addT_ne _ _) h

/-- How many backslashes stand at the end. -/
def tailB : List UInt8 → Nat
  | [] => 0
  | c :: r => if c = 92 then tailB r + 1 else 0
theorem odd_tail (l : List UInt8) : odd false l.reverse = decide (tailB l % 2 = 1) := by
  induction l with
  | nil => rfl
  | cons c r ih =>
    rw [List.reverse_cons, odd_app]
    show (c == 92 && !(odd false r.reverse)) = _
    rw [ih]
    have hu : tailB (c :: r) = if c = 92 then tailB r + 1 else 0 := rfl
    rw [hu]
    generalize tailB r = m
    by_cases hc : c = 92
    · rw [if_pos hc, hc]
      by_cases h : m % 2 = 1
      · rw [decide_eq_true h, decide_eq_false (by omega)]
        rfl
      · rw [decide_eq_false h, decide_eq_true (by omega)]
        rfl
    · rw [if_neg hc]
      have : (c == 92) = false := by simpa using hc
      rw [this]
      rfl
/-- Whether the last byte is a quoted one. -/
def quoted (t : List UInt8) : Bool := decide (tailB t.dropLast.reverse % 2 = 1)
theorem quoted_odd (t : List UInt8) : quoted t = odd false t.dropLast := by
  have := odd_tail t.dropLast.reverse
  rw [List.reverse_reverse] at this
  exact this.symm

/-- What is read of the parts' text, at least one: else where it fails. -/
noncomputable def readP (l : List UInt8) (n : Nat) : Sum (List GP) Nat :=
  match PL false [] l with
  | .bad r => .inr (n - r.length)
  | .ok [] _ => .inr n
  | .ok (p :: l) _ => .inl (p :: l)
/-- The reference's way. -/
noncomputable def refFull (t : List UInt8) : GR := match readP (bodyOf t) t.length with
  | .inl l => .ok (rootOf t) false l
  | .inr k => .err k
/-- Whether the reference tries to read without the slash at the end. -/
def slashR (t : List UInt8) : Bool := decide (bodyOf t ≠ []) && (t.getLast? == some 47) && !(quoted t)
noncomputable def refR (t : List UInt8) : GR :=
  if t = [47, 47] then .err 2
  else if slashR t = true then match readP (bodyOf t).dropLast (t.length - 1) with
    | .inl l => .ok (rootOf t) true l
    | .inr _ => refFull t
  else refFull t
theorem refFull_plain (t : List UInt8) : refFull t = plainG t := by
  unfold refFull plainG readP
  cases PL false [] (bodyOf t) with
  | bad r => rfl
  | ok a r => cases a <;> rfl
theorem body_last {t : List UInt8} (h : bodyOf t ≠ []) : (bodyOf t).getLast? = t.getLast? := by
  unfold bodyOf at h ⊢
  cases hr : rootOf t
  · rw [if_neg (by simp)]
  · rw [hr, if_pos rfl] at h
    rw [if_pos rfl]
    cases t with
    | nil => exact absurd rfl h
    | cons c r =>
      cases r with
      | nil => exact absurd rfl h
      | cons x r => rw [List.tail_cons, List.getLast?_cons_cons]
theorem refR_eq (t : List UInt8) : refR t = readG t := by
  unfold refR readG
  by_cases hss : t = [47, 47]
  · subst hss
    rw [if_pos rfl]
    have hb : bodyOf [47, 47] = [47] := rfl
    have e : PL false [] (bodyOf [47, 47]).dropLast = .ok [] [] := by rw [hb]; exact PL_nil _ _
    rw [if_pos (by rw [hb]; rfl), e]
    rfl
  rw [if_neg hss]
  by_cases hbn : bodyOf t = []
  · have h1 : slashR t = false := by unfold slashR; rw [hbn]; rfl
    rw [h1, if_neg (by simp), if_neg (by rw [hbn]; simp), refFull_plain]
  have hl := body_last hbn
  by_cases h47 : (bodyOf t).getLast? = some 47
  · rw [if_pos h47]
    have h47t : t.getLast? = some 47 := hl.symm.trans h47
    cases hq : quoted t
    · have h1 : slashR t = true := by
        unfold slashR
        rw [hq, h47t]
        simp [hbn]
      rw [if_pos h1]
      unfold readP
      cases hp : PL false [] (bodyOf t).dropLast with
      | bad r => exact refFull_plain t
      | ok a r =>
        cases a with
        | cons p l => rfl
        | nil =>
          exfalso
          have hin : (bodyOf t).dropLast = [] := by
            cases hd : (bodyOf t).dropLast with
            | nil => rfl
            | cons c s =>
              rw [hd] at hp
              exact absurd rfl (PL_some hp)
          have hb1 : bodyOf t = [47] := by
            obtain ⟨ys, hy⟩ := List.getLast?_eq_some_iff.1 h47
            rw [hy, List.dropLast_concat] at hin
            rw [hy, hin]
            rfl
          unfold bodyOf at hb1
          cases hr : rootOf t
          · rw [hr, if_neg (by simp)] at hb1
            rw [hb1] at hr
            cases hr
          · rw [hr, if_pos rfl] at hb1
            cases t with
            | nil => cases hr
            | cons c s =>
              have hc : c = 47 := by
                unfold rootOf at hr
                have : some c = some 47 := by simpa using hr
                injection this
              rw [List.tail_cons] at hb1
              exact hss (by rw [hc, hb1])
    · have h1 : slashR t = false := by unfold slashR; rw [hq]; simp
      rw [h1, if_neg (by simp), refFull_plain]
      cases hp : PL false [] (bodyOf t).dropLast with
      | bad r => rfl
      | ok a r =>
        exfalso
        have := inner_even hp hbn
        rw [← quoted_odd, hq] at this
        cases this
  · have h1 : slashR t = false := by
      unfold slashR
      rw [← hl]
      have : ((bodyOf t).getLast? == some 47) = false := by simpa using h47
      rw [this]
      simp
    rw [h1, if_neg (by simp), if_neg h47, refFull_plain]
end Wh.G
