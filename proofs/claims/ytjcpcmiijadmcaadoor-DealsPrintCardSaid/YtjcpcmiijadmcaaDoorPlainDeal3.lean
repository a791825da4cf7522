/-
  Plain law: a deal, written.
-/
import Derived.Test.YtjcpcmiijadmcaaDoorPlainDeal
import Derived.Test.YtjcpcmiijadmcaaDoorQuote
import Derived.Test.YtjcpcmiijadmcaaDoorNum
namespace Wh
open Go
def quo (s : ByteArray) : ByteArray := ⟨(quoteL s.data.toList).toArray⟩
def num (n : Int) : ByteArray := ⟨(Lib.itoa n).toArray⟩
def wordK (k : Int) : ByteArray := if k = 1 then ⟨#[112, 117, 116]⟩ else if k = 2 then ⟨#[107, 101, 101, 112]⟩ else if k = 3 then ⟨#[114, 101, 109, 111, 118, 101]⟩ else ⟨#[99, 108, 101, 97, 114]⟩
def wordS (s : Int) : ByteArray := if s = 1 then ⟨#[65]⟩ else ⟨#[66]⟩
def actWords (x : Act) : List ByteArray := [wordK x.kind, wordS x.side] ++ (if x.kind = 1 then [num x.size, num x.time] else []) ++ [quo x.frm] ++ (if x.to.data.toList.isEmpty then [] else [quo x.to])
def refWords (r : Refusal) : List ByteArray := [⟨#[114, 101, 102, 117, 115, 101, 100]⟩, num r.err, quo r.path]
def eqWords (p : ByteArray) : List ByteArray := [⟨#[101, 113, 117, 97, 108]⟩, quo p]
def confWords (p : ByteArray) : List ByteArray := [⟨#[99, 111, 110, 102, 108, 105, 99, 116]⟩, quo p]
/-- A line: words with blanks between them. -/
def lineOf (ws : List ByteArray) : List UInt8 := Lib.join (ws.map (·.data.toList)) [32] ++ [10]
def dealLines (d : Deal) : List (List ByteArray) := d.acts.map actWords ++ (d.refused.map refWords ++ (d.equal.map eqWords ++ d.conf.map confWords))
def linesText (l : List (List ByteArray)) : List UInt8 := l.flatMap lineOf
theorem linesText_snoc (l : List (List ByteArray)) (x : List ByteArray) : linesText (l ++ [x]) = linesText l ++ lineOf x := by simp [linesText]
def dealText (d : Deal) : List UInt8 := if dealErr d = 0 then linesText (dealLines d) else []

theorem quo_size {s : ByteArray} (h : s.size ≤ 1024) : (quo s).size ≤ 4098 := by
  have : ∀ l : List UInt8, (l.flatMap quoteB).length ≤ 4 * l.length := by
    intro l
    induction l with
    | nil => simp
    | cons c l ih =>
      have := (quoteB_len c).2
      simp only [List.flatMap_cons, List.length_append, List.length_cons]
      omega
  have h2 := this s.data.toList
  have h3 : s.data.toList.length = s.size := (Lib.size_eq s).symm
  rw [Lib.size_eq]
  simp only [quo, quoteL, List.length_cons, List.length_append, List.length_nil]
  omega

theorem line_le {ws : List ByteArray} (h : ∀ x ∈ ws, x.size ≤ 4100) : (lineOf ws).length ≤ 4101 * ws.length + 1 := by
  have : ∀ ws : List ByteArray, (∀ x ∈ ws, x.size ≤ 4100) → (Lib.join (ws.map (·.data.toList)) [32]).length ≤ 4101 * ws.length := by
    intro ws
    induction ws with
    | nil => intro _; simp [Lib.join]
    | cons x r ih =>
      intro h
      have h1 := h x (by simp)
      have h2 := ih (fun y hy => h y (by simp [hy]))
      rw [Lib.size_eq] at h1
      cases r with
      | nil => simp [Lib.join] at h1 ⊢; omega
      | cons y r =>
        have e : Lib.join ((x :: y :: r).map (·.data.toList)) [32] = x.data.toList ++ [32] ++ Lib.join ((y :: r).map (·.data.toList)) [32] := by simp [Lib.join]
        rw [e]
        simp only [List.length_append, List.length_cons, List.length_nil] at h2 ⊢
        omega
  have := this ws h
  unfold lineOf
  rw [List.length_append]
  simp only [List.length_cons, List.length_nil]
  omega

theorem actErr_zero {x : Act} (h : actErr x = 0) : (x.kind = 1 ∨ x.kind = 2 ∨ x.kind = 3 ∨ x.kind = 4) ∧ (x.side = 1 ∨ x.side = 2) ∧ x.frm.size ≤ 1024 ∧ x.to.size ≤ 1024 := by
  unfold actErr actE at h
  by_cases h1 : x.kind < 1 ∨ 4 < x.kind ∨ (x.side ≠ 1 ∧ x.side ≠ 2)
  · rw [if_pos h1] at h
    omega
  rw [if_neg h1] at h
  by_cases h2 : pathNE x.frm = false ∨ ((x.kind = 1 ∨ x.kind = 2) ∧ pathNE x.to = false)
  · rw [if_pos h2] at h
    omega
  rw [if_neg h2] at h
  by_cases h3 : (¬ (x.kind = 1 ∨ x.kind = 2) ∧ x.to.data.toList.isEmpty = false) ∨ (x.kind ≠ 1 ∧ (x.size ≠ 0 ∨ x.time ≠ 0))
  · rw [if_pos h3] at h
    omega
  have hp : ∀ s : ByteArray, pathNE s = true → s.size ≤ 1024 := by
    intro s hs
    unfold pathNE at hs
    simp only [Bool.and_eq_true] at hs
    rw [Lib.size_eq]
    exact isPath_le hs.2
  refine ⟨by omega, by omega, hp _ ?_, ?_⟩
  · cases e : pathNE x.frm
    · exact absurd (.inl e) h2
    · rfl
  · by_cases hk : x.kind = 1 ∨ x.kind = 2
    · refine hp _ ?_
      cases e : pathNE x.to
      · exact absurd (.inr ⟨hk, e⟩) h2
      · rfl
    · have e : x.to.data.toList.isEmpty = true := by
        cases e : x.to.data.toList.isEmpty
        · exact absurd (.inl ⟨hk, e⟩) h3
        · rfl
      rw [Lib.size_eq, List.isEmpty_iff.1 e]
      simp

/-- The numbers of a deal are ints. -/
structure Deal.nums (d : Deal) : Prop where
  acts : ∀ x ∈ d.acts, (-9223372036854775808 ≤ x.size ∧ x.size ≤ 9223372036854775807) ∧ -9223372036854775808 ≤ x.time ∧ x.time ≤ 9223372036854775807
  refs : ∀ x ∈ d.refused, -9223372036854775808 ≤ x.err ∧ x.err ≤ 9223372036854775807

theorem num_size (n : Int) (h0 : -9223372036854775808 ≤ n) (h1 : n ≤ 9223372036854775807) : (num n).size ≤ 21 := by
  rw [Lib.size_eq]
  exact Lib.itoa_length_le n h0 h1

def okLine (ws : List ByteArray) : Prop := ws ≠ [] ∧ ws.length ≤ 6 ∧ (lineOf ws).length ≤ 30000
theorem okLine_of {ws : List ByteArray} (h0 : ws ≠ []) (h1 : ws.length ≤ 6) (h : ∀ x ∈ ws, x.size ≤ 4100) : okLine ws := ⟨h0, h1, by have := line_le h; omega⟩

theorem actsErr_zero : ∀ {xs : List Act}, actsErr xs = 0 → ∀ x ∈ xs, actErr x = 0 := by
  intro xs
  induction xs with
  | nil => intro _ x hx; cases hx
  | cons y xs ih =>
    intro h x hx
    unfold actsErr at h
    by_cases e : actErr y = 0
    · rw [if_pos e] at h
      rcases List.mem_cons.1 hx with rfl | hx
      · exact e
      · exact ih h x hx
    · rw [if_neg e] at h
      exact absurd h e

theorem dealErr_zero {d : Deal} (h : dealErr d = 0) : ¬ d.big ∧ (∀ x ∈ d.acts, actErr x = 0) ∧ pathsErr d.paths = 0 := by
  unfold dealErr at h
  by_cases h1 : d.big
  · rw [if_pos h1] at h
    omega
  rw [if_neg h1] at h
  by_cases h2 : actsErr d.acts = 0
  · rw [if_pos h2] at h
    exact ⟨h1, actsErr_zero h2, h⟩
  · rw [if_neg h2] at h
    exact absurd h h2

theorem wordK_size (k : Int) : (wordK k).size ≤ 6 := by
  unfold wordK
  split
  · decide
  · split
    · decide
    · split <;> decide
theorem wordS_size (k : Int) : (wordS k).size ≤ 6 := by
  unfold wordS
  split <;> decide

theorem actWords_ok {x : Act} (h : actErr x = 0) (hn : (-9223372036854775808 ≤ x.size ∧ x.size ≤ 9223372036854775807) ∧ -9223372036854775808 ≤ x.time ∧ x.time ≤ 9223372036854775807) : okLine (actWords x) := by
  obtain ⟨_, _, h3, h4⟩ := actErr_zero h
  have q1 := quo_size h3
  have q2 := quo_size h4
  have n1 := num_size x.size hn.1.1 hn.1.2
  have n2 := num_size x.time hn.2.1 hn.2.2
  have k1 := wordK_size x.kind
  have k2 := wordS_size x.side
  refine okLine_of (by simp [actWords]) ?_ ?_
  · unfold actWords
    split <;> split <;> simp
  · intro y hy
    unfold actWords at hy
    simp only [List.mem_append, List.mem_cons, List.not_mem_nil, or_false] at hy
    rcases hy with (((rfl | rfl) | hy) | rfl) | hy
    · omega
    · omega
    · split at hy
      · simp only [List.mem_cons, List.not_mem_nil, or_false] at hy
        rcases hy with rfl | rfl <;> omega
      · cases hy
    · omega
    · split at hy
      · cases hy
      · simp only [List.mem_cons, List.not_mem_nil, or_false] at hy
        subst hy
        omega

theorem refWords_ok {r : Refusal} (h : r.path.size ≤ 1024) (hn : -9223372036854775808 ≤ r.err ∧ r.err ≤ 9223372036854775807) : okLine (refWords r) := by
  have q1 := quo_size h
  have n1 := num_size r.err hn.1 hn.2
  refine okLine_of (by simp [refWords]) (by simp [refWords]) ?_
  intro y hy
  simp only [refWords, List.mem_cons, List.not_mem_nil, or_false] at hy
  rcases hy with rfl | rfl | rfl
  · decide
  · omega
  · omega
theorem eqWords_ok {p : ByteArray} (h : p.size ≤ 1024) : okLine (eqWords p) := by
  have q1 := quo_size h
  refine okLine_of (by simp [eqWords]) (by simp [eqWords]) ?_
  intro y hy
  simp only [eqWords, List.mem_cons, List.not_mem_nil, or_false] at hy
  rcases hy with rfl | rfl
  · decide
  · omega
theorem confWords_ok {p : ByteArray} (h : p.size ≤ 1024) : okLine (confWords p) := by
  have q1 := quo_size h
  refine okLine_of (by simp [confWords]) (by simp [confWords]) ?_
  intro y hy
  simp only [confWords, List.mem_cons, List.not_mem_nil, or_false] at hy
  rcases hy with rfl | rfl
  · decide
  · omega

theorem linesText_len {l : List (List ByteArray)} (h : ∀ x ∈ l, okLine x) : (linesText l).length ≤ 30000 * l.length := by
  induction l with
  | nil => simp [linesText]
  | cons x l ih =>
    have h1 := (h x (by simp)).2.2
    have h2 := ih (fun y hy => h y (by simp [hy]))
    have e : linesText (x :: l) = lineOf x ++ linesText l := by simp [linesText]
    rw [e, List.length_append, List.length_cons]
    omega
theorem linesText_append (a b : List (List ByteArray)) : linesText (a ++ b) = linesText a ++ linesText b := by simp [linesText]
theorem linesText_step {α : Type} {xs : List α} {f : α → List ByteArray} {k : Nat} {x : α} (h : xs[k]? = some x) : linesText ((xs.take (k + 1)).map f) = linesText ((xs.take k).map f) ++ lineOf (f x) := by
  rw [List.take_add_one, h]
  simp [linesText]
end Wh
