/-
  What a line of a plan tells, in plain words, and that plan's reader finds it.
-/
import Derived.Test.YtfenmeacimfiaaaGreatDoorPl3
namespace Wh
open Go

def StepLineL (line : List UInt8) (s : StepL) : Prop := s.fits ∧ inI s.size ∧ inI s.time ∧ line = lineW (stepWordsL s)
def RefLineL (line : List UInt8) (n : Int) (p : List UInt8) : Prop := inI n ∧ line = lineW (refWordsL n p)
theorem stepW_no : ∀ k, k ≤ 10 → ∀ b ∈ stepW.getD k [], b ≠ 32 := by
  have key : ∀ k, k < 11 → ∀ b ∈ stepW.getD k [], b ≠ 32 := by decide
  exact fun k h => key k (by omega)
theorem stepW_ref : ∀ k, k ≤ 10 → stepW.getD k [] ≠ refusedW := by
  have key : ∀ k, k < 11 → stepW.getD k [] ≠ refusedW := by decide
  exact fun k h => key k (by omega)
theorem refusedW_no : ∀ b ∈ refusedW, b ≠ 32 := by decide
/-- A refusal's line. -/
theorem ref_read {line r r2 r3 p : List UInt8} {b1 b2 b3 : Bool} {n : Int} (hw1 : b1 = false → CutW line refusedW r) (hw2 : ∀ v q, CutW line v q → b1 = false)
    (h2 : NumR r b1 n r2 b2) (hn : inI n) (h3 : PathR r2 b2 p r3 b3) : (b3 = false ∧ r3 = [] → RefLineL line n p) ∧ (∀ u q, RefLineL line u q → b3 = false ∧ r3 = []) := by
  constructor
  · rintro ⟨hb, hr⟩
    obtain ⟨x3, y3⟩ := h3.1 hb
    obtain ⟨x2, y2⟩ := h2.1 x3
    refine ⟨hn, ?_⟩
    rw [hr, List.append_nil] at y3
    refine (cutW_line refusedW_no (itoa_isW n)).1 ⟨r, hw1 x2, ?_⟩
    exact (cutW_line (itoa_no n) (isW_quoted p)).1 ⟨r2, y2, by rw [y3]; simp [lineW, behindW]⟩
  · rintro u q ⟨hu, hl⟩
    obtain ⟨r', k1, k2⟩ := (cutW_line refusedW_no (itoa_isW u)).2 hl
    have x1 := hw2 _ _ k1
    obtain ⟨_, rfl⟩ := cutW_uniq k1 (hw1 x1)
    obtain ⟨q2, k3, k4⟩ := (cutW_line (ws := []) (itoa_no u) (isW_quoted q)).2 k2
    obtain ⟨x2, _, rfl⟩ := h2.both x1 hu k3
    have k5 : q2 = quotedL q ++ [] := by rw [k4]; simp [lineW, behindW]
    obtain ⟨x3, _, h⟩ := h3.both x2 k5
    exact ⟨x3, h.symm⟩
/-- A step's line. -/
theorem step_read {line r r3 : List UInt8} {b1 b3 : Bool} {s : StepL} {k : Nat} (hk : k ≤ 10) (hs : s.kind = k) (hf : s.fits) (hz : inI s.size) (hm : inI s.time) (hw1 : b1 = false → CutW line (stepW.getD k []) r) (hw2 : ∀ v q, CutW line v q → b1 = false)
    (h : StepR k r b1 s r3 b3) : (b3 = false ∧ r3 = [] → StepLineL line s) ∧ (∀ t, StepLineL line t → b3 = false ∧ r3 = []) := by
  constructor
  · rintro ⟨hb, hr⟩
    obtain ⟨x1, hR⟩ := h.1 hb hr
    refine ⟨hf, hz, hm, ?_⟩
    refine (reads_iff (by rw [hs]; exact stepW_no k hk)).1 ⟨r, ?_, hR⟩
    rw [hs]
    exact hw1 x1
  · rintro t ⟨tf, tz, tm, tl⟩
    obtain ⟨r', k1, k2⟩ := (reads_iff (stepW_no t.kind tf.2.1)).2 tl
    have x1 := hw2 _ _ k1
    obtain ⟨k3, rfl⟩ := cutW_uniq k1 (hw1 x1)
    have hkk : t.kind = k := stepW_inj t.kind (by have := tf.2.1; omega) k (by omega) k3
    exact h.2 x1 t hkk tz tm k2
/-- The first word of a line that tells something. -/
theorem first_of_step {line s r : List UInt8} {b1 : Bool} {t : StepL} (hw1 : b1 = false → CutW line s r) (hw2 : ∀ v q, CutW line v q → b1 = false) (ht : StepLineL line t) : s = stepW.getD t.kind [] := by
  obtain ⟨tf, _, _, tl⟩ := ht
  obtain ⟨r', k1, _⟩ := (reads_iff (stepW_no t.kind tf.2.1)).2 tl
  exact (cutW_uniq (hw1 (hw2 _ _ k1)) k1).1
theorem first_of_ref {line s r : List UInt8} {b1 : Bool} {u : Int} {q : List UInt8} (hw1 : b1 = false → CutW line s r) (hw2 : ∀ v q, CutW line v q → b1 = false) (ht : RefLineL line u q) : s = refusedW := by
  obtain ⟨r', k1, _⟩ := (cutW_line refusedW_no (itoa_isW u)).2 ht.2
  exact (cutW_uniq (hw1 (hw2 _ _ k1)) k1).1
end Wh
