/-
  What a step's line tells, said by its words, kind by kind.
-/
import Derived.Test.YtfenmeacimfiaaaGreatDoorPlanC
namespace Wh
open Go

theorem inI_zero : inI 0 := ⟨by decide, by decide⟩
/-- The words behind the first, for a kind of step. -/
def Behind (k : Nat) (r : List (List UInt8)) (t : StepL) : Prop := t.kind = k ∧ t.fits ∧ inI t.size ∧ inI t.time ∧ stepWordsL t = stepW.getD k [] :: r
theorem behind_of {line : List UInt8} {r : List (List UInt8)} {k : Nat} {t : StepL} (hk : k ≤ 10) (hw : ∀ y ∈ stepW.getD k [] :: r, isW y) (hl : line = lineW (stepW.getD k [] :: r)) (h : StepLineL line t) : Behind k r t :=
  ⟨(stepW_inj k (by omega) t.kind (by have := h.1.2.1; omega) (kind_of hw hl h)).symm, h.1, h.2.1, h.2.2.1, (stepLine_words hw hl h).symm⟩
theorem of_behind {line : List UInt8} {r : List (List UInt8)} {k : Nat} {t : StepL} (hl : line = lineW (stepW.getD k [] :: r)) (h : Behind k r t) : StepLineL line t := ⟨h.2.1, h.2.2.1, h.2.2.2.1, by rw [h.2.2.2.2, hl]⟩
section
variable {k : Nat} {r : List (List UInt8)} {t : StepL}
theorem behind_two (h1 : (k == 2 || k == 3) = false) (h2 : (k == 4 || k == 5) = true) (h : Behind k r t) : r = [Lib.itoa t.size, Lib.itoa t.time, quotedL t.path] := by
  obtain ⟨rfl, _, _, _, h⟩ := h
  rw [words_two h1 h2] at h
  injection h with _ h
  exact h.symm
theorem behind_one (h1 : (k == 2 || k == 3) = false) (h2 : (k == 4 || k == 5) = false) (h3 : (k == 6) = true) (h : Behind k r t) : r = [Lib.itoa t.time, quotedL t.path] := by
  obtain ⟨rfl, _, _, _, h⟩ := h
  rw [words_one h1 h2 h3] at h
  injection h with _ h
  exact h.symm
theorem behind_none (h1 : (k == 2 || k == 3) = false) (h2 : (k == 4 || k == 5) = false) (h3 : (k == 6) = false) (h : Behind k r t) : r = [quotedL t.path] := by
  obtain ⟨rfl, _, _, _, h⟩ := h
  rw [words_none h1 h2 h3] at h
  injection h with _ h
  exact h.symm
theorem behind_to (h1 : (k == 2 || k == 3) = true) (h2 : (k == 4 || k == 5) = false) (h3 : (k == 6) = false) (h : Behind k r t) : r = [quotedL t.path, quotedL t.to] := by
  obtain ⟨rfl, _, _, _, h⟩ := h
  rw [words_to h1 h2 h3] at h
  injection h with _ h
  exact h.symm
theorem two_behind {z m : Int} {p : List UInt8} (h1 : (k == 2 || k == 3) = false) (h2 : (k == 4 || k == 5) = true) (hk : 1 ≤ k) (hk' : k ≤ 10) (hz : inI z) (hm : inI m) (hr : r = [Lib.itoa z, Lib.itoa m, quotedL p]) : Behind k r ⟨k, p, [], z, m⟩ := by
  refine ⟨rfl, ⟨hk, hk', fun _ => rfl, fun h => ?_, fun h => ?_⟩, hz, hm, by rw [words_two h1 h2, hr]⟩
  · simp only [StepL.has, h2] at h
    cases h
  · simp only [StepL.has, h2, Bool.true_or] at h
    cases h
theorem one_behind {m : Int} {p : List UInt8} (h1 : (k == 2 || k == 3) = false) (h2 : (k == 4 || k == 5) = false) (h3 : (k == 6) = true) (hk : 1 ≤ k) (hk' : k ≤ 10) (hm : inI m) (hr : r = [Lib.itoa m, quotedL p]) : Behind k r ⟨k, p, [], 0, m⟩ := by
  refine ⟨rfl, ⟨hk, hk', fun _ => rfl, fun _ => rfl, fun h => ?_⟩, inI_zero, hm, by rw [words_one h1 h2 h3, hr]⟩
  simp only [StepL.has, h2, h3, Bool.false_or] at h
  cases h
theorem none_behind {p : List UInt8} (h1 : (k == 2 || k == 3) = false) (h2 : (k == 4 || k == 5) = false) (h3 : (k == 6) = false) (hk : 1 ≤ k) (hk' : k ≤ 10) (hr : r = [quotedL p]) : Behind k r ⟨k, p, [], 0, 0⟩ :=
  ⟨rfl, ⟨hk, hk', fun _ => rfl, fun _ => rfl, fun _ => rfl⟩, inI_zero, inI_zero, by rw [words_none h1 h2 h3, hr]⟩
theorem to_behind {p q : List UInt8} (h1 : (k == 2 || k == 3) = true) (h2 : (k == 4 || k == 5) = false) (h3 : (k == 6) = false) (hk : 1 ≤ k) (hk' : k ≤ 10) (hr : r = [quotedL p, quotedL q]) : Behind k r ⟨k, p, q, 0, 0⟩ := by
  refine ⟨rfl, ⟨hk, hk', fun h => ?_, fun _ => rfl, fun _ => rfl⟩, inI_zero, inI_zero, by rw [words_to h1 h2 h3, hr]⟩
  simp only [StepL.has, h1] at h
  cases h
end
end Wh
