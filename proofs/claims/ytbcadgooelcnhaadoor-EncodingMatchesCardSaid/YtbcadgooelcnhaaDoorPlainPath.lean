/-
  Encoded paths, in plain Lean.
-/
import Derived.Test.YtbcadgooelcnhaaDoorPlainCode
import Derived.Test.YtbcadgooelcnhaaDoorPlain2
import Derived.Test.YtbcadgooelcnhaaDoorPlainSearch
namespace Wh
open Go

/-- The names of a path, encoded. -/
def encsOf (x : Enc) (s : ByteArray) : List ByteArray := (namesOf s).map (fun n => ⟨(encName x n.data.toList).toArray⟩)

/-- Is an encoded name too long? -/
def longB (x : Enc) (e : ByteArray) : Bool := decide (x.max < (e.size : Int))

/-- The encoded path. -/
def encJoin (x : Enc) (s : ByteArray) : List UInt8 := Lib.join ((encsOf x s).map (·.data.toList)) [47]

def encErrP (x : Enc) (s : ByteArray) : Int := if (encsOf x s).any (longB x) then 2 else if 1024 < (encJoin x s).length then 2 else 0
def encText (x : Enc) (s : ByteArray) : ByteArray := if encErrP x s = 0 then ⟨(encJoin x s).toArray⟩ else ⟨#[]⟩

theorem encP_long {x : Enc} {s e : ByteArray} (he : e ∈ encsOf x s) (h : longB x e = true) : encErrP x s = 2 ∧ encText x s = ⟨#[]⟩ := by
  have h1 : (encsOf x s).any (longB x) = true := List.any_eq_true.2 ⟨e, he, h⟩
  have h2 : encErrP x s = 2 := by simp [encErrP, h1]
  exact ⟨h2, by simp [encText, h2]⟩

theorem encP_big {x : Enc} {s : ByteArray} (h : 1024 < (encJoin x s).length) : encErrP x s = 2 ∧ encText x s = ⟨#[]⟩ := by
  have h2 : encErrP x s = 2 := by
    unfold encErrP
    rw [if_pos h]
    split <;> rfl
  exact ⟨h2, by simp [encText, h2]⟩

theorem encP_good {x : Enc} {s : ByteArray} (h0 : ∀ e ∈ encsOf x s, longB x e = false) (h : ¬ 1024 < (encJoin x s).length) : encErrP x s = 0 ∧ encText x s = ⟨(encJoin x s).toArray⟩ := by
  have h1 : (encsOf x s).any (longB x) = false := by
    rw [List.any_eq_false]
    intro e he
    simp [h0 e he]
  have h2 : encErrP x s = 0 := by simp [encErrP, h1, h]
  exact ⟨h2, by simp [encText, h2]⟩

theorem encsOf_length (x : Enc) (s : ByteArray) : (encsOf x s).length = (namesOf s).length := by simp [encsOf]

theorem encsOf_at {x : Enc} {s n : ByteArray} {k : Nat} (h : (namesOf s)[k]? = some n) : (encsOf x s)[k]? = some ⟨(encName x n.data.toList).toArray⟩ := by
  simp [encsOf, h]

theorem encJoin_len {x : Enc} {s : ByteArray} (h : ∀ e ∈ encsOf x s, e.size ≤ 255) : (encJoin x s).length ≤ 256 * (encsOf x s).length := by
  refine Nat.le_trans (join_length 47 _) ?_
  generalize encsOf x s = l at *
  induction l with
  | nil => simp [total]
  | cons a l ih =>
    have h1 := h a (by simp)
    have h2 := ih (fun e he => h e (by simp [he]))
    simp only [total, List.map_cons, List.sum_cons, List.length_cons] at h2 ⊢
    omega

theorem name_size {l : List UInt8} (h : isName l = true) : l.length ≤ 255 := by
  rcases Nat.lt_or_ge 255 l.length with h1 | h1
  · rw [isName_long h1] at h; cases h
  · exact h1

theorem encErr_zero {x : Enc} (h : encErr x = 0) : [x.forbid, x.head, x.tail].all (fun s => formOk x.cs s.data.toList) = true ∧ namesErrAt x.names 0 = 0 ∧ 3 ≤ x.max ∧ x.max ≤ 255 := by
  by_cases h1 : [x.forbid, x.head, x.tail].all (fun s => formOk x.cs s.data.toList) = true
  · by_cases h2 : namesErrAt x.names 0 = 0
    · by_cases h3 : x.max < 3 ∨ 255 < x.max
      · rw [encErr_max h1 h2 h3] at h
        omega
      · exact ⟨h1, h2, by omega, by omega⟩
    · rw [encErr_names h1 h2] at h
      exact absurd h h2
  · rw [encErr_form (by simpa using h1)] at h
    omega
end Wh
