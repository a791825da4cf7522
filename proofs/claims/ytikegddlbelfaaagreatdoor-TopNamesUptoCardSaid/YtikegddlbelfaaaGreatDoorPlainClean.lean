/-
  What Clean does, in plain Lean.
-/
import Derived.Test.YtikegddlbelfaaaGreatDoorPlain2
namespace Wh
open Go

/-- The parts that are left; none: a '..' has nothing before it. -/
def cleanGo : List ByteArray → List ByteArray → Option (List ByteArray)
  | [], out => some out
  | x :: xs, out =>
    if x.toList.isEmpty || x.toList == [46] then cleanGo xs out
    else if x.toList == [46, 46] then (if out.length = 0 then none else cleanGo xs out.dropLast)
    else cleanGo xs (out ++ [x])

def cleanTextOf : Option (List ByteArray) → ByteArray
  | none => ⟨#[]⟩
  | some out => joinText out
def cleanErrOf : Option (List ByteArray) → Int
  | none => 3
  | some out => joinErr out
def cleanText (s : ByteArray) : ByteArray := cleanTextOf (cleanGo (pieces 47 s) [])
def cleanErr (s : ByteArray) : Int := cleanErrOf (cleanGo (pieces 47 s) [])

section
variable {xs out : List ByteArray} {k : Nat} {x : ByteArray} {r : Option (List ByteArray)}
theorem drop_cons (hx : xs[k]? = some x) : xs.drop k = x :: xs.drop (k + 1) := by
  have h := List.getElem?_eq_some_iff.1 hx
  rw [List.drop_eq_getElem_cons h.1, h.2]
theorem cleanGo_skip (hx : xs[k]? = some x) (h : x.toList.isEmpty = true ∨ (x.toList == [46]) = true) (hg : cleanGo (xs.drop k) out = r) : cleanGo (xs.drop (k + 1)) out = r := by
  rw [drop_cons hx, cleanGo, if_pos (by rcases h with h | h <;> simp [h])] at hg
  exact hg
theorem cleanGo_fail (hx : xs[k]? = some x) (h1 : x.toList.isEmpty = false) (h2 : (x.toList == [46]) = false) (h3 : (x.toList == [46, 46]) = true) (h4 : out.length = 0) (hg : cleanGo (xs.drop k) out = r) : r = none := by
  rw [drop_cons hx, cleanGo, if_neg (by simp [h1, h2]), if_pos h3, if_pos h4] at hg
  exact hg.symm
theorem cleanGo_pop (hx : xs[k]? = some x) (h1 : x.toList.isEmpty = false) (h2 : (x.toList == [46]) = false) (h3 : (x.toList == [46, 46]) = true) (h4 : ¬ out.length = 0) (hg : cleanGo (xs.drop k) out = r) :
    cleanGo (xs.drop (k + 1)) out.dropLast = r := by
  rw [drop_cons hx, cleanGo, if_neg (by simp [h1, h2]), if_pos h3, if_neg h4] at hg
  exact hg
theorem cleanGo_keep (hx : xs[k]? = some x) (h1 : x.toList.isEmpty = false) (h2 : (x.toList == [46]) = false) (h3 : (x.toList == [46, 46]) = false) (hg : cleanGo (xs.drop k) out = r) :
    cleanGo (xs.drop (k + 1)) (out ++ [x]) = r := by
  rw [drop_cons hx, cleanGo, if_neg (by simp [h1, h2]), if_neg (by simp [h3])] at hg
  exact hg
end

/-- How long the joined text of some parts is, at the most. -/
def total (xs : List ByteArray) : Nat := (xs.map (fun x => x.size + 1)).sum

theorem total_append (a b : List ByteArray) : total (a ++ b) = total a + total b := by simp [total]

theorem total_dropLast (a : List ByteArray) : total a.dropLast ≤ total a := by
  by_cases h : a = []
  · simp [h]
  · conv => rhs; rw [← List.dropLast_concat_getLast h]
    rw [total_append]
    omega

theorem cleanGo_total : ∀ {xs out r : List ByteArray}, cleanGo xs out = some r → total r ≤ total xs + total out
  | [], out, r, h => by
    simp [cleanGo] at h
    subst h
    omega
  | x :: xs, out, r, h => by
    have e : total (x :: xs) = x.size + 1 + total xs := by simp [total]
    rw [cleanGo] at h
    split at h
    · have := cleanGo_total h; omega
    · split at h
      · split at h
        · cases h
        · have := cleanGo_total h
          have := total_dropLast out
          omega
      · have h2 := cleanGo_total h
        rw [total_append] at h2
        have : total [x] = x.size + 1 := by simp [total]
        omega

theorem joinTail_length (c : UInt8) : ∀ r : List ByteArray, (Lib.joinTail [c] (r.map (·.data.toList))).length = total r
  | [] => rfl
  | x :: r => by
    have := joinTail_length c r
    simp only [Lib.joinTail, List.map_cons, List.flatten_cons, List.length_append, List.cons_append, List.nil_append, List.length_cons] at this ⊢
    rw [this]
    simp [total]
    omega

theorem join_length (c : UInt8) (xs : List ByteArray) : (Lib.join (xs.map (·.data.toList)) [c]).length ≤ total xs := by
  cases xs with
  | nil => simp [Lib.join_nil, total]
  | cons x r =>
    rw [List.map_cons, Lib.join_cons, List.length_append, joinTail_length]
    simp [total]

theorem join_length_eq (c : UInt8) (x : ByteArray) (r : List ByteArray) : (Lib.join ((x :: r).map (·.data.toList)) [c]).length + 1 = total (x :: r) := by
  rw [List.map_cons, Lib.join_cons, List.length_append, joinTail_length]
  simp [total]
  omega

theorem total_pieces (c : UInt8) (s : ByteArray) : total (pieces c s) = s.size + 1 := by
  cases h : pieces c s with
  | nil => have := pieces_pos c s; rw [h] at this; simp at this
  | cons x r =>
    rw [← join_length_eq c x r, ← h, pieces_join, ← Lib.size_eq]

theorem clean_len {s : ByteArray} {out : List ByteArray} (h : cleanGo (pieces 47 s) [] = some out) : (Lib.join (out.map (·.data.toList)) [47]).length ≤ s.size + 1 := by
  have h1 := cleanGo_total h
  have h2 := join_length 47 out
  rw [total_pieces] at h1
  have : total [] = 0 := rfl
  omega
end Wh
