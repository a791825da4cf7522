/-
  A path decoded name by name, in plain Lean.
-/
import Derived.Test.YtbcadgooelcnhaaDoorPlainDec
namespace Wh
open Go

/-- The names of a path, decoded as far as they can be read. -/
def decsOf (x : Enc) (s : ByteArray) : List ByteArray := (namesOf s).map (fun n => ⟨((decS x.cs n.data.toList).getD []).toArray⟩)

/-- The names that were decoded, as a path. -/
def decJoin (x : Enc) (s : ByteArray) : List UInt8 := Lib.join ((decsOf x s).map (·.data.toList)) [47]

theorem encName_pos (x : Enc) {l : List UInt8} (h : l ≠ []) : encName x l ≠ [] := by
  intro e
  have h1 := (encFrom_length x (x.names.any (fun y => y.data.toList == lower l)) l.length 0 l).1
  unfold encName at e
  rw [e] at h1
  exact h (List.length_eq_zero_iff.1 (by simpa using h1))

theorem namesOf_free {q n : ByteArray} (h : n ∈ namesOf q) : ∀ b ∈ n.data.toList, b ≠ 47 := by
  unfold namesOf at h
  split at h
  · cases h
  · exact splitC_free (l := q.data.toList) (by rw [← pieces_data]; exact List.mem_map_of_mem h)

theorem names_ne {q n : ByteArray} (hp : isPath q.data.toList = true) (h : n ∈ namesOf q) : n.data.toList ≠ [] := by
  have := List.all_eq_true.1 (namesOf_names hp) n h
  intro e
  simp [isName, e] at this

theorem namesOf_of_split {s : ByteArray} {ls : List ByteArray} (h0 : s.data.toList ≠ []) (h : splitC 47 s.data.toList = ls.map (·.data.toList)) : namesOf s = ls := by
  have : s.data.toList.isEmpty = false := by simpa using h0
  rw [namesOf_some this]
  exact map_data_inj (by rw [pieces_data, h])

theorem good_names {x : Enc} {s q : ByteArray} (h : goodB x s q = true) : namesOf s = encsOf x q := by
  obtain ⟨h1, h2, h3⟩ := goodB_iff.1 h
  have h4 : s.data.toList = Lib.join ((encsOf x q).map (·.data.toList)) [47] := by rw [← h3, encText_join h2]; rfl
  have hfree : ∀ y ∈ (encsOf x q).map (·.data.toList), (∀ b ∈ y, b ≠ 47) ∧ y ≠ [] := by
    intro y hy
    rw [encs_data, List.mem_map] at hy
    obtain ⟨l, hl, rfl⟩ := hy
    obtain ⟨n, hn, rfl⟩ := List.mem_map.1 hl
    exact ⟨encName_slash x (namesOf_free hn), encName_pos x (names_ne h1 hn)⟩
  cases he : encsOf x q with
  | nil =>
    rw [he] at h4
    have : s.data.toList.isEmpty = true := by rw [h4]; rfl
    exact namesOf_none this
  | cons e r =>
    rw [he] at h4 hfree
    refine namesOf_of_split ?_ ?_
    · rw [h4, List.map_cons, Lib.join_cons]
      have := (hfree e.data.toList (by simp)).2
      simp [this]
    · rw [h4, List.map_cons]
      exact splitC_join (fun y hy => (hfree y (by simpa using hy)).1)

theorem good_decs {x : Enc} {s q : ByteArray} (h : goodB x s q = true) : decsOf x s = namesOf q := by
  unfold decsOf
  rw [good_names h]
  unfold encsOf
  rw [List.map_map]
  conv => rhs; rw [← List.map_id (namesOf q)]
  apply List.map_congr_left
  intro n _
  simp only [Function.comp_apply]
  rw [decS_name]
  rfl

theorem good_join {x : Enc} {s q : ByteArray} (h : goodB x s q = true) : (⟨(decJoin x s).toArray⟩ : ByteArray) = q := by
  unfold decJoin
  rw [good_decs h, namesOf_join]

theorem decN_piece {x : Enc} {s n : ByteArray} (hn : n ∈ namesOf s) (h : decS x.cs n.data.toList = none) : decErrP x s = 6 ∧ decText x s = ⟨#[]⟩ := by
  apply dec_bad
  intro q
  cases hg : goodB x s q with
  | false => rfl
  | true =>
    rw [good_names hg] at hn
    unfold encsOf at hn
    obtain ⟨m, _, rfl⟩ := List.mem_map.1 hn
    rw [decS_name] at h
    cases h

theorem decN_len {x : Enc} {s : ByteArray} (h : (namesOf ⟨(decJoin x s).toArray⟩).length ≠ (namesOf s).length) : decErrP x s = 6 ∧ decText x s = ⟨#[]⟩ := by
  apply dec_bad
  intro q
  cases hg : goodB x s q with
  | false => rfl
  | true =>
    rw [good_join hg, good_names hg, encsOf_length] at h
    exact absurd rfl h

theorem decN_no {x : Enc} {s : ByteArray} (h : goodB x s ⟨(decJoin x s).toArray⟩ = false) : decErrP x s = 6 ∧ decText x s = ⟨#[]⟩ := by
  apply dec_bad
  intro q
  cases hg : goodB x s q with
  | false => rfl
  | true =>
    rw [good_join hg] at h
    rw [h] at hg
    cases hg

theorem decN_path {x : Enc} {s : ByteArray} (h : isPath (decJoin x s) = false) : decErrP x s = 6 ∧ decText x s = ⟨#[]⟩ := by
  apply decN_no
  simp [goodB, h]

theorem decS_length (cs : Bool) : ∀ (n : Nat) (l o : List UInt8), l.length ≤ n → decS cs l = some o → o.length ≤ l.length
  | 0, l, o, hn, h => by
    obtain rfl : l = [] := List.length_eq_zero_iff.1 (by omega)
    rw [decS_nil] at h
    cases h
    simp
  | n + 1, [], o, hn, h => by
    rw [decS_nil] at h
    cases h
    simp
  | n + 1, c :: r, o, hn, h => by
    rw [decS.eq_def] at h
    simp only at h
    split at h
    · split at h
      · rename_i d e r'
        split at h
        · cases h
        · obtain ⟨o', ho, rfl⟩ := Option.map_eq_some_iff.1 h
          have := decS_length cs n r' o' (by simp at hn; omega) ho
          simp
          omega
      · cases h
    · split at h
      · split at h
        · rename_i d r'
          obtain ⟨o', ho, rfl⟩ := Option.map_eq_some_iff.1 h
          have := decS_length cs n r' o' (by simp at hn; omega) ho
          simp
          omega
        · cases h
      · obtain ⟨o', ho, rfl⟩ := Option.map_eq_some_iff.1 h
        have := decS_length cs n r o' (by simp at hn; omega) ho
        simp
        omega
end Wh
