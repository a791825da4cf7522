/-
  Clean of a cleaned text, in plain Lean.
-/
import Derived.Test.YtikegddlbelfaaaGreatDoorPlainClean
namespace Wh
open Go

theorem containsAny_eq (chars : List UInt8) : ∀ l : List UInt8, Lib.containsAny l chars = l.any (fun b => chars.contains b)
  | [] => rfl
  | b :: l => by
    have ih := containsAny_eq chars l
    unfold Lib.containsAny at ih ⊢
    rw [Lib.indexAny, List.any_cons, ← ih]
    cases h : chars.contains b
    · have hge := Lib.indexAny_ge chars l
      simp only [Bool.false_eq_true, if_false, Bool.false_or]
      by_cases h2 : Lib.indexAny l chars = -1
      · simp [h2]
      · rw [if_neg (by simpa using h2)]
        have h3 : 0 ≤ Lib.indexAny l chars := by omega
        have h4 : 0 ≤ Lib.indexAny l chars + 1 := by omega
        simp [h3, h4]
    · simp

theorem name_facts {l : List UInt8} (h : isName l = true) : l.isEmpty = false ∧ l.length ≤ 255 ∧ (l == [46]) = false ∧ (l == [46, 46]) = false ∧ (∀ b ∈ l, b ≠ 0) ∧ (∀ b ∈ l, b ≠ 47) := by
  unfold isName at h
  simp only [Bool.and_eq_true, Bool.not_eq_true', decide_eq_true_eq] at h
  obtain ⟨⟨⟨⟨h1, h2⟩, h3⟩, h4⟩, h5⟩ := h
  rw [containsAny_eq, List.any_eq_false] at h5
  refine ⟨h1, h2, ?_, ?_, ?_, ?_⟩
  · simpa using h3
  · simpa using h4
  · intro b hb hb0
    subst hb0
    exact h5 _ hb (by decide)
  · intro b hb hb0
    subst hb0
    exact h5 _ hb (by decide)

theorem splitC_join {c : UInt8} : ∀ {x : List UInt8} {r : List (List UInt8)}, (∀ y ∈ x :: r, ∀ b ∈ y, b ≠ c) → splitC c (Lib.join (x :: r) [c]) = x :: r
  | x, [], h => by
    rw [Lib.join_one]
    exact splitC_no (h x (by simp))
  | x, y :: r, h => by
    have ih := splitC_join (c := c) (x := y) (r := r) (fun z hz => h z (by simp [hz]))
    have e : Lib.join (x :: y :: r) [c] = x ++ c :: Lib.join (y :: r) [c] := by
      rw [Lib.join_cons, Lib.join_cons]
      simp [Lib.joinTail]
    rw [e, splitC_append (h x (by simp)), ih]

theorem byteArray_ext {a b : ByteArray} (h : a.data.toList = b.data.toList) : a = b := by
  obtain ⟨x⟩ := a
  obtain ⟨y⟩ := b
  congr
  exact Array.toList_inj.1 h

theorem map_data_inj : ∀ {xs ys : List ByteArray}, xs.map (·.data.toList) = ys.map (·.data.toList) → xs = ys
  | [], [], _ => rfl
  | [], _ :: _, h => by simp at h
  | _ :: _, [], h => by simp at h
  | x :: xs, y :: ys, h => by
    simp only [List.map_cons, List.cons.injEq] at h
    rw [byteArray_ext h.1, map_data_inj h.2]

theorem pieces_of {c : UInt8} {s : ByteArray} {xs : List ByteArray} (h : splitC c s.data.toList = xs.map (·.data.toList)) : pieces c s = xs :=
  map_data_inj (by rw [pieces_data, h])

theorem cleanGo_names : ∀ {xs out : List ByteArray}, xs.all (fun x => isName x.data.toList) = true → cleanGo xs out = some (out ++ xs)
  | [], out, _ => by simp [cleanGo]
  | x :: xs, out, h => by
    rw [List.all_cons, Bool.and_eq_true] at h
    obtain ⟨f1, _, f3, f4, _⟩ := name_facts h.1
    rw [cleanGo, if_neg (by rw [Lib.toList_data, f1, f3]; decide), if_neg (by rw [Lib.toList_data, f4]; decide), cleanGo_names h.2]
    simp

theorem joinErr_zero {out : List ByteArray} (h : joinErr out = 0) : out.all (fun x => isName x.data.toList) = true ∧ (Lib.join (out.map (·.data.toList)) [47]).length ≤ 1024 := by
  unfold joinErr at h
  split at h
  · rename_i h1
    split at h
    · exact ⟨h1, by assumption⟩
    · omega
  · omega

/-- A joined text of names is a path, and its pieces are they. -/
theorem joined_path {x : ByteArray} {r : List ByteArray} (h : (x :: r).all (fun x => isName x.data.toList) = true) (hl : (Lib.join ((x :: r).map (·.data.toList)) [47]).length ≤ 1024) :
    isPath (Lib.join ((x :: r).map (·.data.toList)) [47]) = true ∧ splitC 47 (Lib.join ((x :: r).map (·.data.toList)) [47]) = (x :: r).map (·.data.toList) := by
  have hsp : splitC 47 (Lib.join ((x :: r).map (·.data.toList)) [47]) = (x :: r).map (·.data.toList) := by
    rw [List.map_cons]
    apply splitC_join
    intro y hy b hb
    rw [← List.map_cons (f := fun x : ByteArray => x.data.toList), List.mem_map] at hy
    obtain ⟨z, hz, rfl⟩ := hy
    exact (name_facts (List.all_eq_true.1 h z hz)).2.2.2.2.2 b hb
  refine ⟨?_, hsp⟩
  unfold isPath
  rw [hsp, List.all_map]
  simp only [Bool.or_eq_true, Bool.and_eq_true, decide_eq_true_eq]
  exact .inr ⟨hl, h⟩

theorem pieces_empty : pieces 47 ⟨#[]⟩ = [⟨#[]⟩] := pieces_of rfl

theorem clean_empty : cleanText ⟨#[]⟩ = ⟨#[]⟩ ∧ cleanErr ⟨#[]⟩ = 0 ∧ isPath (⟨#[]⟩ : ByteArray).data.toList = true := by
  have h : cleanGo (pieces 47 ⟨#[]⟩) [] = some [] := by
    rw [pieces_empty, cleanGo, if_pos (by rw [Lib.toList_data]; rfl)]
    rfl
  refine ⟨?_, ?_, rfl⟩
  · rw [cleanText, h]; rfl
  · rw [cleanErr, h]; rfl

theorem joinText_again {out : List ByteArray} : cleanText (joinText out) = joinText out ∧ cleanErr (joinText out) = 0 ∧ isPath (joinText out).data.toList = true := by
  by_cases he : joinErr out = 0
  · obtain ⟨h1, h2⟩ := joinErr_zero he
    have hj := (join_good h1 h2).1
    cases out with
    | nil =>
      have e0 : joinText [] = ⟨#[]⟩ := by rw [hj]; rfl
      rw [e0]
      exact clean_empty
    | cons x r =>
      obtain ⟨p1, p2⟩ := joined_path h1 h2
      have ed : (joinText (x :: r)).data.toList = Lib.join ((x :: r).map (·.data.toList)) [47] := by rw [hj]
      have hp : pieces 47 (joinText (x :: r)) = x :: r := pieces_of (by rw [ed]; exact p2)
      have hg : cleanGo (pieces 47 (joinText (x :: r))) [] = some (x :: r) := by rw [hp, cleanGo_names h1]; rfl
      refine ⟨?_, ?_, by rw [ed]; exact p1⟩
      · rw [cleanText, hg]; rfl
      · rw [cleanErr, hg]; exact he
  · have e0 : joinText out = ⟨#[]⟩ := by rw [joinText, if_neg he]
    rw [e0]
    exact clean_empty

theorem clean_again (s : ByteArray) : cleanText (cleanText s) = cleanText s ∧ cleanErr (cleanText s) = 0 ∧ isPath (cleanText s).data.toList = true := by
  unfold cleanText
  cases cleanGo (pieces 47 s) [] with
  | none => exact clean_empty
  | some out => exact joinText_again
end Wh
