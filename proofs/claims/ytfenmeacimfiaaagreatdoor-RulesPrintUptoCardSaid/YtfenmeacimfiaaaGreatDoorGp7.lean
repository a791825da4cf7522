/-
  Ranges in order, joined where they overlap or meet, in plain words.
-/
import Derived.Test.YtfenmeacimfiaaaGreatDoorGp1
namespace Wh.G

theorem canon_add : ∀ (out : List (Int × Int)) (x : Int × Int), Canon out → (∀ y, out.getLast? = some y → y.2 + 1 < x.1) → x.1 ≤ x.2 → Canon (out ++ [x])
  | [], x, _, _, hx => hx
  | [y], x, hc, hl, hx => ⟨hc, hl y rfl, hx⟩
  | y :: z :: r, x, hc, hl, hx => ⟨hc.1, hc.2.1, canon_add (z :: r) x hc.2.2 (fun u hu => hl u (by rw [List.getLast?_cons_cons]; exact hu)) hx⟩
theorem canon_last : ∀ (ys : List (Int × Int)) (y : Int × Int) (v : Int), Canon (ys ++ [y]) → y.1 ≤ v → Canon (ys ++ [(y.1, v)])
  | [], y, v, _, h => h
  | [z], y, v, hc, h => ⟨hc.1, hc.2.1, h⟩
  | z :: u :: r, y, v, hc, h => ⟨hc.1, hc.2.1, canon_last (u :: r) y v hc.2.2 h⟩
theorem canon_part : ∀ (ys : List (Int × Int)) (y : Int × Int), Canon (ys ++ [y]) → y.1 ≤ y.2
  | [], _, h => h
  | [_], _, h => h.2.2
  | _ :: u :: r, y, h => canon_part (u :: r) y h.2.2
/-- What the first ranges have become. -/
structure JInv (pre out : List (Int × Int)) : Prop where
  canon : Canon out
  same : ∀ n, In n out ↔ In n pre
  first : ∀ r ∈ out, ∃ q ∈ pre, r.1 = q.1
  last : ∀ r ∈ out, ∃ q ∈ pre, r.2 = q.2
  len : out.length ≤ pre.length
theorem JInv.nil : JInv [] [] := ⟨trivial, fun _ => Iff.rfl, fun _ h => (by cases h), fun _ h => (by cases h), Nat.le_refl _⟩
theorem JInv.add {pre out : List (Int × Int)} (h : JInv pre out) {x : Int × Int} (hl : ∀ y, out.getLast? = some y → y.2 + 1 < x.1) (hx : x.1 ≤ x.2) : JInv (pre ++ [x]) (out ++ [x]) := by
  refine ⟨canon_add _ _ h.canon hl hx, fun n => ?_, fun r hr => ?_, fun r hr => ?_, by have := h.len; simp; omega⟩
  · rw [in_app, in_app, h.same]
  · rcases List.mem_append.1 hr with hr | hr
    · obtain ⟨q, hq, e⟩ := h.first r hr
      exact ⟨q, by simp [hq], e⟩
    · exact ⟨x, by simp, by rw [List.mem_singleton.1 hr]⟩
  · rcases List.mem_append.1 hr with hr | hr
    · obtain ⟨q, hq, e⟩ := h.last r hr
      exact ⟨q, by simp [hq], e⟩
    · exact ⟨x, by simp, by rw [List.mem_singleton.1 hr]⟩
theorem JInv.join {pre ys : List (Int × Int)} {y x : Int × Int} (h : JInv pre (ys ++ [y])) (h1 : y.1 ≤ x.1) (h2 : x.1 ≤ y.2 + 1) (hx : x.1 ≤ x.2) : JInv (pre ++ [x]) (ys ++ [(y.1, max y.2 x.2)]) := by
  have hy := canon_part ys y h.canon
  refine ⟨canon_last ys y _ h.canon (by omega), fun n => ?_, fun r hr => ?_, fun r hr => ?_, by have := h.len; simp at this ⊢; omega⟩
  · have hn := h.same n
    rw [in_app] at hn
    rw [in_app, in_app, ← hn, in_cons, in_cons, in_cons]
    dsimp only
    constructor
    · rintro (h | h | h)
      · exact .inl (.inl h)
      · by_cases h3 : n ≤ y.2
        · exact .inl (.inr (.inl ⟨h.1, h3⟩))
        · exact .inr (.inl ⟨by omega, by omega⟩)
      · exact absurd h in_nil
    · rintro ((h | h | h) | h | h)
      · exact .inl h
      · exact .inr (.inl ⟨h.1, by omega⟩)
      · exact absurd h in_nil
      · exact .inr (.inl ⟨by omega, by omega⟩)
      · exact absurd h in_nil
  · rcases List.mem_append.1 hr with hr | hr
    · obtain ⟨q, hq, e⟩ := h.first r (by simp [hr])
      exact ⟨q, by simp [hq], e⟩
    · obtain ⟨q, hq, e⟩ := h.first y (by simp)
      rw [List.mem_singleton.1 hr]
      exact ⟨q, by simp [hq], e⟩
  · rcases List.mem_append.1 hr with hr | hr
    · obtain ⟨q, hq, e⟩ := h.last r (by simp [hr])
      exact ⟨q, by simp [hq], e⟩
    · rw [List.mem_singleton.1 hr]
      dsimp only
      rcases (by omega : max y.2 x.2 = y.2 ∨ max y.2 x.2 = x.2) with e | e
      · obtain ⟨q, hq, e2⟩ := h.last y (by simp)
        exact ⟨q, by simp [hq], by rw [e, e2]⟩
      · exact ⟨x, by simp, e⟩
end Wh.G
