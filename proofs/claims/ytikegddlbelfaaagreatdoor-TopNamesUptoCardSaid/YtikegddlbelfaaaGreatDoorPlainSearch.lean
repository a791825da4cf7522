/-
  A search among names that rise, in plain Lean.
-/
import Derived.Test.YtikegddlbelfaaaGreatDoorPlainEnc
namespace Wh
open Go

/-- Is a text among some? -/
def memB (xs : List ByteArray) (x : ByteArray) : Bool := xs.any (fun y => y.data.toList == x.data.toList)

theorem bytesLess_irrefl : ∀ a : List UInt8, Op.bytesLess a a = false
  | [] => rfl
  | x :: a => by
    rw [Op.bytesLess, bytesLess_irrefl a]
    simp

theorem bytesLess_trans : ∀ a b c : List UInt8, Op.bytesLess a b = true → Op.bytesLess b c = true → Op.bytesLess a c = true
  | _, [], _ => by simp [Op.bytesLess]
  | _, _ :: _, [] => by simp [Op.bytesLess]
  | [], _ :: _, _ :: _ => by simp [Op.bytesLess]
  | x :: a, y :: b, z :: c => by
    have ih := bytesLess_trans a b c
    simp only [Op.bytesLess, Bool.or_eq_true, Bool.and_eq_true, decide_eq_true_eq, beq_iff_eq]
    intro h1 h2
    rcases h1 with h1 | ⟨rfl, h1⟩
    · rcases h2 with h2 | ⟨rfl, h2⟩
      · left
        rw [UInt8.lt_iff_toNat_lt] at *
        omega
      · exact .inl h1
    · rcases h2 with h2 | ⟨rfl, h2⟩
      · exact .inl h2
      · exact .inr ⟨rfl, ih h1 h2⟩

section
variable {xs : List ByteArray} {x y : ByteArray} {i j h : Nat}
theorem cut_low (hs : Sorted xs) (hc : Cut xs x i j) (hy : xs[h]? = some y) (hl : Op.bytesLess y.toList x.toList = true) : Cut xs x (h + 1) j := by
  refine ⟨fun t z ht hz => ?_, hc.2⟩
  rcases Nat.lt_or_ge t h with h1 | h1
  · exact bytesLess_trans _ _ _ (hs t h z y h1 hz hy) hl
  · obtain rfl : t = h := by omega
    rw [hy] at hz
    cases hz
    exact hl
theorem cut_high (hs : Sorted xs) (hc : Cut xs x i j) (hy : xs[h]? = some y) (hl : Op.bytesLess y.toList x.toList = false) : Cut xs x i h := by
  refine ⟨hc.1, fun t z ht hz => ?_⟩
  rcases Nat.lt_or_ge h t with h1 | h1
  · cases hb : Op.bytesLess z.toList x.toList with
    | false => rfl
    | true =>
      have := bytesLess_trans _ _ _ (hs h t y z h1 hy hz) hb
      rw [this] at hl
      cases hl
  · obtain rfl : t = h := by omega
    rw [hy] at hz
    cases hz
    exact hl
/-- Where a search ends: the text is there, or nowhere. -/
theorem cut_end (hs : Sorted xs) (hc : Cut xs x i i) : memB xs x = match xs[i]? with | none => false | some y => (y.toList == x.toList) := by
  unfold memB
  cases hy : xs[i]? with
  | none =>
    rw [List.any_eq_false]
    intro z hz he
    obtain ⟨t, ht⟩ := List.getElem?_of_mem hz
    have e : z.toList = x.toList := by rw [Lib.toList_data, Lib.toList_data]; exact beq_iff_eq.1 he
    have htl := (List.getElem?_eq_some_iff.1 ht).1
    have hil := List.getElem?_eq_none_iff.1 hy
    have := hc.1 t z (by omega) ht
    rw [e, bytesLess_irrefl] at this
    cases this
  | some y =>
    show _ = (y.toList == x.toList)
    cases he : (y.toList == x.toList) with
    | true =>
      rw [List.any_eq_true]
      exact ⟨y, List.mem_of_getElem? hy, by rw [← Lib.toList_data, ← Lib.toList_data]; exact he⟩
    | false =>
      rw [List.any_eq_false]
      intro z hz he2
      obtain ⟨t, ht⟩ := List.getElem?_of_mem hz
      have e : z.toList = x.toList := by rw [Lib.toList_data, Lib.toList_data]; exact beq_iff_eq.1 he2
      rcases Nat.lt_trichotomy t i with h1 | h1 | h1
      · have := hc.1 t z h1 ht
        rw [e, bytesLess_irrefl] at this
        cases this
      · subst h1
        rw [hy] at ht
        cases ht
        rw [e] at he
        simp at he
      · have h2 := hs i t y z h1 hy ht
        rw [e] at h2
        have h3 := hc.2 i y (Nat.le_refl _) hy
        rw [h2] at h3
        cases h3
end

/-- Right names rise. -/
theorem namesErr_rise {xs : List ByteArray} : ∀ (k : Nat), namesErrAt xs k = 0 → ∀ (i : Nat) (a b : ByteArray), k ≤ i + 1 → xs[i]? = some a → xs[i + 1]? = some b → Op.bytesLess a.toList b.toList = true := by
  intro k hk i a b hki ha hb
  have step : ∀ d, ∀ k, namesErrAt xs k = 0 → k + d = i + 1 → namesErrAt xs (i + 1) = 0 := by
    intro d
    induction d with
    | zero => intro k hk e; rw [← e]; exact hk
    | succ d ih =>
      intro k hk e
      have hlt : k < xs.length := by have := (List.getElem?_eq_some_iff.1 hb).1; omega
      obtain ⟨n, hn⟩ : ∃ n, xs[k]? = some n := ⟨_, List.getElem?_eq_getElem hlt⟩
      cases hok : nameOk n.data.toList with
      | false => rw [namesErr_name hn hok] at hk; omega
      | true =>
        rcases k with _ | k
        · exact ih 1 (by rw [← namesErr_first hn hok]; exact hk) (by omega)
        · obtain ⟨p, hp⟩ : ∃ p, xs[k]? = some p := ⟨_, List.getElem?_eq_getElem (by omega)⟩
          cases hl : Op.bytesLess p.toList n.toList with
          | false => rw [namesErr_order hn hp hok hl] at hk; omega
          | true => exact ih (k + 1 + 1) (by rw [← namesErr_next hn hp hok hl]; exact hk) (by omega)
  have h1 := step (i + 1 - k) k hk (by omega)
  cases hok : nameOk b.data.toList with
  | false => rw [namesErr_name hb hok] at h1; omega
  | true =>
    cases hl : Op.bytesLess a.toList b.toList with
    | true => rfl
    | false => rw [namesErr_order hb ha hok hl] at h1; omega

theorem sorted_of {xs : List ByteArray} (h : namesErrAt xs 0 = 0) : Sorted xs := by
  intro i j a b hij ha hb
  obtain ⟨d, rfl⟩ : ∃ d, j = i + 1 + d := ⟨j - i - 1, by omega⟩
  clear hij
  induction d generalizing b with
  | zero => exact namesErr_rise 0 h i a b (by omega) ha hb
  | succ d ih =>
    have hlt := (List.getElem?_eq_some_iff.1 hb).1
    obtain ⟨m, hm⟩ : ∃ m, xs[i + 1 + d]? = some m := ⟨_, List.getElem?_eq_getElem (by omega)⟩
    exact bytesLess_trans _ _ _ (ih m hm) (namesErr_rise 0 h (i + 1 + d) m b (by omega) hm hb)

theorem encErr_parts {x : Enc} (h : encErr x = 0) : [x.forbid, x.head, x.tail].all (fun s => formOk x.cs s.data.toList) = true ∧ namesErrAt x.names 0 = 0 ∧ 3 ≤ x.max ∧ x.max ≤ 255 := by
  unfold encErr at h
  split at h
  · omega
  · rename_i h1
    split at h
    · omega
    · rename_i h2
      split at h
      · omega
      · rename_i h3
        refine ⟨by simpa using h1, by simpa using h2, by omega, by omega⟩
end Wh
