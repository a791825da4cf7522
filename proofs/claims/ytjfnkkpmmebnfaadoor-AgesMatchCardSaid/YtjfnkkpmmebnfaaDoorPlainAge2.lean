/-
  Plain law: ages: what is written is read.
-/
import Derived.Test.YtjfnkkpmmebnfaaDoorPlainAge
namespace Wh

/-- What is written, from a unit on. -/
def ageL : Nat → Nat → Nat → List UInt8
  | 0, _, _ => []
  | g + 1, k, n => if uSize k ≤ n then Go.Lib.decDigits (n / uSize k) ++ (uWord k ++ ageL g (k + 1) (n % uSize k)) else ageL g (k + 1) n

theorem ageL_head : ∀ (g k n : Nat), ∀ c, (ageL g k n).head? = some c → digit c = true
  | 0, _, _, c, h => by simp [ageL] at h
  | g + 1, k, n, c, h => by
    unfold ageL at h
    split at h
    · obtain ⟨h1, _, h3⟩ := dec_all (n / uSize k)
      cases hd : Go.Lib.decDigits (n / uSize k) with
      | nil => exact absurd hd h3
      | cons x r =>
        rw [hd] at h h1
        simp at h
        subst h
        simp at h1
        exact h1.1
    · exact ageL_head g (k + 1) n c h

theorem take_app {α : Type} (p : α → Bool) : ∀ (a b : List α), a.all p = true → (∀ c, b.head? = some c → p c = false) → (a ++ b).takeWhile p = a ∧ (a ++ b).dropWhile p = b
  | [], b, _, h => by
    cases b with
    | nil => exact ⟨rfl, rfl⟩
    | cons x r => have := h x rfl; simp [this]
  | x :: a, b, ha, h => by
    simp only [List.all_cons, Bool.and_eq_true] at ha
    obtain ⟨h1, h2⟩ := take_app p a b ha.2 h
    constructor
    · rw [List.cons_append, List.takeWhile_cons, ha.1, if_pos rfl, h1]
    · rw [List.cons_append, List.dropWhile_cons, ha.1, if_pos rfl, h2]

theorem digit_letter {c : UInt8} (h : digit c = true) : letter c = false := by
  cases hl : letter c with
  | false => rfl
  | true => rw [letter_digit hl] at h; cases h

theorem ageL_read : ∀ (g k n next tot f : Nat), k + g = 8 → next ≤ k → (g = 0 → n = 0) → (ageL g k n).length ≤ f → ageGo letter f (ageL g k n) next tot = some (tot + n)
  | 0, k, n, next, tot, f, _, _, hz, _ => by
    rw [hz rfl]
    exact ageGo_nil
  | g + 1, k, n, next, tot, f, hk, hn, _, hf => by
    have hlast : g = 0 → uSize k = 1 := fun hg => by
      have : k = 7 := by omega
      subst this
      rfl
    have hp := (uSize_pos k).1
    unfold ageL at hf ⊢
    by_cases hge : uSize k ≤ n
    · rw [if_pos hge] at hf ⊢
      obtain ⟨d1, d2, d3⟩ := dec_all (n / uSize k)
      obtain ⟨w1, w2⟩ := uWord_lower k (by omega)
      have hw : ∀ c, (uWord k).head? = some c → letter c = true := fun c hc => lower_letter (List.all_eq_true.1 w1 c (List.mem_of_mem_head? hc))
      have a1 := take_app digit (Go.Lib.decDigits (n / uSize k)) (uWord k ++ ageL g (k + 1) (n % uSize k)) d1 (fun c hc => by
        cases hu : uWord k with
        | nil => exact absurd hu w2
        | cons x r =>
          rw [hu] at hc
          simp at hc
          subst hc
          exact letter_digit (hw x (by rw [hu]; rfl)))
      have a2 := take_app letter (uWord k) (ageL g (k + 1) (n % uSize k)) (List.all_eq_true.2 (fun c hc => lower_letter (List.all_eq_true.1 w1 c hc))) (fun c hc => digit_letter (ageL_head _ _ _ c hc))
      have hlen : 1 ≤ (Go.Lib.decDigits (n / uSize k)).length := List.length_pos_iff.2 d3
      rw [List.length_append, List.length_append] at hf
      obtain ⟨f, rfl⟩ : ∃ f', f = f' + 1 := ⟨f - 1, by omega⟩
      rw [ageGo_step (k := k) (by simp [d3]) (by rw [a1.1]; exact dec_numOk _) (by rw [a1.2, a2.1]; exact findU_at hn (by omega) rfl), a1.1, a1.2, a2.2, d2,
        ageL_read g (k + 1) (n % uSize k) (k + 1) _ f (by omega) (Nat.le_refl _) (fun hg => by rw [hlast hg, Nat.mod_one]) (by omega)]
      congr 1
      have := Nat.div_add_mod n (uSize k)
      rw [Nat.mul_comm] at this
      omega
    · rw [if_neg hge] at hf ⊢
      exact ageL_read g (k + 1) n next tot f (by omega) (by omega) (fun hg => by have := hlast hg; omega) hf

theorem ageL_parse (n : Nat) (h0 : 0 < n) (h1 : n ≤ most) : parseAg (ageL 8 0 n) = ((n : Int), 0) := by
  have h := ageL_read 8 0 n 0 0 (ageL 8 0 n).length rfl (Nat.le_refl _) (fun h => by omega) (Nat.le_refl _)
  unfold parseAg
  by_cases he : ageL 8 0 n = []
  · rw [he, ageGo_nil] at h
    simp at h
    omega
  · rw [if_neg he, h]
    show (if 0 + n ≤ most then (((0 + n : Nat) : Int), (0 : Int)) else (0, 7)) = _
    rw [Nat.zero_add, if_pos h1]

theorem zero_parse : parseAg [48, 115] = (0, 0) := by decide
end Wh
