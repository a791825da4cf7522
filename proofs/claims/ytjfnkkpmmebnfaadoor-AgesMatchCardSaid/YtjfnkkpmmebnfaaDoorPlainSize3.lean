/-
  Plain law: sizes: what is written is read.
-/
import Derived.Test.YtjfnkkpmmebnfaaDoorPlainSize2
namespace Wh

theorem digit_of {k : Nat} (h : k < 10) : digit (UInt8.ofNat (48 + k)) = true ∧ dv (UInt8.ofNat (48 + k)) = k := by
  have : ∀ k : Fin 10, digit (UInt8.ofNat (48 + k.1)) = true ∧ dv (UInt8.ofNat (48 + k.1)) = k.1 := by decide
  exact this ⟨k, h⟩

theorem dec_small {m : Nat} (h : m < 10) : Go.Lib.decDigits m = [UInt8.ofNat (48 + m)] := by rw [Go.Lib.decDigits, dif_pos h]
theorem dec_big {m : Nat} (h : ¬ m < 10) : Go.Lib.decDigits m = Go.Lib.decDigits (m / 10) ++ [UInt8.ofNat (48 + m % 10)] := by rw [Go.Lib.decDigits, dif_neg h]

theorem dec_all (m : Nat) : (Go.Lib.decDigits m).all digit = true ∧ dval (Go.Lib.decDigits m) = m ∧ Go.Lib.decDigits m ≠ [] := by
  induction m using Nat.strongRecOn with
  | _ m ih =>
    by_cases h : m < 10
    · obtain ⟨h1, h2⟩ := digit_of h
      rw [dec_small h]
      refine ⟨by rw [List.all_cons, h1]; rfl, ?_, by simp⟩
      show 10 * 0 + dv _ = m
      rw [h2]
      omega
    · obtain ⟨i1, i2, i3⟩ := ih (m / 10) (by omega)
      obtain ⟨h1, h2⟩ := digit_of (k := m % 10) (by omega)
      rw [dec_big h]
      refine ⟨by rw [List.all_append, i1, List.all_cons, h1]; rfl, ?_, by simp⟩
      rw [dval_snoc, i2, h2]
      omega

theorem dec_head (m : Nat) (hm : 1 ≤ m) : (Go.Lib.decDigits m).head? ≠ some 48 := by
  induction m using Nat.strongRecOn with
  | _ m ih =>
    by_cases h : m < 10
    · rw [dec_small h]
      have : ∀ k : Fin 10, 1 ≤ k.1 → [UInt8.ofNat (48 + k.1)].head? ≠ some 48 := by decide
      exact this ⟨m, h⟩ hm
    · have h1 := ih (m / 10) (by omega) (by omega)
      have h2 := (dec_all (m / 10)).2.2
      rw [dec_big h]
      cases hd : Go.Lib.decDigits (m / 10) with
      | nil => exact absurd hd h2
      | cons x r =>
        rw [hd] at h1
        simpa using h1

theorem dec_numOk (m : Nat) : numOk (Go.Lib.decDigits m) = true := by
  obtain ⟨_, _, h3⟩ := dec_all m
  unfold numOk
  by_cases hm : 1 ≤ m
  · have h := dec_head m hm
    cases hd : Go.Lib.decDigits m with
    | nil => exact absurd hd h3
    | cons x r =>
      rw [hd] at h
      simp at h
      simp [h]
  · have : m = 0 := by omega
    subst this
    rw [dec_small (by omega)]
    rfl

theorem dec_core (m u : Nat) (h : m * u ≤ most) : core (Go.Lib.decDigits m) u = (((m * u : Nat) : Int), 0) := by
  obtain ⟨h1, h2, _⟩ := dec_all m
  have t1 : (Go.Lib.decDigits m).takeWhile digit = Go.Lib.decDigits m := takeWhile_all (List.all_eq_true.1 h1)
  have t2 : (Go.Lib.decDigits m).dropWhile digit = [] := dropWhile_nil.2 (List.all_eq_true.1 h1)
  unfold core
  rw [t1, t2, if_pos (dec_numOk m), if_pos rfl]
  unfold sizeFin
  have e : dval (Go.Lib.decDigits m) * u + fracP [] u = m * u := by rw [h2]; rfl
  rw [e, if_pos h]

theorem dec_last (m : Nat) : ∀ c, (Go.Lib.decDigits m).getLast? = some c → unitIdx c = none := by
  intro c hc
  obtain ⟨h1, _, _⟩ := dec_all m
  have hd : digit c = true := List.all_eq_true.1 h1 c (List.mem_of_getLast? hc)
  cases hu : unitIdx c with
  | none => rfl
  | some i => rw [(unitIdx_digit hu).1] at hd; cases hd

/-- A number without a unit, and one with a unit. -/
theorem read_bare (m : Nat) (h : m ≤ most) : parseSz (Go.Lib.decDigits m) = ((m : Int), 0) := by
  rw [parseSz_bare (dec_last m), dec_core m 1 (by rw [Nat.mul_one]; exact h), Nat.mul_one]

theorem read_unit (m i : Nat) (c : UInt8) (hc : unitIdx c = some i) (h : m * 1024 ^ i ≤ most) : parseSz (Go.Lib.decDigits m ++ [c]) = (((m * 1024 ^ i : Nat) : Int), 0) := by
  rw [parseSz_unit hc, dec_core m _ h]
end Wh
