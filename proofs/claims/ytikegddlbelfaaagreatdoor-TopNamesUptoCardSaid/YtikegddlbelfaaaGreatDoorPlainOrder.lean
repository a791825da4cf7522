/-
  The order of trees, in plain Lean.
-/
import Derived.Test.YtikegddlbelfaaaGreatDoorPlain
import Derived.Lib.Small
namespace Wh
open Go

/-- How a byte counts. -/
def wt (c : UInt8) : Int := if c = 47 then -1 else c.toNat

theorem wt_ne {c : UInt8} (h : ¬ c = 47) : wt c = c.toNat := by simp [wt, h]

theorem byte_ne {c : UInt8} (h : ¬ c = 47) : ((c.toNat : Int) == 47) = false := by
  rw [beq_eq_false_iff_ne]
  intro e
  apply h
  have : c.toNat = 47 := by omega
  exact UInt8.toNat_inj.1 this

/-- P2: the order of trees. -/
def cmpL : List UInt8 → List UInt8 → Int
  | [], [] => 0
  | [], _ :: _ => -1
  | _ :: _, [] => 1
  | x :: a, y :: b => if wt x < wt y then -1 else if wt y < wt x then 1 else cmpL a b

theorem drop_at (s : ByteArray) (k : Nat) (h : k < s.size) : s.data.toList.drop k = s[k]'h :: s.data.toList.drop (k + 1) := by
  rw [List.drop_eq_getElem_cons (by simpa using h)]
  rfl

theorem wt_inj {x y : UInt8} (h : wt x = wt y) : x = y := by
  unfold wt at h
  split at h
  · split at h
    · simp_all
    · omega
  · split at h
    · omega
    · exact UInt8.toNat_inj.1 (by omega)

theorem cmpL_swap : ∀ a b : List UInt8, cmpL b a = -cmpL a b
  | [], [] => rfl
  | [], _ :: _ => rfl
  | _ :: _, [] => rfl
  | x :: a, y :: b => by
    unfold cmpL
    have := cmpL_swap a b
    split
    · split
      · omega
      · rfl
    · split
      · rfl
      · exact this

theorem cmpL_zero : ∀ a b : List UInt8, cmpL a b = 0 ↔ a = b
  | [], [] => by simp [cmpL]
  | [], _ :: _ => by simp [cmpL]
  | _ :: _, [] => by simp [cmpL]
  | x :: a, y :: b => by
    unfold cmpL
    have := cmpL_zero a b
    split
    · rename_i h
      constructor
      · intro h2; omega
      · intro h2
        injection h2 with h3 _
        subst h3
        omega
    · split
      · rename_i h
        constructor
        · intro h2; omega
        · intro h2
          injection h2 with h3 _
          subst h3
          omega
      · have hxy : x = y := wt_inj (by omega)
        subst hxy
        rw [this]
        simp

theorem cmpL_trans : ∀ a b c : List UInt8, cmpL a b ≤ 0 → cmpL b c ≤ 0 → cmpL a c ≤ 0
  | [], _, [] => by simp [cmpL]
  | [], _, _ :: _ => by simp [cmpL]
  | _ :: _, [], _ => by simp [cmpL]
  | _ :: _, _ :: _, [] => by simp [cmpL]
  | x :: a, y :: b, z :: c => by
    have := cmpL_trans a b c
    unfold cmpL
    intro h1 h2
    split at h1
    · split at h2
      · rw [if_pos (by omega)]; omega
      · split at h2
        · omega
        · rw [if_pos (by omega)]; omega
    · split at h1
      · omega
      · split at h2
        · rw [if_pos (by omega)]; omega
        · split at h2
          · omega
          · rw [if_neg (by omega), if_neg (by omega)]
            exact this h1 h2
theorem wt_bd (c : UInt8) : -1 ≤ wt c ∧ wt c ≤ 255 := by
  have := c.toNat_lt
  unfold wt
  split <;> omega

theorem cmpL_lt {x y : UInt8} {a b a' b' : List UInt8} (h : wt x < wt y) (ha : a = x :: a') (hb : b = y :: b') : cmpL a b = -1 := by
  rw [ha, hb, cmpL, if_pos h]
theorem cmpL_gt {x y : UInt8} {a b a' b' : List UInt8} (h : wt y < wt x) (ha : a = x :: a') (hb : b = y :: b') : cmpL a b = 1 := by
  rw [ha, hb, cmpL, if_neg (by omega), if_pos h]
theorem cmpL_eq {x y : UInt8} {a b a' b' : List UInt8} (h : ¬ wt x < wt y) (h2 : ¬ wt y < wt x) (ha : a = x :: a') (hb : b = y :: b') : cmpL a b = cmpL a' b' := by
  rw [ha, hb, cmpL, if_neg h, if_neg h2]
theorem cmpL_end {a b : ByteArray} {k : Nat} (h : ¬ (k < a.size ∧ k < b.size)) (hk : k ≤ min a.size b.size) :
    cmpL (a.data.toList.drop k) (b.data.toList.drop k) = if a.size < b.size then -1 else if b.size < a.size then 1 else 0 := by
  rw [Lib.size_eq, Lib.size_eq] at h hk ⊢
  generalize a.data.toList = a at *
  generalize b.data.toList = b at *
  by_cases c1 : a.length < b.length
  · rw [if_pos c1, List.drop_eq_nil_of_le (as := a) (by omega)]
    cases hb : b.drop k with
    | nil => have := List.drop_eq_nil_iff.1 hb; omega
    | cons y b' => rfl
  · rw [if_neg c1]
    by_cases c2 : b.length < a.length
    · rw [if_pos c2, List.drop_eq_nil_of_le (as := b) (by omega)]
      cases hb : a.drop k with
      | nil => have := List.drop_eq_nil_iff.1 hb; omega
      | cons y b' => rfl
    · rw [if_neg c2, List.drop_eq_nil_of_le (as := b) (by omega), List.drop_eq_nil_of_le (as := a) (by omega)]
      rfl
theorem cmpL_end2 {a b : ByteArray} {k : Nat} (h : ¬ (k < a.size ∧ k < b.size)) (hk : k ≤ min a.size b.size) :
    cmpL (a.data.toList.drop k) (b.data.toList.drop k) = Lib.compareInt a.size b.size := by
  rw [cmpL_end h hk]
  unfold Lib.compareInt
  by_cases c1 : a.size < b.size
  · have c2 : (a.size : Int) < b.size := by omega
    simp [c1]
  · by_cases c2 : b.size < a.size
    · simp [c1, c2]
    · simp [c1, c2]

theorem cmpL_bd : ∀ a b : List UInt8, -1 ≤ cmpL a b ∧ cmpL a b ≤ 1
  | [], [] => by simp [cmpL]
  | [], _ :: _ => by simp [cmpL]
  | _ :: _, [] => by simp [cmpL]
  | x :: a, y :: b => by
    have := cmpL_bd a b
    unfold cmpL
    split
    · omega
    · split <;> omega
end Wh
