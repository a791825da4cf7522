/-
  Plain law: so many values as coefficients give the polynomial.
-/
import Derived.Test.YtjcpcmiijadmcaaDoorPlainField
namespace Wh.Fld

/-- The weight of the place x i for the value at z: of the first k places. -/
def wtTo (x : Nat → F) (z : F) (i : Nat) : Nat → F
  | 0 => 1#8
  | k + 1 => if k ≠ i then mul (wtTo x z i k) (mul (z ^^^ x k) (inv (x i ^^^ x k))) else wtTo x z i k
def basTo (x : Nat → F) (i : Nat) : Nat → List F
  | 0 => [1#8]
  | k + 1 => if k ≠ i then scaleP (inv (x i ^^^ x k)) (linP (x k) (basTo x i k)) else basTo x i k
theorem eval_basTo (x : Nat → F) (z : F) (i k : Nat) : eval (basTo x i k) z = wtTo x z i k := by
  induction k with
  | zero => simp [basTo, wtTo, eval, zero_mul]
  | succ k ih =>
    unfold basTo wtTo
    by_cases h : k ≠ i
    · rw [if_pos h, if_pos h, eval_scaleP, eval_linP, ih]
      rw [mul_comm (wtTo x z i k), mul_comm (z ^^^ x k) (inv (x i ^^^ x k)), mul_assoc]
    · rw [if_neg h, if_neg h, ih]
theorem length_basTo (x : Nat → F) (i k : Nat) : (basTo x i k).length = if i < k then k else k + 1 := by
  induction k with
  | zero => simp [basTo]
  | succ k ih =>
    unfold basTo
    by_cases h : k ≠ i
    · rw [if_pos h]
      simp only [scaleP, List.length_map, length_linP, ih]
      split <;> split <;> omega
    · rw [if_neg h, ih]
      split <;> split <;> omega
theorem wtTo_other (x : Nat → F) (i j : Nat) (hij : j ≠ i) (k : Nat) (hk : j < k) : wtTo x (x j) i k = 0#8 := by
  induction k with
  | zero => omega
  | succ k ih =>
    unfold wtTo
    by_cases h : k ≠ i
    · rw [if_pos h]
      by_cases e : j = k
      · subst e
        rw [BitVec.xor_self, zero_mul, mul_zero]
      · rw [ih (by omega), zero_mul]
    · rw [if_neg h]
      exact ih (by omega)
theorem wtTo_same (x : Nat → F) (i : Nat) (k : Nat) (hx : ∀ j, j < k → j ≠ i → x j ≠ x i) : wtTo x (x i) i k = 1#8 := by
  induction k with
  | zero => rfl
  | succ k ih =>
    unfold wtTo
    rw [ih (fun j hj => hx j (by omega))]
    by_cases h : k ≠ i
    · rw [if_pos h, one_mul]
      exact mul_inv _ (xor_ne (fun e => hx k (by omega) h e.symm))
    · rw [if_neg h]
theorem wtTo_ne (x : Nat → F) (z : F) (i : Nat) (k : Nat) (hx : ∀ j, j < k → j ≠ i → x j ≠ x i) (hz : ∀ j, j < k → x j ≠ z) : wtTo x z i k ≠ 0#8 := by
  induction k with
  | zero => exact (show (1#8 : F) ≠ 0#8 by decide)
  | succ k ih =>
    unfold wtTo
    have := ih (fun j hj => hx j (by omega)) (fun j hj => hz j (by omega))
    by_cases h : k ≠ i
    · rw [if_pos h]
      exact mul_ne this (mul_ne (xor_ne (fun e => hz k (by omega) e.symm)) (inv_ne (xor_ne (fun e => hx k (by omega) h e.symm))))
    · rw [if_neg h]
      exact this

/-- The value at z, of the first k of n places. -/
def valTo (x y : Nat → F) (z : F) (n : Nat) : Nat → F
  | 0 => 0#8
  | k + 1 => valTo x y z n k ^^^ mul (wtTo x z k n) (y k)
def sumTo (x y : Nat → F) (n : Nat) : Nat → List F
  | 0 => []
  | k + 1 => addP (sumTo x y n k) (scaleP (y k) (basTo x k n))
theorem eval_sumTo (x y : Nat → F) (z : F) (n k : Nat) : eval (sumTo x y n k) z = valTo x y z n k := by
  induction k with
  | zero => rfl
  | succ k ih =>
    unfold sumTo valTo
    rw [eval_addP, eval_scaleP, eval_basTo, ih, mul_comm (y k)]
theorem length_sumTo (x y : Nat → F) (n k : Nat) (h : k ≤ n) : (sumTo x y n k).length ≤ n := by
  induction k with
  | zero => simp [sumTo]
  | succ k ih =>
    unfold sumTo
    rw [length_addP]
    have := ih (by omega)
    have hb : (scaleP (y k) (basTo x k n)).length = n := by
      simp only [scaleP, List.length_map, length_basTo]
      split <;> omega
    omega
theorem valTo_at (x y : Nat → F) (n j : Nat) (hj : j < n) (hx : ∀ a b, a < n → b < n → a ≠ b → x a ≠ x b) (k : Nat) (hk : k ≤ n) : valTo x y (x j) n k = if j < k then y j else 0#8 := by
  induction k with
  | zero => rfl
  | succ k ih =>
    unfold valTo
    rw [ih (by omega)]
    by_cases e : j = k
    · subst e
      rw [wtTo_same x j n (fun a ha hne => hx a j ha hj hne), one_mul, if_neg (by omega), if_pos (by omega), BitVec.zero_xor]
    · rw [wtTo_other x k j e n hj, zero_mul, BitVec.xor_zero]
      split <;> split <;> first | rfl | omega

theorem valTo_congr {x y y' : Nat → F} {z : F} {n : Nat} (k : Nat) (h : ∀ i, i < k → y i = y' i) : valTo x y z n k = valTo x y' z n k := by
  induction k with
  | zero => rfl
  | succ k ih =>
    unfold valTo
    rw [ih (fun i hi => h i (by omega)), h k (by omega)]

theorem lagrange (x : Nat → F) (n : Nat) (hx : ∀ a b, a < n → b < n → a ≠ b → x a ≠ x b) (p : List F) (hp : p.length ≤ n) (z : F) : valTo x (fun i => eval p (x i)) z n n = eval p z := by
  have hz : ∀ t, eval (addP p (sumTo x (fun i => eval p (x i)) n n)) t = 0#8 := by
    refine roots_zero ((List.range n).map x) _ ?_ ?_ ?_
    · rw [List.nodup_iff_pairwise_ne, List.pairwise_map]
      refine List.Pairwise.imp_of_mem ?_ (List.nodup_iff_pairwise_ne.1 List.nodup_range)
      intro a b ha hb hab
      exact hx a b (List.mem_range.1 ha) (List.mem_range.1 hb) hab
    · rw [length_addP, List.length_map, List.length_range]
      have := length_sumTo x (fun i => eval p (x i)) n n (Nat.le_refl _)
      omega
    · intro t ht
      obtain ⟨j, hj, rfl⟩ := List.mem_map.1 ht
      have hj := List.mem_range.1 hj
      rw [eval_addP, eval_sumTo, valTo_at x _ n j hj hx n (Nat.le_refl _), if_pos hj, BitVec.xor_self]
  have h := hz z
  rw [eval_addP, eval_sumTo] at h
  by_cases e : eval p z = valTo x (fun i => eval p (x i)) z n n
  · exact e.symm
  · exact absurd h (xor_ne e)
end Wh.Fld
