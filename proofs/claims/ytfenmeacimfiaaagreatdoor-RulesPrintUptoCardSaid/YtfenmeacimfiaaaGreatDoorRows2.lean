/-
  Slices of structs: each element a row of cells.
-/
import Derived.Test.YtfenmeacimfiaaaGreatDoorBase
namespace Go.Proofs.YtfenmeacimfiaaaGreatDoor
open Go.RowKit

/-- A slice of rows of 'n' cells each: the address is asked for only where there is a row. -/
def HoldsR (w : World) (a : Option Addr) (n : Nat) (xs : List (List Value)) : Prop :=
  xs = [] ∨ ∃ b off, a = some ⟨b, off, none⟩ ∧ b < w.heap.size ∧ ∀ (k : Nat) (row : List Value), xs[k]? = some row → ∀ (j : Nat) (u : Value), row[j]? = some u → w.cell? ⟨b, off + k * n + j, none⟩ = some u

theorem HoldsR.none (w : World) (a : Option Addr) (n : Nat) : HoldsR w a n [] := .inl rfl

theorem HoldsR.at {w : World} {a : Option Addr} {n : Nat} {xs : List (List Value)} (h : HoldsR w a n xs) {k : Nat} {row : List Value} (hk : xs[k]? = some row) :
    ∃ b off, a = some ⟨b, off, Option.none⟩ ∧ b < w.heap.size ∧ ∀ (j : Nat) (u : Value), row[j]? = some u → w.cell? ⟨b, off + k * n + j, Option.none⟩ = some u := by
  rcases h with rfl | ⟨b, off, ha, hb, hc⟩
  · simp at hk
  · exact ⟨b, off, ha, hb, hc k row hk⟩

theorem HoldsR.keep {w w' : World} {a : Option Addr} {n : Nat} {xs : List (List Value)} {B : Nat} (h : HoldsR w a n xs) (hb : Below B w w') (hB : w.heap.size ≤ B) : HoldsR w' a n xs := by
  rcases h with rfl | ⟨b, off, ha, hlt, hc⟩
  · exact .inl rfl
  · refine .inr ⟨b, off, ha, Nat.lt_of_lt_of_le hlt hb.size, fun k row hk j u hu => ?_⟩
    rw [hb.cell (p := ⟨b, off + k * n + j, Option.none⟩) (Nat.lt_of_lt_of_le hlt hB)]
    exact hc k row hk j u hu

theorem HoldsR.under {w w' : World} {a : Option Addr} {n : Nat} {xs : List (List Value)} (h : HoldsR w a n xs) (hb : Below w.heap.size w w') : HoldsR w' a n xs := h.keep hb (Nat.le_refl _)

theorem HoldsR.take {w : World} {a : Option Addr} {n : Nat} {xs : List (List Value)} (h : HoldsR w a n xs) (i : Nat) : HoldsR w a n (xs.take i) := by
  rcases h with rfl | ⟨b, off, ha, hlt, hc⟩
  · simp; exact .inl rfl
  · refine .inr ⟨b, off, ha, hlt, fun k row hk j u hu => ?_⟩
    refine hc k row ?_ j u hu
    rw [List.getElem?_take] at hk
    split at hk
    · exact hk
    · cases hk

theorem flat_get (n : Nat) (hn : 0 < n) : ∀ (xs : List (List Value)), (∀ r ∈ xs, r.length = n) → ∀ j : Nat, xs.flatten[j]? = (xs[j / n]?).bind (·[j % n]?)
  | [], _, j => by simp
  | r :: xs, h, j => by
    have hr := h r (by simp)
    rw [List.flatten_cons]
    by_cases hj : j < n
    · rw [List.getElem?_append_left (by omega), Nat.div_eq_of_lt hj, Nat.mod_eq_of_lt hj]
      simp
    · rw [List.getElem?_append_right (by omega), hr, flat_get n hn xs (fun x hx => h x (by simp [hx])) (j - n)]
      have e1 : j / n = (j - n) / n + 1 := by rw [← Nat.add_div_right _ hn]; congr 1; omega
      have e2 : j % n = (j - n) % n := by rw [← Nat.add_mod_right (j - n) n]; congr 1; omega
      rw [e1, e2]
      simp

theorem flat_len (n : Nat) : ∀ (xs : List (List Value)), (∀ r ∈ xs, r.length = n) → xs.flatten.length = xs.length * n
  | [], _ => by simp
  | r :: xs, h => by
    rw [List.flatten_cons, List.length_append, h r (by simp), flat_len n xs (fun x hx => h x (by simp [hx])), List.length_cons, Nat.succ_mul]
    omega

/-- The rows' cells, one behind the other. -/
theorem HoldsR.flat {w : World} {ad : Addr} {n : Nat} {xs : List (List Value)} (hn : 0 < n) (hr : ∀ r ∈ xs, r.length = n) (h : HoldsR w (some ad) n xs) :
    ∀ (j : Nat) (u : Value), xs.flatten[j]? = some u → w.cell? (ad.add j) = some u := by
  intro j u hu
  rw [flat_get n hn xs hr j] at hu
  cases hk : xs[j / n]? with
  | none => rw [hk] at hu; simp at hu
  | some row =>
    rw [hk] at hu
    simp at hu
    obtain ⟨b, off, ha, _, hc⟩ := h.at hk
    injection ha with ha
    subst ha
    have := hc _ u hu
    have e : off + j / n * n + j % n = off + j := by
      have := Nat.div_add_mod j n
      rw [Nat.mul_comm] at this
      omega
    rw [e] at this
    have e2 : (⟨b, off, Option.none⟩ : Addr).add j = ⟨b, off + j, Option.none⟩ := by unfold Addr.add; split <;> simp_all
    rw [e2]
    exact this
end Go.Proofs.YtfenmeacimfiaaaGreatDoor
