/-
  Three octal digits, in plain words; both ways of writing a path in quotes are one.
-/
import Derived.Test.YtfenmeacimfiaaaGreatDoorPlanA
import Derived.Test.YtfenmeacimfiaaaGreatDoorQuote
namespace Wh
open Go

def octD (c : UInt8) : Bool := decide (48 ≤ c.toNat ∧ c.toNat ≤ 55)
def oval (l : List UInt8) : Nat := l.foldl (fun a c => 8 * a + (c.toNat - 48)) 0
theorem oval_snoc (l : List UInt8) (c : UInt8) : oval (l ++ [c]) = 8 * oval l + (c.toNat - 48) := by simp [oval]
/-- What three digits stand for; none: they are no digits, or stand for too much. -/
def octVal (l : List UInt8) : Option Nat := if l ≠ [] ∧ l.all octD = true ∧ oval l ≤ 255 then some (oval l) else none
theorem ofNat48 {a : Nat} (h : a < 8) : (UInt8.ofNat (48 + a)).toNat = 48 + a := by simp; omega
theorem octVal_oct3 (v : UInt8) : octVal (oct3 v) = some v.toNat := by
  obtain ⟨a, b, d, ha, hb, hd, h1, h2⟩ := oct3_val v
  have e1 := ofNat48 (a := a) (by omega)
  have e2 := ofNat48 hb
  have e3 := ofNat48 hd
  have hv := v.toNat_lt
  have ho : oval (oct3 v) = v.toNat := by
    rw [h1]
    simp only [oval, List.foldl_cons, List.foldl_nil, e1, e2, e3]
    omega
  have hal : (oct3 v).all octD = true := by
    rw [h1]
    simp only [List.all_cons, List.all_nil, octD, e1, e2, e3, Bool.and_true, Bool.and_eq_true, decide_eq_true_eq]
    omega
  unfold octVal
  rw [if_pos ⟨by rw [h1]; simp, hal, by rw [ho]; omega⟩, ho]
theorem octVal_le {l : List UInt8} {n : Nat} (h : octVal l = some n) : n ≤ 255 := by
  unfold octVal at h
  split at h
  · rename_i hh
    injection h with h
    omega
  · cases h
theorem oct3_back {l : List UInt8} {n : Nat} (hl : l.length = 3) (h : octVal l = some n) : l = oct3 (UInt8.ofNat n) := by
  have hle := octVal_le h
  match l, hl with
  | [x, y, z], _ =>
    unfold octVal at h
    split at h
    · rename_i hh
      obtain ⟨_, hal, _⟩ := hh
      injection h with h
      simp only [List.all_cons, List.all_nil, octD, Bool.and_true, Bool.and_eq_true, decide_eq_true_eq] at hal
      simp only [oval, List.foldl_cons, List.foldl_nil] at h
      obtain ⟨a, b, d, ha, hb, hd, h1, h2⟩ := oct3_val (UInt8.ofNat n)
      have hn : (UInt8.ofNat n).toNat = n := by simp; omega
      rw [hn] at h2
      rw [h1]
      have key : ∀ (c : UInt8) (k : Nat), k < 8 → c.toNat = 48 + k → c = UInt8.ofNat (48 + k) := fun c k hk hc => by
        apply UInt8.toNat_inj.1
        rw [ofNat48 hk, hc]
      rw [key x a (by omega) (by omega), key y b hb (by omega), key z d hd (by omega)]
    · cases h

theorem quoteB_is (c : UInt8) : quoteB c = escB c := by
  have h : ∀ n : Fin 256, quoteB (UInt8.ofNat n.1) = escB (UInt8.ofNat n.1) := by decide +kernel
  have := h ⟨c.toNat, c.toNat_lt⟩
  simpa using this
theorem specialB_is (c : UInt8) : specialB c = specB c := by
  have h : ∀ n : Fin 256, specialB (UInt8.ofNat n.1) = specB (UInt8.ofNat n.1) := by decide +kernel
  have := h ⟨c.toNat, c.toNat_lt⟩
  simpa using this
theorem quoteL_is (l : List UInt8) : quoteL l = quotedL l := by
  unfold quoteL quotedL escL
  rw [show quoteB = escB from funext quoteB_is]
end Wh
