/-
  Features of a store, in plain Lean: what is checked.
-/
import Derived.Test.YtikegddlbelfaaaGreatDoorPlainEnc
import Derived.Laws.BitsLemmas
namespace Wh
open Go

/-- Features. -/
structure Feat where
  has : Int
  sums : Int
  prec : Int
  maxName : Int
  maxPath : Int
  maxSize : Int
  page : Int
  partSize : Int
  forbid : ByteArray

/-- Bytes that may stand in Forbid: no letter, no digit, no slash, ASCII. -/
def okF (c : UInt8) : Bool := !(c == 47 || (digit c || letter c) || decide (128 ≤ c.toNat))

/-- Different bytes, each of which is right. -/
def formP (p : UInt8 → Bool) : List UInt8 → Bool
  | [] => true
  | x :: r => !r.contains x && p x && formP p r

theorem formP_snoc (p : UInt8 → Bool) (x : UInt8) : ∀ l : List UInt8, formP p (l ++ [x]) = (formP p l && p x && !l.contains x)
  | [] => by simp [formP]
  | y :: r => by
    rw [List.cons_append, formP, formP, formP_snoc p x r, List.contains_append]
    simp only [List.contains_cons, List.contains_nil, Bool.or_false]
    have e : (y == x) = (x == y) := by rw [Bool.eq_iff_iff]; simp; exact ⟨Eq.symm, Eq.symm⟩
    rw [e]
    cases r.contains y <;> cases r.contains x <;> cases (x == y) <;> cases p y <;> cases p x <;> cases formP p r <;> rfl

theorem formP_prefix {p : UInt8 → Bool} : ∀ {a b : List UInt8}, formP p (a ++ b) = true → formP p a = true
  | [], _, _ => rfl
  | x :: a, b, h => by
    rw [List.cons_append, formP, Bool.and_eq_true, Bool.and_eq_true] at h
    rw [formP, Bool.and_eq_true, Bool.and_eq_true]
    refine ⟨⟨?_, h.1.2⟩, formP_prefix h.2⟩
    have h1 := h.1.1
    rw [List.contains_append] at h1
    simp at h1 ⊢
    exact h1.1

theorem formP_bad {p : UInt8 → Bool} {l : List UInt8} {k : Nat} {x : UInt8} (hx : l[k]? = some x) (h : (l.take k).contains x = true ∨ p x = false) : formP p l = false := by
  cases hf : formP p l with
  | false => rfl
  | true =>
    have h1 : formP p (l.take (k + 1)) = true := formP_prefix (b := l.drop (k + 1)) (by rw [List.take_append_drop]; exact hf)
    rw [List.take_add_one, hx, Option.toList_some, formP_snoc] at h1
    rcases h with h | h
    · rw [h] at h1; simp at h1
    · rw [h] at h1; simp at h1

theorem formP_step {p : UInt8 → Bool} {l : List UInt8} {k : Nat} {x : UInt8} (hx : l[k]? = some x) (h : formP p (l.take k) = true) (h1 : (l.take k).contains x = false) (h2 : p x = true) : formP p (l.take (k + 1)) = true := by
  rw [List.take_add_one, hx, Option.toList_some, formP_snoc, h, h1, h2]
  rfl

theorem formP_drop {p : UInt8 → Bool} {l : List UInt8} {k : Nat} {x : UInt8} (hx : l[k]? = some x) : formP p (l.drop k) = (!(l.drop (k + 1)).contains x && p x && formP p (l.drop (k + 1))) := by
  have h := List.getElem?_eq_some_iff.1 hx
  rw [List.drop_eq_getElem_cons h.1, h.2, formP]

theorem formP_mem {p : UInt8 → Bool} : ∀ {l : List UInt8}, formP p l = true → ∀ b ∈ l, p b = true
  | [], _ => by simp
  | x :: r, h => by
    rw [formP, Bool.and_eq_true, Bool.and_eq_true] at h
    intro b hb
    rcases List.mem_cons.1 hb with rfl | hb
    · exact h.1.2
    · exact formP_mem h.2 b hb

/-- Is a number within bounds? -/
def inB (n lo hi : Int) : Bool := decide (lo ≤ n) && decide (n ≤ hi)

/-- A bit of Has. -/
def hasB (f : Feat) (n : Int) : Bool := bits .and .i64 f.has n != 0

def hasBad (f : Feat) : Bool := decide (f.has < 0) || decide (4095 < f.has) || (hasB f 8 && !hasB f 4) || (hasB f 2048 && !hasB f 64)

def sumsBad (f : Feat) : Bool := bits .andNot .i64 f.sums 62 != 0

def rangeOk (f : Feat) : Bool := inB f.prec 1 86400000000000 && inB f.maxName 1 255 && inB f.maxPath f.maxName 1024 && inB f.maxSize 0 1048576 && inB f.page 1 1000 && inB f.partSize 1 (max f.maxSize 1)

/-- What is wrong with features. -/
def featErr (f : Feat) : Int := if hasBad f || !formP okF f.forbid.data.toList then 6 else if sumsBad f then 5 else if rangeOk f then 0 else 7

theorem bv_mask (x m : BitVec 64) (h : x &&& ~~~m = 0#64) : x &&& m = x := by
  apply BitVec.eq_of_getLsbD_eq
  intro i hi
  have h1 := congrArg (fun v => BitVec.getLsbD v i) h
  simp [hi] at h1
  rw [BitVec.getLsbD_and, BitVec.getLsbD_eq_getElem hi, BitVec.getLsbD_eq_getElem hi]
  cases hx : x[i]
  · simp
  · simp [h1 hx]

theorem wrap_zero (n : Nat) (h : n < 18446744073709551616) (hz : IntKind.i64.wrap (n : Int) = 0) : n = 0 := by
  rw [IntKind.wrap_i64] at hz
  omega

theorem sums_of {s : Int} (h1 : -9223372036854775808 ≤ s) (h2 : s ≤ 9223372036854775807) (h : (bits .andNot .i64 s 62 != 0) = false) : 0 ≤ s ∧ s.toNat &&& 62 = s.toNat ∧ s ≤ 62 := by
  have h0 : bits .andNot .i64 s 62 = 0 := by simpa using h
  have hb : bits .andNot .i64 s 62 = IntKind.i64.wrap ((BitVec.ofInt 64 s &&& ~~~(BitVec.ofInt 64 62)).toNat : Nat) := rfl
  rw [hb] at h0
  have h3 := wrap_zero _ (BitVec.isLt _) h0
  have h4 : BitVec.ofInt 64 s &&& ~~~(BitVec.ofInt 64 62) = 0#64 := BitVec.eq_of_toNat_eq (by rw [h3]; rfl)
  have h5 := congrArg BitVec.toNat (bv_mask _ _ h4)
  rw [BitVec.toNat_and] at h5
  have h6 : (BitVec.ofInt 64 62).toNat = 62 := by decide
  rw [h6] at h5
  have h7 : (BitVec.ofInt 64 s).toNat ≤ 62 := by
    rw [← h5]
    exact Nat.and_le_right
  have h8 : (BitVec.ofInt 64 s).toNat = (s % 18446744073709551616).toNat := by
    rw [BitVec.toNat_ofInt]
    rfl
  rw [h8] at h5 h7
  have h9 : 0 ≤ s := by omega
  have h10 : (s % 18446744073709551616).toNat = s.toNat := by omega
  rw [h10] at h5 h7
  exact ⟨h9, h5, by omega⟩

theorem sumsBad_neg {f : Feat} (h1 : -9223372036854775808 ≤ f.sums) (h2 : f.sums ≤ 9223372036854775807) (h : f.sums < 0) : sumsBad f = true := by
  cases hb : sumsBad f with
  | true => rfl
  | false =>
    have := (sums_of h1 h2 hb).1
    omega

/-- The least kind in a set of kinds 1 to 5. -/
def leastN (s : Nat) : Nat := if s.testBit 1 then 1 else if s.testBit 2 then 2 else if s.testBit 3 then 3 else if s.testBit 4 then 4 else if s.testBit 5 then 5 else 0

theorem testBit_lt {n k : Nat} (hn : n < 64) (h : n.testBit k = true) : k ≤ 5 := by
  rcases Nat.lt_or_ge 5 k with hk | hk
  · have h1 := Nat.ge_two_pow_of_testBit h
    have h2 : 2 ^ 6 ≤ 2 ^ k := Nat.pow_le_pow_right (by decide) hk
    omega
  · exact hk

theorem leastN_hit {n k : Nat} (hn : n < 64) (h0 : 1 ≤ k) (hl : ∀ j, 1 ≤ j → j < k → n.testBit j = false) (h : n.testBit k = true) : leastN n = k := by
  have hk := testBit_lt hn h
  unfold leastN
  rcases (by omega : k = 1 ∨ k = 2 ∨ k = 3 ∨ k = 4 ∨ k = 5) with rfl | rfl | rfl | rfl | rfl
  · rw [h]; rfl
  · rw [hl 1 (by omega) (by omega), h]; rfl
  · rw [hl 1 (by omega) (by omega), hl 2 (by omega) (by omega), h]; rfl
  · rw [hl 1 (by omega) (by omega), hl 2 (by omega) (by omega), hl 3 (by omega) (by omega), h]; rfl
  · rw [hl 1 (by omega) (by omega), hl 2 (by omega) (by omega), hl 3 (by omega) (by omega), hl 4 (by omega) (by omega), h]; rfl

theorem leastN_none {n k : Nat} (hk : 6 ≤ k) (hl : ∀ j, 1 ≤ j → j < k → n.testBit j = false) : leastN n = 0 := by
  unfold leastN
  rw [hl 1 (by omega) (by omega), hl 2 (by omega) (by omega), hl 3 (by omega) (by omega), hl 4 (by omega) (by omega), hl 5 (by omega) (by omega)]
  rfl

theorem i64_and1 (n : Int) : bits .and .i64 n 1 = n % 2 := by
  have h1 : (BitVec.ofInt 64 1).toNat = 2 ^ 1 - 1 := by decide
  have key : (BitVec.ofInt 64 n &&& BitVec.ofInt 64 1).toNat = (n % ((2 ^ 64 : Nat) : Int)).toNat % 2 ^ 1 := by
    rw [BitVec.toNat_and, BitVec.toNat_ofInt, h1, Nat.and_two_pow_sub_one_eq_mod]
  show IntKind.i64.wrap ((BitVec.ofInt 64 n &&& BitVec.ofInt 64 1).toNat : Nat) = n % 2
  rw [key, IntKind.wrap_i64]
  omega

theorem bit_test (n k : Nat) : (bits .and .i64 ((n : Int) / 2 ^ k) 1 == 1) = n.testBit k := by
  rw [i64_and1]
  have e : ((n : Int) / 2 ^ k) % 2 = ((n / 2 ^ k % 2 : Nat) : Int) := by push_cast; rfl
  rw [e, Nat.testBit_eq_decide_div_mod_eq]
  rw [Bool.eq_iff_iff]
  simp
  omega

theorem i64_and_small {a b : Int} (ha : 0 ≤ a) (ha2 : a ≤ 62) (hb : 0 ≤ b) (hb2 : b ≤ 62) : bits .and .i64 a b = ((a.toNat &&& b.toNat : Nat) : Int) := by
  have h : ∀ x y : Fin 63, bits .and .i64 (x.1 : Int) (y.1 : Int) = ((x.1 &&& y.1 : Nat) : Int) := by decide +kernel
  have := h ⟨a.toNat, by omega⟩ ⟨b.toNat, by omega⟩
  have e1 : ((a.toNat : Nat) : Int) = a := by omega
  have e2 : ((b.toNat : Nat) : Int) = b := by omega
  simp only [e1, e2] at this
  exact this

theorem and_lt {a b : Nat} (ha : a ≤ 62) (he : a &&& 62 = a) : a &&& b < 64 ∧ (a &&& b).testBit 0 = false := by
  refine ⟨Nat.lt_of_le_of_lt Nat.and_le_left (by omega), ?_⟩
  rw [Nat.testBit_and]
  have : a.testBit 0 = false := by
    rw [← he, Nat.testBit_and]
    simp
  rw [this]
  rfl

/-- What is known of right features. -/
theorem feat_right {f : Feat} (h : featErr f = 0) : formP okF f.forbid.data.toList = true ∧ sumsBad f = false ∧ rangeOk f = true := by
  unfold featErr at h
  split at h
  · omega
  · rename_i h1
    split at h
    · omega
    · rename_i h2
      split at h
      · rename_i h3
        simp at h1
        exact ⟨h1.2, by simpa using h2, h3⟩
      · omega

theorem forbid_ascii {l : List UInt8} (h : formP okF l = true) : ∀ b ∈ l, b.toNat < 128 := by
  intro b hb
  have := formP_mem h b hb
  simp [okF] at this
  omega
theorem nodup_len : ∀ {l m : List UInt8}, l.Nodup → (∀ x ∈ l, x ∈ m) → l.length ≤ m.length
  | [], m, _, _ => by simp
  | x :: r, m, hn, hs => by
    rw [List.nodup_cons] at hn
    have hx := hs x (by simp)
    have ih := nodup_len (l := r) (m := m.erase x) hn.2 (fun y hy => (List.mem_erase_of_ne (by rintro rfl; exact hn.1 hy)).2 (hs y (by simp [hy])))
    rw [List.length_erase_of_mem hx] at ih
    have := List.length_pos_of_mem hx
    simp
    omega

theorem forbid_nodup : ∀ {l : List UInt8}, formP okF l = true → l.Nodup
  | [], _ => by simp
  | x :: r, h => by
    rw [formP, Bool.and_eq_true, Bool.and_eq_true] at h
    rw [List.nodup_cons]
    exact ⟨by simpa using h.1.1, forbid_nodup h.2⟩

theorem forbid_len {l : List UInt8} (h : formP okF l = true) : l.length ≤ 256 := by
  have := nodup_len (m := (List.range 256).map UInt8.ofNat) (forbid_nodup h) (fun b _ => by
    rw [List.mem_map]
    exact ⟨b.toNat, by simpa using b.toNat_lt, by simp⟩)
  simpa using this
end Wh
