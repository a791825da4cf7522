/-
  Plain law: shares of one secret.
-/
import Derived.Test.YtjcpcmiijadmcaaDoorFld6
namespace Go.Proofs.YtjcpcmiijadmcaaDoor
open Go.RowKit Wh.Fld

theorem subset_len {α : Type} [BEq α] [LawfulBEq α] : ∀ (L xs : List α), L.Nodup → (∀ a ∈ L, a ∈ xs) → L.length ≤ xs.length
  | [], _, _, _ => by simp
  | a :: L, xs, hn, hs => by
    have ha := hs a (by simp)
    have h := subset_len L (xs.erase a) (List.nodup_cons.1 hn).2 (fun b hb => (List.mem_erase_of_ne (fun (e : b = a) => (List.nodup_cons.1 hn).1 (by rw [← e]; exact hb))).2 (hs b (by simp [hb])))
    rw [List.length_erase_of_mem ha] at h
    have := List.length_pos_of_mem ha
    simp only [List.length_cons]
    omega

/-- Shares of one dealing, of distinct places. -/
structure Dealt (secret noise : ByteArray) (N M : Nat) (xs : List Share) : Prop where
  mem : ∀ s ∈ xs, ∃ i, i < M ∧ s = shareAt secret noise N i
  dist : (xs.map (·.x)).Nodup

theorem Dealt.nil (secret noise : ByteArray) (N M : Nat) : Dealt secret noise N M [] := ⟨by simp, by simp⟩
theorem shareAt_x (secret noise : ByteArray) (N : Nat) {i : Nat} (h : i < 255) : (shareAt secret noise N i).x.toNat = i + 1 := by
  show (BitVec.ofNat 8 (i + 1)).toNat = i + 1
  rw [BitVec.toNat_ofNat]
  omega
theorem shareAt_inj (secret noise : ByteArray) (N : Nat) {i j : Nat} (hi : i < 255) (hj : j < 255) (h : (shareAt secret noise N i).x = (shareAt secret noise N j).x) : i = j := by
  have h1 := shareAt_x secret noise N hi
  have h2 := shareAt_x secret noise N hj
  rw [h] at h1
  omega
theorem eqSh_self (s : Share) : eqSh s s = true := by simp [eqSh]
theorem Dealt.add {secret noise : ByteArray} {N M : Nat} {xs : List Share} (h : Dealt secret noise N M xs) (hM : M ≤ 20) {i : Nat} (hi : i < M) (hc : xs.any (eqSh (shareAt secret noise N i)) = false) : Dealt secret noise N M (xs ++ [shareAt secret noise N i]) := by
  refine ⟨?_, ?_⟩
  · intro s hs
    rcases List.mem_append.1 hs with hs | hs
    · exact h.mem s hs
    · rw [List.mem_singleton] at hs
      exact ⟨i, hi, hs⟩
  · rw [List.map_append, List.nodup_append]
    refine ⟨h.dist, by simp, ?_⟩
    intro a ha b hb e
    obtain ⟨s, hs, rfl⟩ := List.mem_map.1 ha
    simp only [List.map_cons, List.map_nil, List.mem_singleton] at hb
    obtain ⟨j, hj, rfl⟩ := h.mem s hs
    have hij : j = i := shareAt_inj secret noise N (by omega) (by omega) (e.trans hb)
    subst hij
    have := List.any_eq_false.1 hc _ hs
    exact this (eqSh_self _)
theorem Dealt.len {secret noise : ByteArray} {N M : Nat} {xs : List Share} (hM : M ≤ 20) (hall : ∀ i, i < M → ∃ s ∈ xs, s.x = (shareAt secret noise N i).x) : M ≤ xs.length := by
  have h := subset_len ((List.range M).map (fun i => (shareAt secret noise N i).x)) (xs.map (·.x)) (by
    rw [List.nodup_iff_pairwise_ne, List.pairwise_map]
    refine List.Pairwise.imp_of_mem ?_ (List.nodup_iff_pairwise_ne.1 List.nodup_range)
    intro a b ha hb hab e
    have ha := List.mem_range.1 ha
    have hb := List.mem_range.1 hb
    exact hab (shareAt_inj secret noise N (by omega) (by omega) e)) (by
    intro a ha
    obtain ⟨i, hi, rfl⟩ := List.mem_map.1 ha
    obtain ⟨s, hs, e⟩ := hall i (List.mem_range.1 hi)
    exact List.mem_map.2 ⟨s, hs, e⟩)
  simpa using h

theorem data_size (secret noise : ByteArray) (N : Nat) (x : F) : (dataAt secret noise N x).size = secret.size := by
  rw [Lib.size_eq]
  simp [dataAt]
theorem data_get (secret noise : ByteArray) (N : Nat) (x : F) {j : Nat} (hj : j < secret.size) : (dataAt secret noise N x).data.toList[j]? = some (UInt8.ofBitVec (eval (coef secret noise N j) x)) := by
  show ((List.range secret.size).map _)[j]? = _
  rw [List.getElem?_map, List.getElem?_range hj]
  rfl

theorem Dealt.ok {secret noise : ByteArray} {N M : Nat} {xs : List Share} (h : Dealt secret noise N M xs) (hM : M ≤ 20) (hl : 0 < xs.length) (hl2 : xs.length ≤ 20) (hm : 0 < secret.size) (hm1 : secret.size ≤ 20) : SharesOk xs secret.size := by
  refine ⟨hl, hl2, hm, by omega, ?_, ?_, ?_⟩
  · intro s hs
    obtain ⟨i, _, rfl⟩ := h.mem s hs
    exact data_size _ _ _ _
  · intro s hs
    obtain ⟨i, hi, rfl⟩ := h.mem s hs
    rw [shareAt_x _ _ _ (by omega)]
    omega
  · intro i j s t hi hj hij e
    have hn := List.nodup_iff_pairwise_ne.1 h.dist
    rw [List.pairwise_map, List.pairwise_iff_getElem] at hn
    obtain ⟨h1, e1⟩ := List.getElem?_eq_some_iff.1 hi
    obtain ⟨h2, e2⟩ := List.getElem?_eq_some_iff.1 hj
    rcases Nat.lt_or_gt_of_ne hij with hlt | hlt
    · exact hn i j h1 h2 hlt (by rw [e1, e2]; exact e)
    · exact hn j i h2 h1 hlt (by rw [e1, e2]; exact e.symm)

theorem xOf_dist {xs : List Share} {m : Nat} (h : SharesOk xs m) : ∀ a b, a < xs.length → b < xs.length → a ≠ b → xOf xs a ≠ xOf xs b := by
  intro a b ha hb hab
  rw [xOf_at (List.getElem?_eq_getElem ha), xOf_at (List.getElem?_eq_getElem hb)]
  exact h.dist a b _ _ (List.getElem?_eq_getElem ha) (List.getElem?_eq_getElem hb) hab

/-- So many shares as are needed give the secret. -/
theorem valT_secret {secret noise : ByteArray} {N M : Nat} {xs : List Share} (h : Dealt secret noise N M xs) (hk : SharesOk xs secret.size) (hz : noise.size = secret.size * N) (hl : xs.length = N + 1) : valT xs secret.size 0#8 = secret := by
  apply ByteArray.ext
  apply Array.toList_inj.1
  apply List.ext_getElem?
  intro j
  show ((List.range secret.size).map _)[j]? = _
  rw [List.getElem?_map]
  by_cases hj : j < secret.size
  · rw [List.getElem?_range hj]
    obtain ⟨b, hb⟩ : ∃ b, secret.data.toList[j]? = some b := ⟨_, List.getElem?_eq_getElem (by rw [← Lib.size_eq]; exact hj)⟩
    rw [hb]
    simp only [Option.map_some, Option.some.injEq]
    have hc : (coef secret noise N j).length ≤ xs.length := by
      show (nzOf noise N j).length + 1 ≤ _
      rw [nz_len hz hj]
      omega
    have e : valTo (xOf xs) (yOf xs j) 0#8 xs.length xs.length = valTo (xOf xs) (fun i => eval (coef secret noise N j) (xOf xs i)) 0#8 xs.length xs.length := valTo_congr _ (fun i hi => by
      have hx := List.getElem?_eq_getElem hi
      obtain ⟨q, _, hq⟩ := h.mem _ (List.mem_of_getElem? hx)
      rw [xOf_at hx, yOf_at hx (b := UInt8.ofBitVec (eval (coef secret noise N j) (xs[i]).x)) (by rw [hq]; exact data_get _ _ _ _ hj)])
    rw [e, lagrange (xOf xs) xs.length (xOf_dist hk) _ hc]
    have : eval (coef secret noise N j) 0#8 = b.toBitVec := by
      unfold coef
      rw [hb]
      show _ ^^^ mul _ 0#8 = _
      rw [mul_zero, BitVec.xor_zero]
      rfl
    rw [this]
  · rw [List.getElem?_eq_none (by simp; omega), List.getElem?_eq_none (by rw [← Lib.size_eq]; omega)]
    rfl

/-- The shares with another text of the last one. -/
def lastSet (xs : List Share) (d : ByteArray) : List Share := xs.set (xs.length - 1) ⟨xOf xs (xs.length - 1), d⟩
theorem lastSet_len (xs : List Share) (d : ByteArray) : (lastSet xs d).length = xs.length := by simp [lastSet]
theorem lastSet_x (xs : List Share) (d : ByteArray) {i : Nat} (hi : i < xs.length) : xOf (lastSet xs d) i = xOf xs i := by
  unfold lastSet
  by_cases e : xs.length - 1 = i
  · subst e
    exact xOf_at (by rw [List.getElem?_set_self hi])
  · unfold xOf
    rw [List.getElem?_set_ne e]
theorem lastSet_y (xs : List Share) (d : ByteArray) (j : Nat) {i : Nat} (hi : i < xs.length - 1) : yOf (lastSet xs d) j i = yOf xs j i := by
  unfold lastSet yOf
  rw [List.getElem?_set_ne (by omega)]
theorem lastSet_ok {xs : List Share} {m : Nat} (h : SharesOk xs m) {d : ByteArray} (hd : d.size = m) : SharesOk (lastSet xs d) m := by
  have hn := h.n0
  refine ⟨by rw [lastSet_len]; exact h.n0, by rw [lastSet_len]; exact h.n1, h.m0, h.m1, ?_, ?_, ?_⟩
  · intro s hs
    rcases List.mem_or_eq_of_mem_set hs with hs | rfl
    · exact h.size s hs
    · exact hd
  · intro s hs
    rcases List.mem_or_eq_of_mem_set hs with hs | rfl
    · exact h.pos s hs
    · have hx := List.getElem?_eq_getElem (show xs.length - 1 < xs.length by omega)
      show 0 < (xOf xs (xs.length - 1)).toNat
      rw [xOf_at hx]
      exact h.pos _ (List.mem_of_getElem? hx)
  · intro i j s t hi hj hij
    have hil : i < xs.length := by have := (List.getElem?_eq_some_iff.1 hi).1; rw [lastSet_len] at this; exact this
    have hjl : j < xs.length := by have := (List.getElem?_eq_some_iff.1 hj).1; rw [lastSet_len] at this; exact this
    have h1 := xOf_at hi
    have h2 := xOf_at hj
    rw [lastSet_x _ _ hil] at h1
    rw [lastSet_x _ _ hjl] at h2
    rw [← h1, ← h2]
    exact xOf_dist h i j hil hjl hij

theorem wtTo_congr {x x' : Nat → F} {z : F} {i : Nat} (k : Nat) (hi : x i = x' i) (h : ∀ j, j < k → x j = x' j) : wtTo x z i k = wtTo x' z i k := by
  induction k with
  | zero => rfl
  | succ k ih =>
    unfold wtTo
    rw [ih (fun j hj => h j (by omega)), h k (by omega), hi]
theorem valTo_congr2 {x x' y y' : Nat → F} {z : F} {n : Nat} (k : Nat) (hk : k ≤ n) (hx : ∀ i, i < n → x i = x' i) (hy : ∀ i, i < k → y i = y' i) : valTo x y z n k = valTo x' y' z n k := by
  induction k with
  | zero => rfl
  | succ k ih =>
    unfold valTo
    rw [ih (by omega) (fun i hi => hy i (by omega)), hy k (by omega), wtTo_congr n (hx k (by omega)) hx]

/-- The secret's first byte, by the first byte of the last share's text. -/
def fstOf (xs : List Share) (v : F) : F := valTo (xOf xs) (yOf xs 0) 0#8 xs.length (xs.length - 1) ^^^ mul (wtTo (xOf xs) 0#8 (xs.length - 1) xs.length) v
theorem valT_first {xs : List Share} {m : Nat} (h : SharesOk xs m) {d : ByteArray} {v : UInt8} (hv : d.data.toList[0]? = some v) : (valT (lastSet xs d) m 0#8).data.toList[0]? = some (UInt8.ofBitVec (fstOf xs v.toBitVec)) := by
  have hn := h.n0
  show ((List.range m).map _)[0]? = _
  rw [List.getElem?_map, List.getElem?_range h.m0]
  simp only [Option.map_some, Option.some.injEq]
  congr 1
  rw [lastSet_len]
  unfold fstOf
  obtain ⟨n, hn'⟩ : ∃ n, xs.length = n + 1 := ⟨xs.length - 1, by omega⟩
  rw [hn']
  simp only [Nat.add_sub_cancel]
  show valTo _ _ _ _ n ^^^ mul _ _ = _
  have e1 : valTo (xOf (lastSet xs d)) (yOf (lastSet xs d) 0) 0#8 (n + 1) n = valTo (xOf xs) (yOf xs 0) 0#8 (n + 1) n := valTo_congr2 n (by omega) (fun i hi => lastSet_x xs d (by omega)) (fun i hi => lastSet_y xs d 0 (by omega))
  have e2 : wtTo (xOf (lastSet xs d)) 0#8 n (n + 1) = wtTo (xOf xs) 0#8 n (n + 1) := wtTo_congr (n + 1) (lastSet_x xs d (by omega)) (fun j hj => lastSet_x xs d (by omega))
  have e3 : yOf (lastSet xs d) 0 n = v.toBitVec := by
    refine yOf_at (s := ⟨xOf xs (xs.length - 1), d⟩) ?_ hv
    unfold lastSet
    rw [show n = xs.length - 1 by omega, List.getElem?_set_self (by omega)]
  rw [e1, e2, e3]
theorem fstOf_inj {xs : List Share} {m : Nat} (h : SharesOk xs m) {u v : F} (e : fstOf xs u = fstOf xs v) : u = v := by
  have hn := h.n0
  unfold fstOf at e
  have hw : wtTo (xOf xs) 0#8 (xs.length - 1) xs.length ≠ 0#8 := wtTo_ne _ _ _ _ (fun j hj hne => xOf_dist h j _ hj (by omega) hne) (fun j hj => by
    have hx := List.getElem?_eq_getElem hj
    rw [xOf_at hx]
    intro e0
    have := h.pos _ (List.mem_of_getElem? hx)
    rw [e0] at this
    simp at this)
  refine mul_inj hw ?_
  have : ∀ c a b : F, c ^^^ a = c ^^^ b → a = b := by
    intro c a b hab
    have h2 : c ^^^ (c ^^^ a) = c ^^^ (c ^^^ b) := by rw [hab]
    rwa [← BitVec.xor_assoc, ← BitVec.xor_assoc, BitVec.xor_self, BitVec.zero_xor, BitVec.zero_xor] at h2
  exact this _ _ _ e

/-- Which first bytes have been met. -/
def metTo (xs : List Share) (k : Nat) : List Bool := (List.range 256).map (fun u => (List.range k).any (fun v => (fstOf xs (BitVec.ofNat 8 v)).toNat == u))
theorem metTo_zero (xs : List Share) : metTo xs 0 = List.replicate 256 false := by
  unfold metTo
  exact range_const 256
theorem metTo_len (xs : List Share) (k : Nat) : (metTo xs k).length = 256 := by
  unfold metTo
  rw [List.length_map, List.length_range]
theorem metTo_get (xs : List Share) (k : Nat) {u : Nat} (hu : u < 256) : (metTo xs k)[u]? = some ((List.range k).any (fun v => (fstOf xs (BitVec.ofNat 8 v)).toNat == u)) := by
  unfold metTo
  rw [List.getElem?_map, List.getElem?_range hu]
  rfl
theorem metTo_new {xs : List Share} {m k : Nat} (h : SharesOk xs m) (hk : k < 256) : (metTo xs k)[(fstOf xs (BitVec.ofNat 8 k)).toNat]? = some false := by
  rw [metTo_get xs k (fstOf xs (BitVec.ofNat 8 k)).isLt]
  simp only [Option.some.injEq]
  rw [List.any_eq_false]
  intro v hv e
  have hv := List.mem_range.1 hv
  have e2 := fstOf_inj h (BitVec.eq_of_toNat_eq (by simpa using e))
  have e3 := congrArg BitVec.toNat e2
  rw [BitVec.toNat_ofNat, BitVec.toNat_ofNat] at e3
  omega
theorem metTo_step (xs : List Share) (k : Nat) : metTo xs (k + 1) = (metTo xs k).set (fstOf xs (BitVec.ofNat 8 k)).toNat true := by
  apply List.ext_getElem?
  intro i
  by_cases hi : i < 256
  · rw [metTo_get xs (k + 1) hi, List.getElem?_set, metTo_len, List.range_succ]
    by_cases e : (fstOf xs (BitVec.ofNat 8 k)).toNat = i
    · rw [if_pos e, if_pos (by omega)]
      simp [e]
    · rw [if_neg e, metTo_get xs k hi]
      simp [e]
  · rw [List.getElem?_eq_none (by rw [metTo_len]; omega), List.getElem?_eq_none (by rw [List.length_set, metTo_len]; omega)]
end Go.Proofs.YtjcpcmiijadmcaaDoor
