/-
  A path in quotes, read byte by byte, in plain words: both readers' loops.
-/
import Derived.Test.YtfenmeacimfiaaaGreatDoorPl1
namespace Wh
open Go

/-- How far plan's reader has come: k bytes of the E between the quotes are read as out. -/
def PathInv (S : List UInt8) (E k : Nat) (out : List UInt8) (bad bad1 : Bool) : Prop :=
  (bad1 = false → bad = false ∧ escL out = S.take k) ∧ (bad = false → ∀ u, S.take E = escL u → bad1 = false ∧ ∃ u2, u = out ++ u2 ∧ (S.take E).drop k = escL u2)
theorem PathInv.start (S : List UInt8) (E : Nat) (bad : Bool) : PathInv S E 0 [] bad bad :=
  ⟨fun h => ⟨h, by simp [escL]⟩, fun h u hu => ⟨h, u, rfl, by rw [List.drop_zero]; exact hu⟩⟩
theorem drop_take_cons {S : List UInt8} {E k : Nat} {c : UInt8} (hk : k < E) (hc : S[k]? = some c) : (S.take E).drop k = c :: (S.take E).drop (k + 1) := by
  have h1 : (S.take E)[k]? = some c := by rw [List.getElem?_take_of_lt hk]; exact hc
  obtain ⟨h2, h3⟩ := List.getElem?_eq_some_iff.1 h1
  rw [List.drop_eq_getElem_cons h2, h3]
theorem take_snoc {S : List UInt8} {k : Nat} {c : UInt8} (hc : S[k]? = some c) : S.take (k + 1) = S.take k ++ [c] := by rw [List.take_add_one, hc]; rfl
/-- A byte that stands for itself, or should not. -/
theorem PathInv.plain {S : List UInt8} {E k : Nat} {out : List UInt8} {bad bad1 : Bool} {c : UInt8} (h : PathInv S E k out bad bad1) (hk : k < E) (hc : S[k]? = some c) (h92 : c ≠ 92) :
    PathInv S E (k + 1) (out ++ [c]) bad (bad1 || specB c) := by
  refine ⟨fun hb => ?_, fun hb u hu => ?_⟩
  · rw [Bool.or_eq_false_iff] at hb
    obtain ⟨h1, h2⟩ := h.1 hb.1
    refine ⟨h1, ?_⟩
    rw [escL_snoc, h2, take_snoc hc]
    unfold escB
    rw [hb.2]
    rfl
  · obtain ⟨h1, u2, h2, h3⟩ := h.2 hb u hu
    rw [drop_take_cons hk hc] at h3
    obtain ⟨v, l', h4, h5⟩ := escL_first h3.symm
    rcases h5 with ⟨_, h6, h7, h8⟩ | ⟨h6, _⟩
    · subst h7
      exact ⟨by rw [h1, h6]; rfl, l', by rw [h2, h4]; simp, h8⟩
    · exact absurd h6 h92
/-- The bytes behind a backslash. -/
def three (S : List UInt8) (E k : Nat) : List UInt8 := (S.take (min (k + 4) E)).drop (k + 1)
theorem three_len {S : List UInt8} {E k : Nat} (h4 : k + 4 ≤ E) (hE : E ≤ S.length) : (three S E k).length = 3 := by
  unfold three
  rw [List.length_drop, List.length_take]
  omega
theorem three_le (S : List UInt8) (E k : Nat) : (three S E k).length ≤ 3 := by
  unfold three
  rw [List.length_drop, List.length_take]
  omega
theorem three_split {S : List UInt8} {E k : Nat} (h4 : k + 4 ≤ E) : (S.take E).drop (k + 1) = three S E k ++ (S.take E).drop (k + 4) := by
  unfold three
  rw [Nat.min_eq_left h4]
  have e1 : (S.take (k + 4)) = (S.take E).take (k + 4) := by rw [List.take_take, Nat.min_eq_left h4]
  rw [e1]
  generalize S.take E = L
  have e2 := List.take_append_drop 3 (L.drop (k + 1))
  rw [List.drop_drop] at e2
  rw [List.drop_take, show k + 4 - (k + 1) = 3 by omega]
  exact e2.symm
/-- Three digits. -/
theorem PathInv.oct {S : List UInt8} {E k n : Nat} {out : List UInt8} {bad bad1 : Bool} (h : PathInv S E k out bad bad1) (hE : E ≤ S.length) (hc : S[k]? = some 92) (h4 : k + 4 ≤ E) (hn : octVal (three S E k) = some n) (hs : specB (UInt8.ofNat n) = true) :
    PathInv S E (k + 4) (out ++ [UInt8.ofNat n]) bad bad1 := by
  have h3 := oct3_back (three_len h4 hE) hn
  refine ⟨fun hb => ?_, fun hb u hu => ?_⟩
  · obtain ⟨h1, h2⟩ := h.1 hb
    refine ⟨h1, ?_⟩
    rw [escL_snoc, h2]
    unfold escB
    rw [hs, if_pos rfl, ← h3]
    have e1 : S.take (k + 4) = S.take k ++ (S.take (k + 4)).drop k := by
      have := List.take_append_drop k (S.take (k + 4))
      rw [List.take_take, Nat.min_eq_left (by omega)] at this
      exact this.symm
    rw [e1]
    congr 1
    rw [drop_take_cons (by omega) hc]
    unfold three
    rw [Nat.min_eq_left h4]
  · obtain ⟨h1, u2, h2, h5⟩ := h.2 hb u hu
    rw [drop_take_cons (by omega) hc] at h5
    obtain ⟨v, l', h6, h7⟩ := escL_first h5.symm
    rcases h7 with ⟨h8, _⟩ | ⟨_, h8, h9⟩
    · exact absurd rfl h8
    · rw [three_split h4, h3] at h9
      obtain ⟨h10, h11⟩ := oct3_inj h9
      exact ⟨h1, l', by rw [h2, h6, h10]; simp, h11⟩
/-- What is no three digits of a byte that is written with digits. -/
theorem PathInv.odd {S : List UInt8} {E k : Nat} {out : List UInt8} {bad bad1 : Bool} (h : PathInv S E k out bad bad1) (hk : k < E) (hE : E ≤ S.length) (hc : S[k]? = some 92) (ho : E < k + 4 ∨ octVal (three S E k) = none ∨ ∃ n, octVal (three S E k) = some n ∧ specB (UInt8.ofNat n) = false) :
    bad = false → ∀ u, S.take E ≠ escL u := by
  intro hb u hu
  obtain ⟨_, u2, _, h5⟩ := h.2 hb u hu
  rw [drop_take_cons hk hc] at h5
  obtain ⟨v, l', _, h7⟩ := escL_first h5.symm
  rcases h7 with ⟨h8, _⟩ | ⟨_, h8, h9⟩
  · exact absurd rfl h8
  · have hl := congrArg List.length h9
    have h3 : (oct3 v).length = 3 := rfl
    rw [List.length_append, h3, List.length_drop, List.length_take, Nat.min_eq_left hE] at hl
    have h4 : k + 4 ≤ E := by omega
    have hl3 := three_len h4 hE
    rw [three_split h4] at h9
    have h10 : three S E k = oct3 v := List.append_inj_left h9 (by rw [hl3, h3])
    rcases ho with ho | ho | ⟨n, ho, hs⟩
    · omega
    · rw [h10, octVal_oct3] at ho
      cases ho
    · rw [h10, octVal_oct3] at ho
      injection ho with ho
      rw [← ho] at hs
      simp only [UInt8.ofNat_toNat] at hs
      rw [h8] at hs
      cases hs
theorem PathInv.finish {S : List UInt8} {E : Nat} {out : List UInt8} {bad bad1 : Bool} (h : PathInv S E E out bad bad1) : (bad1 = false → bad = false ∧ escL out = S.take E) ∧ (bad = false → ∀ u, S.take E = escL u → bad1 = false) := ⟨h.1, fun hb u hu => (h.2 hb u hu).1⟩
/-- What stands between the first quotes. -/
theorem quoted_split {S u q : List UInt8} {E : Nat} (h34 : S[E]? = some 34) (hno : ∀ j, j < E → S[j]? ≠ some 34) (h : S = escL u ++ 34 :: q) : S.take E = escL u ∧ S.drop (E + 1) = q := by
  have e1 : S = S.take E ++ 34 :: S.drop (E + 1) := by
    obtain ⟨h2, h3⟩ := List.getElem?_eq_some_iff.1 h34
    rw [← h3, ← List.drop_eq_getElem_cons h2, List.take_append_drop]
  refine first_sep (fun b hb => ?_) (escL_no u) (e1.symm.trans h)
  rintro rfl
  obtain ⟨j, hj⟩ := List.getElem?_of_mem hb
  have hjk : j < E := by
    have := (List.getElem?_eq_some_iff.1 hj).1
    simp at this
    omega
  rw [List.getElem?_take_of_lt hjk] at hj
  exact hno j hjk hj
theorem quoted_join {S : List UInt8} {E : Nat} (h34 : S[E]? = some 34) : S = S.take E ++ 34 :: S.drop (E + 1) := by
  obtain ⟨h2, h3⟩ := List.getElem?_eq_some_iff.1 h34
  rw [← h3, ← List.drop_eq_getElem_cons h2, List.take_append_drop]
theorem quotedL_app (u q : List UInt8) : quotedL u ++ q = 34 :: (escL u ++ 34 :: q) := by simp [quotedL]
end Wh
