/-
  A step's line read word by word, in plain words: what the readers of words say is put together.
-/
import Derived.Test.YtfenmeacimfiaaaGreatDoorPl2
import Derived.Test.YtfenmeacimfiaaaGreatDoorPw1
namespace Wh
open Go

def inI (v : Int) : Prop := -9223372036854775808 ≤ v ∧ v ≤ 9223372036854775807
/-- A number was read: soundly, and not missed. -/
def NumR (l : List UInt8) (bad : Bool) (v : Int) (r : List UInt8) (bad' : Bool) : Prop :=
  (bad' = false → bad = false ∧ CutW l (Lib.itoa v) r) ∧ (bad = false → ∀ u q, inI u → CutW l (Lib.itoa u) q → bad' = false)
def PathR (l : List UInt8) (bad : Bool) (p r : List UInt8) (bad' : Bool) : Prop :=
  (bad' = false → bad = false ∧ l = quotedL p ++ r) ∧ (bad = false → ∀ u q, l = quotedL u ++ q → bad' = false)
def NextR (l : List UInt8) (bad : Bool) (r : List UInt8) (bad' : Bool) : Prop :=
  (bad' = false → bad = false ∧ l = 32 :: r) ∧ (bad = false → ∀ q, l = 32 :: q → bad' = false)
theorem quoted_uniq {u v a b : List UInt8} (h : quotedL u ++ a = quotedL v ++ b) : u = v ∧ a = b := by
  rw [quotedL_app, quotedL_app] at h
  injection h with _ h
  obtain ⟨h1, h2⟩ := first_sep (escL_no u) (escL_no v) h
  exact ⟨escL_inj h1, h2⟩
theorem NumR.both {l r q : List UInt8} {bad bad' : Bool} {v u : Int} (h : NumR l bad v r bad') (hb : bad = false) (hu : inI u) (hq : CutW l (Lib.itoa u) q) : bad' = false ∧ u = v ∧ q = r := by
  have h1 := h.2 hb u q hu hq
  obtain ⟨h2, h3⟩ := cutW_uniq hq (h.1 h1).2
  exact ⟨h1, itoa_inj h2, h3⟩
theorem PathR.both {l p r u q : List UInt8} {bad bad' : Bool} (h : PathR l bad p r bad') (hb : bad = false) (hq : l = quotedL u ++ q) : bad' = false ∧ u = p ∧ q = r := by
  have h1 := h.2 hb u q hq
  obtain ⟨h2, h3⟩ := quoted_uniq (hq.symm.trans (h.1 h1).2)
  exact ⟨h1, h2, h3⟩
theorem NextR.both {l r q : List UInt8} {bad bad' : Bool} (h : NextR l bad r bad') (hb : bad = false) (hq : l = 32 :: q) : bad' = false ∧ q = r := by
  have h1 := h.2 hb q hq
  have h2 := hq.symm.trans (h.1 h1).2
  injection h2 with _ h2
  exact ⟨h1, h2⟩

/-- What a reader of a step says of the line. -/
def StepR (k : Nat) (l : List UInt8) (bad : Bool) (s : StepL) (r : List UInt8) (bad' : Bool) : Prop :=
  (bad' = false → r = [] → bad = false ∧ ReadsS s l) ∧ (bad = false → ∀ t : StepL, t.kind = k → inI t.size → inI t.time → ReadsS t l → bad' = false ∧ r = [])

theorem stepR_two {k : Nat} (h1 : ((k == 2 || k == 3) = false)) (h2 : (k == 4 || k == 5) = true) {l r1 r2 r3 p : List UInt8} {b b1 b2 b3 : Bool} {z m : Int}
    (n1 : NumR l b z r1 b1) (n2 : NumR r1 b1 m r2 b2) (n3 : PathR r2 b2 p r3 b3) : StepR k l b ⟨k, p, [], z, m⟩ r3 b3 := by
  refine ⟨fun hb hr => ?_, fun hb t hk hz hm ht => ?_⟩
  · obtain ⟨x3, y3⟩ := n3.1 hb
    obtain ⟨x2, y2⟩ := n2.1 x3
    obtain ⟨x1, y1⟩ := n1.1 x2
    refine ⟨x1, r1, r2, r3, r3, ?_, ?_, y3, ?_, hr⟩
    · simp only [StepL.has, h2, if_true]; exact y1
    · simp only [StepL.has, h2, Bool.true_or, if_true]; exact y2
    · simp only [StepL.has, h1, Bool.false_eq_true, if_false]
  · obtain ⟨q1, q2, q3, q4, t1, t2, t3, t4, t5⟩ := ht
    simp only [StepL.has, hk, h1, h2, Bool.true_or, if_true, Bool.false_eq_true, if_false] at t1 t2 t4
    obtain ⟨a1, _, rfl⟩ := n1.both hb hz t1
    obtain ⟨a2, _, rfl⟩ := n2.both a1 hm t2
    obtain ⟨a3, _, rfl⟩ := n3.both a2 t3
    exact ⟨a3, by rw [← t4, t5]⟩
theorem stepR_one {k : Nat} (h1 : ((k == 2 || k == 3) = false)) (h2 : (k == 4 || k == 5) = false) (h3 : (k == 6) = true) {l r2 r3 p : List UInt8} {b b2 b3 : Bool} {m : Int}
    (n2 : NumR l b m r2 b2) (n3 : PathR r2 b2 p r3 b3) : StepR k l b ⟨k, p, [], 0, m⟩ r3 b3 := by
  refine ⟨fun hb hr => ?_, fun hb t hk _ hm ht => ?_⟩
  · obtain ⟨x3, y3⟩ := n3.1 hb
    obtain ⟨x2, y2⟩ := n2.1 x3
    refine ⟨x2, l, r2, r3, r3, ?_, ?_, y3, ?_, hr⟩
    · simp only [StepL.has, h2, Bool.false_eq_true, if_false]
    · simp only [StepL.has, h2, h3, Bool.false_or, if_true]; exact y2
    · simp only [StepL.has, h1, Bool.false_eq_true, if_false]
  · obtain ⟨q1, q2, q3, q4, t1, t2, t3, t4, t5⟩ := ht
    simp only [StepL.has, hk, h1, h2, h3, Bool.false_or, if_true, Bool.false_eq_true, if_false] at t1 t2 t4
    subst t1
    obtain ⟨a2, _, rfl⟩ := n2.both hb hm t2
    obtain ⟨a3, _, rfl⟩ := n3.both a2 t3
    exact ⟨a3, by rw [← t4, t5]⟩
theorem stepR_none {k : Nat} (h1 : ((k == 2 || k == 3) = false)) (h2 : (k == 4 || k == 5) = false) (h3 : (k == 6) = false) {l r3 p : List UInt8} {b b3 : Bool}
    (n3 : PathR l b p r3 b3) : StepR k l b ⟨k, p, [], 0, 0⟩ r3 b3 := by
  refine ⟨fun hb hr => ?_, fun hb t hk _ _ ht => ?_⟩
  · obtain ⟨x3, y3⟩ := n3.1 hb
    refine ⟨x3, l, l, r3, r3, ?_, ?_, y3, ?_, hr⟩
    · simp only [StepL.has, h2, Bool.false_eq_true, if_false]
    · simp only [StepL.has, h2, h3, Bool.false_or, Bool.false_eq_true, if_false]
    · simp only [StepL.has, h1, Bool.false_eq_true, if_false]
  · obtain ⟨q1, q2, q3, q4, t1, t2, t3, t4, t5⟩ := ht
    simp only [StepL.has, hk, h1, h2, h3, Bool.false_or, Bool.false_eq_true, if_false] at t1 t2 t4
    subst t1 t2
    obtain ⟨a3, _, rfl⟩ := n3.both hb t3
    exact ⟨a3, by rw [← t4, t5]⟩
theorem stepR_to {k : Nat} (h1 : ((k == 2 || k == 3) = true)) (h2 : (k == 4 || k == 5) = false) (h3 : (k == 6) = false) {l r3 r4 r5 p o : List UInt8} {b b3 b4 b5 : Bool}
    (n3 : PathR l b p r3 b3) (n4 : NextR r3 b3 r4 b4) (n5 : PathR r4 b4 o r5 b5) : StepR k l b ⟨k, p, o, 0, 0⟩ r5 b5 := by
  refine ⟨fun hb hr => ?_, fun hb t hk _ _ ht => ?_⟩
  · obtain ⟨x5, y5⟩ := n5.1 hb
    obtain ⟨x4, y4⟩ := n4.1 x5
    obtain ⟨x3, y3⟩ := n3.1 x4
    refine ⟨x3, l, l, r3, r5, ?_, ?_, y3, ?_, hr⟩
    · simp only [StepL.has, h2, Bool.false_eq_true, if_false]
    · simp only [StepL.has, h2, h3, Bool.false_or, Bool.false_eq_true, if_false]
    · simp only [StepL.has, h1, if_true]; rw [y4, y5]
  · obtain ⟨q1, q2, q3, q4, t1, t2, t3, t4, t5⟩ := ht
    simp only [StepL.has, hk, h1, h2, h3, Bool.false_or, Bool.false_eq_true, if_false, if_true] at t1 t2 t4
    subst t1 t2
    obtain ⟨a3, _, rfl⟩ := n3.both hb t3
    obtain ⟨a4, rfl⟩ := n4.both a3 t4
    obtain ⟨a5, _, rfl⟩ := n5.both a4 rfl
    exact ⟨a5, t5⟩
end Wh
