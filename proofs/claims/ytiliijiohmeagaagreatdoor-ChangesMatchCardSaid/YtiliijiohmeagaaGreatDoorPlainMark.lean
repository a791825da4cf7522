/-
  Marks and changes, in plain Lean: the merge of two rising lists is the sorted list of the reference.
-/
import Derived.Test.YtiliijiohmeagaaGreatDoorPlainOrder
namespace Wh
open Go

structure Mark where
  path : ByteArray
  size : Int
  time : Int
  sum : ByteArray

structure Change where
  kind : Int
  path : ByteArray

/-- The order of two texts. -/
def ordB (a b : ByteArray) : Int := cmpL a.data.toList b.data.toList

theorem ordB_self (a : ByteArray) : ordB a a = 0 := (cmpL_zero _ _).2 rfl
theorem ordB_zero {a b : ByteArray} (h : ordB a b = 0) : a = b := by
  have h2 := (cmpL_zero _ _).1 h
  cases a; cases b
  exact congrArg ByteArray.mk (Array.toList_inj.1 h2)
theorem ordB_swap (a b : ByteArray) : ordB b a = -ordB a b := cmpL_swap _ _
theorem ordB_trans {a b c : ByteArray} (h1 : ordB a b < 0) (h2 : ordB b c < 0) : ordB a c < 0 := by
  have h : ordB a c ≤ 0 := cmpL_trans _ _ _ (Int.le_of_lt h1) (Int.le_of_lt h2)
  by_cases e : ordB a c = 0
  · have := ordB_zero e
    subst this
    rw [ordB_swap] at h2
    omega
  · omega

/-- Whether each path is before the next. -/
def rising : List Mark → Bool
  | [] => true
  | [_] => true
  | a :: b :: t => decide (ordB a.path b.path < 0) && rising (b :: t)

def differM (a b : Mark) (y : Int) : Bool := a.size != b.size || (y == 2 && a.time != b.time) || (y == 3 && !(a.sum.toList == b.sum.toList))
theorem differM_eq (a b : Mark) (y : Int) : differM a b y = (a.size != b.size || (y == 2 && a.time != b.time) || (y == 3 && !(a.sum.toList == b.sum.toList))) := rfl

def changeOf (a b : Option Mark) (y : Int) : Int :=
  match a, b with
  | none, none => 0
  | none, some _ => 1
  | some _, none => 3
  | some a, some b => if differM a b y then 2 else 0

/-- What is said of one path. -/
def said (k : Int) (p : ByteArray) : List Change := if k = 0 then [] else [⟨k, p⟩]

/-- The changes, path by path. -/
def mergeC (y : Int) : Nat → List Mark → List Mark → List Change
  | 0, _, _ => []
  | _ + 1, [], [] => []
  | g + 1, [], b :: nb => said 1 b.path ++ mergeC y g [] nb
  | g + 1, a :: oa, [] => said 3 a.path ++ mergeC y g oa []
  | g + 1, a :: oa, b :: nb =>
    if ordB a.path b.path < 0 then said 3 a.path ++ mergeC y g oa (b :: nb)
    else if 0 < ordB a.path b.path then said 1 b.path ++ mergeC y g (a :: oa) nb
    else said (if differM a b y then 2 else 0) b.path ++ mergeC y g oa nb

theorem ba_eq' {a b : ByteArray} : a.data = b.data ↔ a = b := by
  constructor
  · intro h; cases a; cases b; exact congrArg ByteArray.mk h
  · rintro rfl; rfl
theorem ba_eq {a b : ByteArray} : a.data.toList = b.data.toList ↔ a = b := by
  constructor
  · intro h; cases a; cases b; exact congrArg ByteArray.mk (Array.toList_inj.1 h)
  · rintro rfl; rfl

/-- The place of a path. -/
def findM (l : List Mark) (p : ByteArray) : Option Nat := l.findIdx? (fun m => m.path.toList == p.toList)

/-- What the reference says of a mark that is there. -/
def sayNow (old : List Mark) (y : Int) (m : Mark) : List Change :=
  match findM old m.path with
  | none => [⟨1, m.path⟩]
  | some i => match old[i]? with
    | some o => if differM o m y then [⟨2, m.path⟩] else []
    | none => []

def sayOld (now : List Mark) (m : Mark) : List Change := if (findM now m.path).isNone then [⟨3, m.path⟩] else []

def refC (y : Int) (old now : List Mark) : List Change := now.flatMap (sayNow old y) ++ old.flatMap (sayOld now)

/-- Each is before all that follow. -/
def Up (l : List Mark) : Prop := l.Pairwise (fun a b => ordB a.path b.path < 0)

theorem rising_up : ∀ {l : List Mark}, rising l = true → Up l
  | [], _ => List.Pairwise.nil
  | [_], _ => List.pairwise_singleton _ _
  | a :: b :: t, h => by
    simp only [rising, Bool.and_eq_true, decide_eq_true_eq] at h
    have ih := rising_up h.2
    refine List.pairwise_cons.2 ⟨fun c hc => ?_, ih⟩
    rcases List.mem_cons.1 hc with rfl | hc
    · exact h.1
    · exact ordB_trans h.1 ((List.pairwise_cons.1 ih).1 c hc)

theorem findM_none {l : List Mark} {p : ByteArray} : findM l p = none ↔ ∀ m ∈ l, m.path ≠ p := by
  simp [findM, List.findIdx?_eq_none_iff, Lib.toList_data, ba_eq']

theorem findM_some {l : List Mark} {p : ByteArray} {i : Nat} (h : findM l p = some i) : ∃ o, l[i]? = some o ∧ o ∈ l ∧ o.path = p := by
  obtain ⟨hi, h1, _⟩ := List.findIdx?_eq_some_iff_getElem.1 h
  exact ⟨l[i], List.getElem?_eq_getElem hi, List.getElem_mem hi, by simpa [Lib.toList_data, ba_eq'] using h1⟩

theorem up_inj {l : List Mark} (h : Up l) {a b : Mark} (ha : a ∈ l) (hb : b ∈ l) (he : a.path = b.path) : a = b := by
  induction l with
  | nil => cases ha
  | cons x t ih =>
    obtain ⟨h1, h2⟩ := List.pairwise_cons.1 h
    rcases List.mem_cons.1 ha with e1 | ha' <;> rcases List.mem_cons.1 hb with e2 | hb'
    · rw [e1, e2]
    · have := h1 _ hb'; rw [← e1, he, ordB_self] at this; omega
    · have := h1 _ ha'; rw [← e2, ← he, ordB_self] at this; omega
    · exact ih h2 ha' hb'

/-- What a change has to do with the two lists. -/
def Tells (y : Int) (old now : List Mark) (c : Change) : Prop :=
  (∃ m ∈ now, c.path = m.path ∧ (((∀ o ∈ old, o.path ≠ m.path) ∧ c.kind = 1) ∨ ∃ o ∈ old, o.path = m.path ∧ differM o m y = true ∧ c.kind = 2)) ∨
    (∃ o ∈ old, c.path = o.path ∧ (∀ m ∈ now, m.path ≠ o.path) ∧ c.kind = 3)

theorem mem_said {k : Int} {p : ByteArray} {c : Change} : c ∈ said k p ↔ k ≠ 0 ∧ c.kind = k ∧ c.path = p := by
  unfold said
  split
  · rename_i h; simp [h]
  · rename_i h
    simp only [List.mem_singleton]
    constructor
    · rintro rfl; exact ⟨h, rfl, rfl⟩
    · rintro ⟨_, h1, h2⟩
      cases c
      simp only at h1 h2
      rw [h1, h2]

theorem refC_mem {y : Int} {old now : List Mark} (ho : Up old) {c : Change} : c ∈ refC y old now ↔ Tells y old now c := by
  unfold refC Tells
  rw [List.mem_append, List.mem_flatMap, List.mem_flatMap]
  refine or_congr (exists_congr fun m => and_congr_right fun hm => ?_) (exists_congr fun o => and_congr_right fun hmo => ?_)
  · unfold sayNow
    cases hf : findM old m.path with
    | none =>
      have hn := findM_none.1 hf
      simp only [List.mem_singleton]
      constructor
      · rintro rfl; exact ⟨rfl, .inl ⟨hn, rfl⟩⟩
      · rintro ⟨h1, h2 | ⟨o, ho', h2, _⟩⟩
        · cases c; simp only at h1 h2; rw [h1, h2.2]
        · exact absurd h2 (hn o ho')
    | some i =>
      obtain ⟨o, hi, hmo, hp⟩ := findM_some hf
      simp only [hi]
      by_cases hd : differM o m y = true
      · rw [if_pos hd]
        simp only [List.mem_singleton]
        constructor
        · rintro rfl; exact ⟨rfl, .inr ⟨o, hmo, hp, hd, rfl⟩⟩
        · rintro ⟨h1, h2 | ⟨o', _, _, _, h2⟩⟩
          · exact absurd hp (h2.1 o hmo)
          · cases c; simp only at h1 h2; rw [h1, h2]
      · rw [if_neg hd]
        simp only [List.not_mem_nil, false_iff]
        rintro ⟨h1, h2 | ⟨o', hmo', hp', hd', h2⟩⟩
        · exact absurd hp (h2.1 o hmo)
        · exact hd (by rw [up_inj ho hmo hmo' (hp.trans hp'.symm)]; exact hd')
  · unfold sayOld
    cases hf : findM now o.path with
    | none =>
      have hn := findM_none.1 hf
      simp only [Option.isNone_none, if_true, List.mem_singleton]
      constructor
      · rintro rfl; exact ⟨rfl, hn, rfl⟩
      · rintro ⟨h1, _, h2⟩; cases c; simp only at h1 h2; rw [h1, h2]
    | some i =>
      obtain ⟨m, _, hm, hp⟩ := findM_some hf
      simp only [Option.isNone_some, Bool.false_eq_true, if_false, List.not_mem_nil, false_iff]
      rintro ⟨_, h2, _⟩
      exact h2 m hm hp

theorem up_tail {a : Mark} {l : List Mark} (h : Up (a :: l)) : Up l := (List.pairwise_cons.1 h).2
theorem up_head {a : Mark} {l : List Mark} (h : Up (a :: l)) : ∀ m ∈ l, ordB a.path m.path < 0 := (List.pairwise_cons.1 h).1
theorem ne_of_lt {a b : ByteArray} (h : ordB a b < 0) : a ≠ b := by rintro rfl; rw [ordB_self] at h; omega

theorem mergeC_mem (y : Int) : ∀ (g : Nat) (old now : List Mark), old.length + now.length ≤ g → Up old → Up now → ∀ c : Change, c ∈ mergeC y g old now ↔ Tells y old now c
  | 0, old, now, hg, _, _, c => by
    have h1 : old = [] := List.length_eq_zero_iff.1 (by omega)
    have h2 : now = [] := List.length_eq_zero_iff.1 (by omega)
    subst h1 h2
    simp [mergeC, Tells]
  | g + 1, [], [], _, _, _, c => by simp [mergeC, Tells]
  | g + 1, [], b :: nb, hg, ho, hn, c => by
    have ih := mergeC_mem y g [] nb (by simp at hg ⊢; omega) ho (up_tail hn) c
    rw [mergeC, List.mem_append, ih, mem_said]
    simp [Tells]
    constructor
    · rintro (⟨h1, h2⟩ | ⟨m, hm, h1, h2⟩)
      · exact .inl ⟨h2, h1⟩
      · exact .inr ⟨m, hm, h1, h2⟩
    · rintro (⟨h1, h2⟩ | ⟨m, hm, h1, h2⟩)
      · exact .inl ⟨h2, h1⟩
      · exact .inr ⟨m, hm, h1, h2⟩
  | g + 1, a :: oa, [], hg, ho, hn, c => by
    have ih := mergeC_mem y g oa [] (by simp at hg ⊢; omega) (up_tail ho) hn c
    rw [mergeC, List.mem_append, ih, mem_said]
    simp [Tells]
    constructor
    · rintro (⟨h1, h2⟩ | ⟨m, hm, h1, h2⟩)
      · exact .inl ⟨h2, h1⟩
      · exact .inr ⟨m, hm, h1, h2⟩
    · rintro (⟨h1, h2⟩ | ⟨m, hm, h1, h2⟩)
      · exact .inl ⟨h2, h1⟩
      · exact .inr ⟨m, hm, h1, h2⟩
  | g + 1, a :: oa, b :: nb, hg, ho, hn, c => by
    have ha := up_head ho
    have hb := up_head hn
    rw [mergeC]
    split
    · rename_i h1
      have ih := mergeC_mem y g oa (b :: nb) (by simp at hg ⊢; omega) (up_tail ho) hn c
      rw [List.mem_append, ih, mem_said]
      have hall : ∀ m ∈ b :: nb, m.path ≠ a.path := by
        intro m hm
        rcases List.mem_cons.1 hm with rfl | hm
        · exact (ne_of_lt h1).symm
        · exact (ne_of_lt (ordB_trans h1 (hb m hm))).symm
      unfold Tells
      constructor
      · rintro (⟨_, h2, h3⟩ | ⟨m, hm, h2, h3 | ⟨o, hmo, h4⟩⟩ | ⟨o, hmo, h4⟩)
        · exact .inr ⟨a, List.mem_cons_self, h3, hall, h2⟩
        · refine .inl ⟨m, hm, h2, .inl ⟨fun o hmo => ?_, h3.2⟩⟩
          rcases List.mem_cons.1 hmo with rfl | hmo
          · exact (hall m hm).symm
          · exact h3.1 o hmo
        · exact .inl ⟨m, hm, h2, .inr ⟨o, List.mem_cons_of_mem _ hmo, h4⟩⟩
        · exact .inr ⟨o, List.mem_cons_of_mem _ hmo, h4⟩
      · rintro (⟨m, hm, h2, h3 | ⟨o, hmo, h4⟩⟩ | ⟨o, hmo, h4⟩)
        · exact .inr (.inl ⟨m, hm, h2, .inl ⟨fun o hmo => h3.1 o (List.mem_cons_of_mem _ hmo), h3.2⟩⟩)
        · rcases List.mem_cons.1 hmo with rfl | hmo
          · exact absurd h4.1.symm (hall m hm)
          · exact .inr (.inl ⟨m, hm, h2, .inr ⟨o, hmo, h4⟩⟩)
        · rcases List.mem_cons.1 hmo with rfl | hmo
          · exact .inl ⟨by omega, h4.2.2, h4.1⟩
          · exact .inr (.inr ⟨o, hmo, h4⟩)
    · rename_i h1
      split
      · rename_i h2
        have h2' : ordB b.path a.path < 0 := by rw [ordB_swap]; omega
        have ih := mergeC_mem y g (a :: oa) nb (by simp at hg ⊢; omega) ho (up_tail hn) c
        rw [List.mem_append, ih, mem_said]
        have hall : ∀ o ∈ a :: oa, o.path ≠ b.path := by
          intro m hm
          rcases List.mem_cons.1 hm with rfl | hm
          · exact (ne_of_lt h2').symm
          · exact (ne_of_lt (ordB_trans h2' (ha m hm))).symm
        unfold Tells
        constructor
        · rintro (⟨_, h3, h4⟩ | ⟨m, hm, h4⟩ | ⟨o, hmo, h4, h5, h6⟩)
          · exact .inl ⟨b, List.mem_cons_self, h4, .inl ⟨hall, h3⟩⟩
          · exact .inl ⟨m, List.mem_cons_of_mem _ hm, h4⟩
          · refine .inr ⟨o, hmo, h4, fun m hm => ?_, h6⟩
            rcases List.mem_cons.1 hm with rfl | hm
            · exact (hall o hmo).symm
            · exact h5 m hm
        · rintro (⟨m, hm, h4, h5⟩ | ⟨o, hmo, h4, h5, h6⟩)
          · rcases List.mem_cons.1 hm with rfl | hm
            · rcases h5 with h5 | ⟨o, hmo, h6, _⟩
              · exact .inl ⟨by omega, h5.2, h4⟩
              · exact absurd h6 (hall o hmo)
            · exact .inr (.inl ⟨m, hm, h4, h5⟩)
          · exact .inr (.inr ⟨o, hmo, h4, fun m hm => h5 m (List.mem_cons_of_mem _ hm), h6⟩)
      · rename_i h2
        have he : a.path = b.path := ordB_zero (by omega)
        have ih := mergeC_mem y g oa nb (by simp at hg ⊢; omega) (up_tail ho) (up_tail hn) c
        rw [List.mem_append, ih, mem_said]
        have hao : ∀ o ∈ oa, o.path ≠ b.path := fun o hmo => by rw [← he]; exact (ne_of_lt (ha o hmo)).symm
        have hbn : ∀ m ∈ nb, m.path ≠ a.path := fun m hm => by rw [he]; exact (ne_of_lt (hb m hm)).symm
        unfold Tells
        constructor
        · rintro (⟨h3, h4, h5⟩ | ⟨m, hm, h4, h5 | ⟨o, hmo, h6⟩⟩ | ⟨o, hmo, h4, h5, h6⟩)
          · by_cases hd : differM a b y = true
            · rw [if_pos hd] at h4
              exact .inl ⟨b, List.mem_cons_self, h5, .inr ⟨a, List.mem_cons_self, he, hd, h4⟩⟩
            · rw [if_neg hd] at h3
              exact absurd rfl h3
          · refine .inl ⟨m, List.mem_cons_of_mem _ hm, h4, .inl ⟨fun o hmo => ?_, h5.2⟩⟩
            rcases List.mem_cons.1 hmo with rfl | hmo
            · exact (hbn m hm).symm
            · exact h5.1 o hmo
          · exact .inl ⟨m, List.mem_cons_of_mem _ hm, h4, .inr ⟨o, List.mem_cons_of_mem _ hmo, h6⟩⟩
          · refine .inr ⟨o, List.mem_cons_of_mem _ hmo, h4, fun m hm => ?_, h6⟩
            rcases List.mem_cons.1 hm with rfl | hm
            · exact (hao o hmo).symm
            · exact h5 m hm
        · rintro (⟨m, hm, h4, h5⟩ | ⟨o, hmo, h4, h5, h6⟩)
          · rcases List.mem_cons.1 hm with rfl | hm
            · rcases h5 with h5 | ⟨o, hmo, h6, h7, h8⟩
              · exact absurd he (h5.1 a List.mem_cons_self)
              · rcases List.mem_cons.1 hmo with rfl | hmo
                · rw [if_pos h7]
                  exact .inl ⟨by omega, h8, h4⟩
                · exact absurd h6 (hao o hmo)
            · rcases h5 with h5 | ⟨o, hmo, h6, h7, h8⟩
              · exact .inr (.inl ⟨m, hm, h4, .inl ⟨fun o hmo => h5.1 o (List.mem_cons_of_mem _ hmo), h5.2⟩⟩)
              · rcases List.mem_cons.1 hmo with rfl | hmo
                · exact absurd h6.symm (hbn m hm)
                · exact .inr (.inl ⟨m, hm, h4, .inr ⟨o, hmo, h6, h7, h8⟩⟩)
          · rcases List.mem_cons.1 hmo with rfl | hmo
            · exact absurd he.symm (h5 b List.mem_cons_self)
            · exact .inr (.inr ⟨o, hmo, h4, fun m hm => h5 m (List.mem_cons_of_mem _ hm), h6⟩)

/-- Sorted by path. -/
def UpC (l : List Change) : Prop := l.Pairwise (fun a b => ordB a.path b.path < 0)

theorem tells_in {y : Int} {old now : List Mark} {c : Change} (h : Tells y old now c) : (∃ m ∈ old, m.path = c.path) ∨ ∃ m ∈ now, m.path = c.path := by
  rcases h with ⟨m, hm, h1, _⟩ | ⟨o, ho, h1, _⟩
  · exact .inr ⟨m, hm, h1.symm⟩
  · exact .inl ⟨o, ho, h1.symm⟩

theorem said_up {k : Int} {p : ByteArray} {l : List Change} (h : UpC l) (hp : ∀ c ∈ l, ordB p c.path < 0) : UpC (said k p ++ l) := by
  unfold said
  split
  · exact h
  · exact List.pairwise_cons.2 ⟨hp, h⟩

theorem mergeC_up (y : Int) : ∀ (g : Nat) (old now : List Mark), old.length + now.length ≤ g → Up old → Up now → UpC (mergeC y g old now)
  | 0, _, _, _, _, _ => List.Pairwise.nil
  | g + 1, [], [], _, _, _ => List.Pairwise.nil
  | g + 1, [], b :: nb, hg, ho, hn => by
    have hl : ([] : List Mark).length + nb.length ≤ g := by simp at hg ⊢; omega
    rw [mergeC]
    refine said_up (mergeC_up y g [] nb hl ho (up_tail hn)) fun c hc => ?_
    rcases tells_in ((mergeC_mem y g [] nb hl ho (up_tail hn) c).1 hc) with ⟨m, hm, h⟩ | ⟨m, hm, h⟩
    · cases hm
    · rw [← h]; exact up_head hn m hm
  | g + 1, a :: oa, [], hg, ho, hn => by
    have hl : oa.length + ([] : List Mark).length ≤ g := by simp at hg ⊢; omega
    rw [mergeC]
    refine said_up (mergeC_up y g oa [] hl (up_tail ho) hn) fun c hc => ?_
    rcases tells_in ((mergeC_mem y g oa [] hl (up_tail ho) hn c).1 hc) with ⟨m, hm, h⟩ | ⟨m, hm, h⟩
    · rw [← h]; exact up_head ho m hm
    · cases hm
  | g + 1, a :: oa, b :: nb, hg, ho, hn => by
    have ha := up_head ho
    have hb := up_head hn
    rw [mergeC]
    split
    · rename_i h1
      have hl : oa.length + (b :: nb).length ≤ g := by simp at hg ⊢; omega
      refine said_up (mergeC_up y g oa (b :: nb) hl (up_tail ho) hn) fun c hc => ?_
      rcases tells_in ((mergeC_mem y g _ _ hl (up_tail ho) hn c).1 hc) with ⟨m, hm, h⟩ | ⟨m, hm, h⟩
      · rw [← h]; exact ha m hm
      · rw [← h]
        rcases List.mem_cons.1 hm with rfl | hm
        · exact h1
        · exact ordB_trans h1 (hb m hm)
    · rename_i h1
      split
      · rename_i h2
        have h2' : ordB b.path a.path < 0 := by rw [ordB_swap]; omega
        have hl : (a :: oa).length + nb.length ≤ g := by simp at hg ⊢; omega
        refine said_up (mergeC_up y g (a :: oa) nb hl ho (up_tail hn)) fun c hc => ?_
        rcases tells_in ((mergeC_mem y g _ _ hl ho (up_tail hn) c).1 hc) with ⟨m, hm, h⟩ | ⟨m, hm, h⟩
        · rw [← h]
          rcases List.mem_cons.1 hm with rfl | hm
          · exact h2'
          · exact ordB_trans h2' (ha m hm)
        · rw [← h]; exact hb m hm
      · rename_i h2
        have he : a.path = b.path := ordB_zero (by omega)
        have hl : oa.length + nb.length ≤ g := by simp at hg ⊢; omega
        refine said_up (mergeC_up y g oa nb hl (up_tail ho) (up_tail hn)) fun c hc => ?_
        rcases tells_in ((mergeC_mem y g _ _ hl (up_tail ho) (up_tail hn) c).1 hc) with ⟨m, hm, h⟩ | ⟨m, hm, h⟩
        · rw [← h, ← he]; exact ha m hm
        · rw [← h]; exact hb m hm

theorem upC_eq : ∀ {l m : List Change}, UpC l → UpC m → (∀ c, c ∈ l ↔ c ∈ m) → l = m
  | [], [], _, _, _ => rfl
  | [], b :: m, _, _, h => by have := (h b).2 List.mem_cons_self; cases this
  | a :: l, [], _, _, h => by have := (h a).1 List.mem_cons_self; cases this
  | a :: l, b :: m, h1, h2, h => by
    obtain ⟨q1, q2⟩ := List.pairwise_cons.1 h1
    obtain ⟨q3, q4⟩ := List.pairwise_cons.1 h2
    have hab : a = b := by
      rcases List.mem_cons.1 ((h a).1 List.mem_cons_self) with e | e
      · exact e
      · rcases List.mem_cons.1 ((h b).2 List.mem_cons_self) with e' | e'
        · exact e'.symm
        · have u := q3 a e
          have v := q1 b e'
          rw [ordB_swap] at u
          omega
    subst hab
    refine congrArg (a :: ·) (upC_eq q2 q4 fun c => ?_)
    have hc := h c
    simp only [List.mem_cons] at hc
    constructor
    · intro hm
      rcases hc.1 (.inr hm) with rfl | hm'
      · have := q1 c hm; rw [ordB_self] at this; omega
      · exact hm'
    · intro hm
      rcases hc.2 (.inr hm) with rfl | hm'
      · have := q3 c hm; rw [ordB_self] at this; omega
      · exact hm'

theorem flat_pair {α : Type} {f : α → List Change} {p : α → ByteArray} (h : ∀ a, f a = [] ∨ ∃ c, f a = [c] ∧ c.path = p a) : ∀ {l : List α}, l.Pairwise (fun a b => p a ≠ p b) → (l.flatMap f).Pairwise (fun a b => a.path ≠ b.path)
  | [], _ => List.Pairwise.nil
  | a :: l, hl => by
    obtain ⟨h1, h2⟩ := List.pairwise_cons.1 hl
    rw [List.flatMap_cons]
    have ih := flat_pair h h2
    rcases h a with e | ⟨c, e, hc⟩
    · rw [e]; exact ih
    · rw [e]
      refine List.pairwise_cons.2 ⟨fun d hd => ?_, ih⟩
      obtain ⟨b, hb, hd⟩ := List.mem_flatMap.1 hd
      rcases h b with e' | ⟨c', e', hc'⟩
      · rw [e'] at hd; cases hd
      · rw [e'] at hd
        rw [List.mem_singleton.1 hd, hc, hc']
        exact h1 b hb

/-- The reference names no path twice. -/
theorem refC_nodup {y : Int} {old now : List Mark} (ho : Up old) (hn : Up now) : (refC y old now).Pairwise (fun a b => a.path ≠ b.path) := by
  unfold refC
  refine List.pairwise_append.2 ⟨flat_pair (p := (·.path)) (fun m => ?_) (hn.imp fun h => ne_of_lt h), flat_pair (p := (·.path)) (fun m => ?_) (ho.imp fun h => ne_of_lt h), ?_⟩
  · unfold sayNow
    split
    · exact .inr ⟨_, rfl, rfl⟩
    · split
      · split
        · exact .inr ⟨_, rfl, rfl⟩
        · exact .inl rfl
      · exact .inl rfl
  · unfold sayOld
    split
    · exact .inr ⟨_, rfl, rfl⟩
    · exact .inl rfl
  · intro c hc d hd
    obtain ⟨m, hm, hc⟩ := List.mem_flatMap.1 hc
    obtain ⟨o, hmo, hd⟩ := List.mem_flatMap.1 hd
    have h1 : c.path = m.path := by
      unfold sayNow at hc
      split at hc
      · rw [List.mem_singleton.1 hc]
      · split at hc
        · split at hc
          · rw [List.mem_singleton.1 hc]
          · cases hc
        · cases hc
    unfold sayOld at hd
    split at hd
    · rename_i hnone
      rw [List.mem_singleton.1 hd, h1]
      exact findM_none.1 (Option.isNone_iff_eq_none.1 hnone) m hm
    · cases hd

/-- THE PLAIN LAW: what is sorted of the reference's list is the merge. -/
theorem sorted_is_merge {y : Int} {old now : List Mark} (ho : rising old = true) (hn : rising now = true) {d : List Change}
    (hm : ∀ c, c ∈ d ↔ c ∈ refC y old now) (hs : UpC d) : d = mergeC y (old.length + now.length) old now := by
  have h1 := rising_up ho
  have h2 := rising_up hn
  refine upC_eq hs (mergeC_up y _ old now (Nat.le_refl _) h1 h2) fun c => ?_
  rw [hm, refC_mem h1, mergeC_mem y _ old now (Nat.le_refl _) h1 h2]
end Wh
