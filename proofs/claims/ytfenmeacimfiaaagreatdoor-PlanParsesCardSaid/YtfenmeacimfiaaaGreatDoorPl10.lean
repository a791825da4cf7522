/-
  What both ParsePlan compute, in plain words.
-/
import Derived.Test.YtfenmeacimfiaaaGreatDoorPw15
import Derived.Test.YtfenmeacimfiaaaGreatDoorPw10
namespace Go.Proofs.YtfenmeacimfiaaaGreatDoor
open Go.RowKit

theorem PStep.ext_l {s t : PStep} (h : s.l = t.l) : s = t := by
  obtain ⟨k, p, d, z, m⟩ := s
  obtain ⟨k', p', d', z', m'⟩ := t
  simp only [PStep.l, Wh.StepL.mk.injEq] at h
  obtain ⟨rfl, h1, h2, rfl, rfl⟩ := h
  rw [ByteArray.ext (Array.toList_inj.1 h1), ByteArray.ext (Array.toList_inj.1 h2)]
theorem LineStep.det {S : List PStep} {R : List PRef} {line : List UInt8} {ok ok' : Bool} {S1 S2 : List PStep} {R1 R2 : List PRef} (h : LineStep S R line ok S1 R1) (h' : LineStep S R line ok' S2 R2) : ok = ok' ∧ (ok = true → S1 = S2 ∧ R1 = R2) := by
  have key : ∀ {S1 S2 : List PStep} {R1 R2 : List PRef}, LineStep S R line true S1 R1 → ¬ LineStep S R line false S2 R2 := fun a b => by
    rcases a.1 rfl with ⟨s, h1, h2, _⟩ | ⟨x, h1, _⟩
    · exact (b.2 rfl).1 _ h1 h2
    · exact (b.2 rfl).2 _ _ h1
  cases ok <;> cases ok'
  · exact ⟨rfl, fun h => by cases h⟩
  · exact absurd h (key h')
  · exact absurd h' (key h)
  · refine ⟨rfl, fun _ => ?_⟩
    rcases h.1 rfl with ⟨s, a1, a2, a3, a4⟩ | ⟨x, a1, a3, a4⟩ <;> rcases h'.1 rfl with ⟨t, b1, b2, b3, b4⟩ | ⟨y, b1, b3, b4⟩
    · have : s = t := PStep.ext_l (Wh.step_line_inj a1.1 b1.1 (a1.2.2.2.symm.trans b1.2.2.2))
      rw [a3, b3, a4, b4, this]
      exact ⟨rfl, rfl⟩
    · exact absurd (a1.2.2.2.symm.trans b1.2) (Wh.step_ref_ne a1.1)
    · exact absurd (b1.2.2.2.symm.trans a1.2) (Wh.step_ref_ne b1.1)
    · obtain ⟨e1, e2⟩ := Wh.ref_line_inj (a1.2.symm.trans b1.2)
      have : x = y := by
        obtain ⟨p, e⟩ := x
        obtain ⟨q, f⟩ := y
        dsimp only at e1 e2
        rw [e1, ByteArray.ext (Array.toList_inj.1 e2)]
      rw [a3, b3, a4, b4, this]
      exact ⟨rfl, rfl⟩
theorem HeadL.det {line : List UInt8} {a b c d : Int} (h : HeadL line a b) (h' : HeadL line c d) : a = c ∧ b = d := Wh.head_line_inj (h.2.2.symm.trans h'.2.2)

/-- What lines behind the first make. -/
inductive RunL : List (List UInt8) → List PStep → List PRef → Prop
  | nil : RunL [] [] []
  | snoc {ls : List (List UInt8)} {S S' : List PStep} {R R' : List PRef} {l : List UInt8} : RunL ls S R → LineStep S R l true S' R' → RunL (ls ++ [l]) S' R'
theorem RunL.det {ls : List (List UInt8)} {S : List PStep} {R : List PRef} (h : RunL ls S R) : ∀ {S2 : List PStep} {R2 : List PRef}, RunL ls S2 R2 → S = S2 ∧ R = R2 := by
  induction h with
  | nil =>
    intro S2 R2 h2
    generalize hl : ([] : List (List UInt8)) = l at h2
    cases h2 with
    | nil => exact ⟨rfl, rfl⟩
    | snoc _ _ => simp at hl
  | @snoc ls S S' R R' l h1 h2 ih =>
    intro S2 R2 h3
    generalize hl : ls ++ [l] = m at h3
    cases h3 with
    | nil => simp at hl
    | snoc a b =>
      obtain ⟨e1, e2⟩ := List.append_inj' hl rfl
      injection e2 with e2 _
      subst e1 e2
      obtain ⟨rfl, rfl⟩ := ih a
      exact (LineStep.det h2 b).2 rfl
theorem RunL.length {ls : List (List UInt8)} {S : List PStep} {R : List PRef} (h : RunL ls S R) : S.length + R.length ≤ ls.length := by
  induction h with
  | nil => simp
  | snoc _ h2 ih =>
    rcases h2.1 rfl with ⟨s, _, _, a3, a4⟩ | ⟨x, _, a3, a4⟩
    · rw [a3, a4]; simp; omega
    · rw [a3, a4]; simp; omega
theorem escB_pos (c : UInt8) : 1 ≤ (Wh.escB c).length := by
  have := Wh.esc_ne c
  cases h : Wh.escB c with
  | nil => exact absurd h this
  | cons x y => simp
theorem quoted_len (p : List UInt8) : p.length ≤ (Wh.quotedL p).length := by
  have h : ∀ l : List UInt8, l.length ≤ (Wh.escL l).length := by
    intro l
    induction l with
    | nil => simp
    | cons c l ih =>
      rw [Wh.escL_cons]
      have := escB_pos c
      simp
      omega
  have := h p
  unfold Wh.quotedL
  simp
  omega
theorem RunL.good {ls : List (List UInt8)} {S : List PStep} {R : List PRef} (h : RunL ls S R) (hl : ∀ l ∈ ls, l.length ≤ 2000000) : (∀ s ∈ S, GoodStep s) ∧ ∀ x ∈ R, GoodRef x := by
  induction h with
  | nil => exact ⟨fun s hs => absurd hs (by simp), fun s hs => absurd hs (by simp)⟩
  | @snoc ls S S' R R' l h1 h2 ih =>
    obtain ⟨i1, i2⟩ := ih (fun x hx => hl x (by simp [hx]))
    have hll := hl l (by simp)
    rcases h2.1 rfl with ⟨s, a1, _, a3, a4⟩ | ⟨x, a1, a3, a4⟩
    · rw [a3, a4]
      refine ⟨fun t ht => ?_, i2⟩
      rcases List.mem_append.1 ht with ht | ht
      · exact i1 t ht
      · rw [List.mem_singleton.1 ht]
        refine ⟨a1.1, a1.2.1, a1.2.2.1, ?_, ?_⟩
        · have h3 := mem_lineW (x := Wh.quotedL s.path.data.toList) (L := Wh.stepWordsL s.l) (by simp [Wh.stepWordsL, PStep.l])
          rw [← a1.2.2.2] at h3
          have := quoted_len s.path.data.toList
          rw [Lib.size_eq]
          omega
        · cases hb : s.l.has.1
          · have := a1.1.2.2.1 hb
            rw [Lib.size_eq, show s.dst.data.toList = [] from this]
            simp
          · have h3 := mem_lineW (x := Wh.quotedL s.dst.data.toList) (L := Wh.stepWordsL s.l) (by
              unfold Wh.stepWordsL
              rw [hb]
              simp [PStep.l])
            rw [← a1.2.2.2] at h3
            have := quoted_len s.dst.data.toList
            rw [Lib.size_eq]
            omega
    · rw [a3, a4]
      refine ⟨i1, fun t ht => ?_⟩
      rcases List.mem_append.1 ht with ht | ht
      · exact i2 t ht
      · rw [List.mem_singleton.1 ht]
        refine ⟨a1.1, ?_⟩
        have h3 := mem_lineW (x := Wh.quotedL x.path.data.toList) (L := Wh.refWordsL x.err x.path.data.toList) (by simp [Wh.refWordsL])
        rw [← a1.2] at h3
        have := quoted_len x.path.data.toList
        rw [Lib.size_eq]
        omega

/-- What ParsePlan answers. -/
structure PRes where
  S : List PStep
  R : List PRef
  same : Int
  bytes : Int
  n : Int
  err : Int
def zeroR (n err : Int) : PRes := ⟨[], [], 0, 0, n, err⟩
/-- The first i lines make this plan. -/
def PlanRun (ls : List (List UInt8)) (i : Nat) (S : List PStep) (R : List PRef) (a b : Int) : Prop :=
  match ls.take i with
  | [] => S = [] ∧ R = [] ∧ a = 0 ∧ b = 0
  | h :: r => HeadL h a b ∧ RunL r S R
theorem PlanRun.det {ls : List (List UInt8)} {i : Nat} {S S2 : List PStep} {R R2 : List PRef} {a b a2 b2 : Int} (h : PlanRun ls i S R a b) (h2 : PlanRun ls i S2 R2 a2 b2) : S = S2 ∧ R = R2 ∧ a = a2 ∧ b = b2 := by
  unfold PlanRun at h h2
  cases hl : ls.take i with
  | nil =>
    rw [hl] at h h2
    obtain ⟨rfl, rfl, rfl, rfl⟩ := h
    obtain ⟨rfl, rfl, rfl, rfl⟩ := h2
    exact ⟨rfl, rfl, rfl, rfl⟩
  | cons x r =>
    rw [hl] at h h2
    obtain ⟨e1, e2⟩ := h.1.det h2.1
    obtain ⟨e3, e4⟩ := h.2.det h2.2
    exact ⟨e3, e4, e1, e2⟩
/-- Line i is wrong behind that plan. -/
def BadAt (ls : List (List UInt8)) (i : Nat) (S : List PStep) (R : List PRef) : Prop :=
  ∃ l, ls[i]? = some l ∧ ((i = 0 ∧ ∀ u v, ¬ HeadL l u v) ∨ (i ≠ 0 ∧ LineStep S R l false S R))
/-- A line more. -/
theorem PlanRun.head {ls : List (List UInt8)} {l : List UInt8} {a b : Int} (hl : ls[0]? = some l) (h : HeadL l a b) : PlanRun ls 1 [] [] a b := by
  cases ls with
  | nil => cases hl
  | cons x r =>
    injection hl with hl
    subst hl
    exact ⟨h, .nil⟩
theorem PlanRun.line {ls : List (List UInt8)} {i : Nat} {l : List UInt8} {S S' : List PStep} {R R' : List PRef} {a b : Int} (h : PlanRun ls i S R a b) (hi : i ≠ 0) (hl : ls[i]? = some l) (hs : LineStep S R l true S' R') : PlanRun ls (i + 1) S' R' a b := by
  unfold PlanRun at h ⊢
  rw [List.take_add_one, hl]
  have hlt := (List.getElem?_eq_some_iff.1 hl).1
  cases hh : ls.take i with
  | nil =>
    have := congrArg List.length hh
    rw [List.length_take, List.length_nil] at this
    omega
  | cons x r =>
    rw [hh] at h
    exact ⟨h.1, .snoc h.2 hs⟩
theorem LineStep.bad_any {S : List PStep} {R : List PRef} {l : List UInt8} {S' S2 : List PStep} {R' R2 : List PRef} (h : LineStep S R l false S' R') : LineStep S R l false S2 R2 := ⟨fun h => (by cases h), h.2⟩
theorem PlanRun.good {ls : List (List UInt8)} {i : Nat} {S : List PStep} {R : List PRef} {a b : Int} (h : PlanRun ls i S R a b) (hl : ∀ l ∈ ls, l.length ≤ 2000000) : (∀ s ∈ S, GoodStep s) ∧ (∀ x ∈ R, GoodRef x) ∧ S.length + R.length ≤ i ∧ Wh.inI a ∧ Wh.inI b := by
  unfold PlanRun at h
  cases hh : ls.take i with
  | nil =>
    rw [hh] at h
    obtain ⟨rfl, rfl, rfl, rfl⟩ := h
    exact ⟨fun s hs => absurd hs (by simp), fun s hs => absurd hs (by simp), by simp, Wh.inI_zero, Wh.inI_zero⟩
  | cons x r =>
    rw [hh] at h
    obtain ⟨g1, g2⟩ := h.2.good (fun l h => hl l (List.mem_of_mem_take (i := i) (by rw [hh]; simp [h])))
    refine ⟨g1, g2, ?_, h.1.1, h.1.2.1⟩
    have h1 := h.2.length
    have h2 := congrArg List.length hh
    rw [List.length_take] at h2
    simp at h2
    omega
/-- What lies ahead of line i is no wrong line. -/
theorem PlanRun.before {ls : List (List UInt8)} : ∀ {i : Nat} {S : List PStep} {R : List PRef} {a b : Int}, PlanRun ls i S R a b → i ≤ ls.length → ∀ j, j < i → ∃ S' R' a' b', PlanRun ls j S' R' a' b' ∧ ¬ BadAt ls j S' R'
  | 0, _, _, _, _, _, _, j, hj => by omega
  | i + 1, S, R, a, b, h, hi, j, hj => by
    obtain ⟨l, hl⟩ : ∃ l, ls[i]? = some l := ⟨_, List.getElem?_eq_getElem (by omega)⟩
    by_cases hi0 : i = 0
    · subst hi0
      obtain rfl : j = 0 := by omega
      refine ⟨[], [], 0, 0, by unfold PlanRun; simp, ?_⟩
      rintro ⟨l', e1, e2⟩
      rw [hl] at e1
      injection e1 with e1
      subst e1
      cases ls with
      | nil => cases hl
      | cons x r =>
        injection hl with hl
        subst hl
        rcases e2 with ⟨_, e2⟩ | ⟨e2, _⟩
        · exact e2 _ _ h.1
        · exact e2 rfl
    · have hs : ∃ S0 R0, PlanRun ls i S0 R0 a b ∧ LineStep S0 R0 l true S R := by
        unfold PlanRun at h ⊢
        rw [List.take_add_one, hl] at h
        cases hh : ls.take i with
        | nil =>
          have := congrArg List.length hh
          rw [List.length_take, List.length_nil] at this
          omega
        | cons x r =>
          rw [hh] at h
          obtain ⟨h1, h2⟩ := h
          have h2' : RunL (r ++ (some l).toList) S R := h2
          generalize hm : r ++ (some l).toList = m at h2'
          cases h2' with
          | nil => simp at hm
          | snoc p q =>
            obtain ⟨e1, e2⟩ := List.append_inj' hm rfl
            injection e2 with e2 _
            subst e1 e2
            exact ⟨_, _, ⟨h1, p⟩, q⟩
      obtain ⟨S0, R0, h1, h2⟩ := hs
      by_cases hj2 : j = i
      · subst hj2
        refine ⟨S0, R0, a, b, h1, ?_⟩
        rintro ⟨l', e1, e2⟩
        rw [hl] at e1
        injection e1 with e1
        subst e1
        rcases e2 with ⟨e2, _⟩ | ⟨_, e2⟩
        · exact hi0 e2
        · exact absurd (h2.det e2).1 (by decide)
      · exact PlanRun.before h1 (by omega) j (by omega)

/-- What ParsePlan answers to lines: all lines but the last, then the last. -/
def LinesR (ls : List (List UInt8)) (m : Nat) (last : List UInt8) (r : PRes) : Prop :=
  (∃ i S R a b, i < m ∧ PlanRun ls i S R a b ∧ BadAt ls i S R ∧ r = zeroR i 9) ∨
  (∃ S R a b, PlanRun ls m S R a b ∧ ((last ≠ [] ∨ m = 0) ∧ r = zeroR m 9 ∨ (last = [] ∧ m ≠ 0) ∧ (checkV S R a b ≠ 0 ∧ r = zeroR 0 (checkV S R a b) ∨ checkV S R a b = 0 ∧ r = ⟨S, R, a, b, 0, 0⟩)))
theorem LinesR.det {ls : List (List UInt8)} {m : Nat} {last : List UInt8} {r r2 : PRes} (hm : m ≤ ls.length) (h : LinesR ls m last r) (h2 : LinesR ls m last r2) : r = r2 := by
  have clash : ∀ {i j : Nat} {S S2 : List PStep} {R R2 : List PRef} {a b c d : Int}, j ≤ ls.length → i < j → PlanRun ls i S R a b → BadAt ls i S R → ¬ PlanRun ls j S2 R2 c d := fun hj hi p q t => by
    obtain ⟨S', R', a', b', h3, h4⟩ := t.before hj _ hi
    obtain ⟨rfl, rfl, _, _⟩ := p.det h3
    exact h4 q
  rcases h with ⟨i, S, R, a, b, h1, h3, h4, rfl⟩ | ⟨S, R, a, b, h3, h5⟩ <;> rcases h2 with ⟨j, S2, R2, a2, b2, k1, k3, k4, rfl⟩ | ⟨S2, R2, a2, b2, k3, k5⟩
  · rcases Nat.lt_trichotomy i j with hij | hij | hij
    · exact absurd k3 (clash (by omega) hij h3 h4)
    · rw [hij]
    · exact absurd h3 (clash (by omega) hij k3 k4)
  · exact absurd k3 (clash hm h1 h3 h4)
  · exact absurd h3 (clash hm k1 k3 k4)
  · obtain ⟨rfl, rfl, rfl, rfl⟩ := h3.det k3
    rcases h5 with ⟨x1, rfl⟩ | ⟨x1, h5⟩ <;> rcases k5 with ⟨y1, rfl⟩ | ⟨y1, k5⟩
    · rfl
    · rcases x1 with x1 | x1
      · exact absurd y1.1 x1
      · exact absurd x1 y1.2
    · rcases y1 with y1 | y1
      · exact absurd x1.1 y1
      · exact absurd y1 x1.2
    · rcases h5 with ⟨z1, rfl⟩ | ⟨z1, rfl⟩ <;> rcases k5 with ⟨u1, rfl⟩ | ⟨u1, rfl⟩
      · rfl
      · exact absurd u1 z1
      · exact absurd z1 u1
      · rfl
end Go.Proofs.YtfenmeacimfiaaaGreatDoor
