/-
  What is printed of a glob is read as the glob, in plain words.
-/
import Derived.Test.YtfenmeacimfiaaaGreatDoorGp5
namespace Wh.G

def lastSl (l : List GP) : Bool := match l.getLast? with
  | some (.text t) => t.getLast? == some 47
  | _ => false
def suffG (dirs last : Bool) (s : List UInt8) : List UInt8 := if !dirs && last then s.dropLast ++ [92, 47] else s
def preG (rooted : Bool) (s : List UInt8) : List UInt8 := if !rooted && s.head? == some 47 then 92 :: s else s
def wrapG (rooted dirs : Bool) (s : List UInt8) : List UInt8 := (if rooted then 47 :: s else s) ++ (if dirs then [47] else [])
/-- The text of a glob. -/
def gtxt (rooted dirs : Bool) (l : List GP) : List UInt8 := wrapG rooted dirs (preG rooted (suffG dirs (lastSl l) (ltxt false l)))

theorem ltxt_app (d : Bool) : ∀ (a b : List GP), ltxt d (a ++ b) = ltxt d a ++ ltxt d b
  | [], b => rfl
  | p :: a, b => by
    show ptxt d p ++ ltxt d (a ++ b) = (ptxt d p ++ ltxt d a) ++ ltxt d b
    rw [ltxt_app d a b, List.append_assoc]
theorem okL_cons {pt ps : Bool} {p : GP} {r : List GP} (h : okL pt ps (p :: r)) : okP p ∧ (isT p = true → pt = false) ∧ (isS p = true → ps = false) ∧ okL (isT p) (isS p) r := h
theorem okL_left : ∀ {pt ps : Bool} {a b : List GP}, okL pt ps (a ++ b) → okL pt ps a
  | _, _, [], _, _ => trivial
  | _, _, _ :: _, _, h => ⟨(okL_cons h).1, (okL_cons h).2.1, (okL_cons h).2.2.1, okL_left (okL_cons h).2.2.2⟩
theorem okL_last : ∀ {pt ps : Bool} {a : List GP} {p : GP}, okL pt ps (a ++ [p]) → okP p ∧ (isT p = true → (a = [] → pt = false) ∧ lastT a = false)
  | _, _, [], _, h => ⟨(okL_cons h).1, fun e => ⟨fun _ => (okL_cons h).2.1 e, rfl⟩⟩
  | _, _, x :: [], p, h => by
    have h1 : okL (isT x) (isS x) ([] ++ [p]) := (okL_cons h).2.2.2
    obtain ⟨h2, h3⟩ := okL_last h1
    exact ⟨h2, fun e => ⟨fun e2 => (by cases e2), (h3 e).1 rfl⟩⟩
  | _, _, x :: y :: a, p, h => by
    have h1 : okL (isT x) (isS x) ((y :: a) ++ [p]) := (okL_cons h).2.2.2
    obtain ⟨h2, h3⟩ := okL_last h1
    exact ⟨h2, fun e => ⟨fun e2 => (by cases e2), (h3 e).2⟩⟩
theorem escT_app (f : UInt8 → Bool) (a b : List UInt8) : escT f (a ++ b) = escT f a ++ escT f b := by simp [escT]
theorem escT_last (f : UInt8 → Bool) (a : List UInt8) (c : UInt8) : (escT f (a ++ [c])).getLast? = some c := by
  rw [escT_app, List.getLast?_append]
  have : (escT f [c]).getLast? = some c := by
    show ((esc1 f c) ++ []).getLast? = some c
    unfold esc1
    split <;> rfl
  rw [this]
  rfl
theorem ptxt_last {p : GP} (h : okP p) (hl : (ptxt false p).getLast? = some 47) : ∃ m, p = .text (m ++ [47]) := by
  cases p with
  | text l =>
    rcases List.eq_nil_or_concat l with rfl | ⟨m, c, rfl⟩
    · exact absurd rfl h.1
    · have : (escT (spc false) (m ++ [c])).getLast? = some 47 := by
        first
          | exact hl
          | (rw [← List.concat_eq_append]; exact hl)
      rw [escT_last] at this
      injection this with this
      exact ⟨m, by simp [this]⟩
  | one => exact absurd hl (by decide)
  | star => exact absurd hl (by decide)
  | deep => exact absurd hl (by decide)
  | set n r =>
    have : (([91] ++ (if n then [94] else []) ++ r.flatMap rgTxt) ++ [93] : List UInt8).getLast? = some 47 := hl
    rw [List.getLast?_concat] at this
    exact absurd this (by decide)
  | ways l =>
    have key : ∀ r : List (List GP), (vtxt r).getLast? = some 125 := by
      intro r
      induction r with
      | nil => rfl
      | cons x r ih =>
        show (44 :: (ltxt true x ++ vtxt r)).getLast? = _
        rw [← List.cons_append, List.getLast?_append, ih]
        rfl
    have : (123 :: wtxt l).getLast? = some 47 := hl
    cases l with
    | nil => exact absurd this (by decide)
    | cons x r =>
      have h2 : ((123 :: ltxt true x) ++ vtxt r).getLast? = some 47 := this
      rw [List.getLast?_append, key r] at h2
      exact absurd h2 (by simp)
theorem ptxt_ne {d : Bool} {p : GP} (h : okP p) : ptxt d p ≠ [] := by
  cases p with
  | text l =>
    cases l with
    | nil => exact absurd rfl h.1
    | cons c l =>
      show esc1 (spc d) c ++ escT (spc d) l ≠ []
      unfold esc1
      split <;> simp
  | one => exact fun e => by cases e
  | star => exact fun e => by cases e
  | deep => exact fun e => by cases e
  | set n r => exact fun e => by unfold ptxt setTxt at e; simp at e
  | ways l => exact fun e => by cases e
theorem lead_47 (acc : List GP) (s : List UInt8) : PL false acc (92 :: 47 :: s) = PL false acc (47 :: s) := by
  rw [PL_bind, if_neg (by rintro ⟨h, _⟩; cases h), if_neg (by decide), if_neg (by decide), if_neg (by decide), if_neg (by decide), if_pos rfl, if_neg (by simp), if_neg (by rw [List.head?_cons]; decide)]
  rw [PL_bind false acc 47 s, if_neg (by rintro ⟨h, _⟩; cases h), if_neg (by decide), if_neg (by decide), if_neg (by decide), if_neg (by decide), if_neg (by decide), if_neg (by decide)]
  rfl
theorem lead_any {s : List UInt8} (h : s.head? = some 47) : PL false [] (92 :: s) = PL false [] s := by
  cases s with
  | nil => cases h
  | cons c r =>
    injection h with h
    subst h
    exact lead_47 [] r
theorem lone (acc : List GP) : PL false acc [92] = .bad [] := by
  rw [PL_bind, if_neg (by rintro ⟨h, _⟩; cases h), if_neg (by decide), if_neg (by decide), if_neg (by decide), if_neg (by decide), if_pos rfl, if_pos rfl]
theorem pre_any {rooted : Bool} {s : List UInt8} (hs : s ≠ []) : PL false [] (preG rooted s) = PL false [] s ∧ ((preG rooted s).dropLast = (if !rooted && s.head? == some 47 then 92 :: s.dropLast else s.dropLast)) := by
  unfold preG
  cases hc : (!rooted && s.head? == some 47)
  · exact ⟨rfl, rfl⟩
  · rw [if_pos rfl, if_pos rfl]
    rw [Bool.and_eq_true] at hc
    refine ⟨lead_any (by simpa using hc.2), ?_⟩
    cases s with
    | nil => exact absurd rfl hs
    | cons c s => rfl
theorem glob_rt {l : List GP} (h : okL false false l) (hne : l ≠ []) (rooted dirs : Bool) : readG (gtxt rooted dirs l) = .ok rooted dirs l := by
  obtain ⟨init, p, rfl⟩ : ∃ init p, l = init ++ [p] := by
    rcases List.eq_nil_or_concat l with rfl | ⟨a, b, rfl⟩
    · exact absurd rfl hne
    · exact ⟨a, b, by simp⟩
  obtain ⟨hp, hpt⟩ := okL_last h
  have hs0 : PL false [] (ltxt false (init ++ [p])) = .ok (init ++ [p]) [] := by
    have := list_rt (init ++ [p]) false false h false [] [] (fun _ => rfl) (by simp)
    rw [List.append_nil] at this
    rw [this, List.nil_append, PL_nil]
  have e0 : ltxt false (init ++ [p]) = ltxt false init ++ ptxt false p := by
    rw [ltxt_app]
    show ltxt false init ++ (ptxt false p ++ []) = _
    rw [List.append_nil]
  -- the slash at the end
  have hs1 : ∃ s1, suffG dirs (lastSl (init ++ [p])) (ltxt false (init ++ [p])) = s1 ∧ s1 ≠ [] ∧ PL false [] s1 = .ok (init ++ [p]) [] ∧ (dirs = false → s1.getLast? = some 47 → ∃ v, s1.dropLast = v ++ [92] ∧ PL false [] (v ++ [92]) = .bad []) := by
    by_cases hl : ∃ m, p = .text (m ++ [47])
    · obtain ⟨m, rfl⟩ := hl
      have hm0 : ∀ b ∈ m, b ≠ 0 := fun b hb => hp.2 b (by simp [hb])
      have e1 : ptxt false (.text (m ++ [47])) = escT (spc false) m ++ [47] := by
        show escT (spc false) (m ++ [47]) = _
        rw [escT_app]
        rfl
      have hv : ∀ rest, rest.head? ≠ some 42 → PL false [] ((ltxt false init ++ escT (spc false) m) ++ rest) = PL false (m.foldl addT init) rest := fun rest hr => by
        rw [List.append_assoc, list_rt init false false (okL_left h) false [] _ (fun _ => rfl) (by
          cases m with
          | nil => exact hr
          | cons c m =>
            show ((esc1 (spc false) c ++ escT (spc false) m) ++ rest).head? ≠ some 42
            unfold esc1
            cases hc : spc false c
            · rw [if_neg (by decide)]
              have := (spc_no hc).2.1
              simp [this]
            · rw [if_pos rfl]
              simp), List.nil_append, text_rt false m hm0]
      have hd : (ltxt false (init ++ [.text (m ++ [47])])).dropLast = ltxt false init ++ escT (spc false) m := by
        rw [e0, e1, ← List.append_assoc, List.dropLast_concat]
      have hlast : lastSl (init ++ [.text (m ++ [47])]) = true := by
        unfold lastSl
        rw [List.getLast?_concat]
        show ((m ++ [47]).getLast? == some 47) = true
        rw [List.getLast?_concat]
        decide
      unfold suffG
      rw [hlast]
      cases dirs
      · rw [if_pos (by decide), hd]
        refine ⟨_, rfl, by simp, ?_, fun _ _ => ⟨ltxt false init ++ escT (spc false) m, ?_, ?_⟩⟩
        · rw [hv _ (by simp)]
          have hx := byte_rt false 47 (by decide) (m.foldl addT init) []
          rw [lead_47, show (47 :: [] : List UInt8) = esc1 (spc false) 47 ++ [] from rfl, hx, PL_nil]
          have := addT_text (a := init) (hpt rfl).2 (l := m ++ [47]) (by simp)
          rw [List.foldl_append] at this
          exact congrArg (fun z => Rd.ok z []) this
        · rw [show ([92, 47] : List UInt8) = [92] ++ [47] from rfl, ← List.append_assoc, List.dropLast_concat]
        · rw [hv _ (by simp), lone]
      · rw [if_neg (by decide)]
        refine ⟨_, rfl, ?_, hs0, fun e => by cases e⟩
        rw [e0, e1]
        simp
    · have hlast : lastSl (init ++ [p]) = false := by
        unfold lastSl
        rw [List.getLast?_concat]
        cases p with
        | text t =>
          show (t.getLast? == some 47) = false
          cases ht : (t.getLast? == some 47)
          · rfl
          · exfalso
            obtain ⟨m, rfl⟩ := List.getLast?_eq_some_iff.1 (by simpa using ht)
            exact hl ⟨m, rfl⟩
        | _ => rfl
      unfold suffG
      rw [hlast, Bool.and_false, if_neg (by decide)]
      refine ⟨_, rfl, ?_, hs0, fun _ h47 => ?_⟩
      · rw [e0]
        exact fun e => ptxt_ne hp (List.append_eq_nil_iff.1 e).2
      · exfalso
        rw [e0, List.getLast?_append] at h47
        rcases List.eq_nil_or_concat (ptxt false p) with e | ⟨a, b, e⟩
        · exact ptxt_ne hp e
        · refine hl (ptxt_last hp ?_)
          rw [e] at h47 ⊢
          simpa using h47
  obtain ⟨s1, e1, hne1, hp1, hq1⟩ := hs1
  unfold gtxt
  rw [e1]
  obtain ⟨hp2, hd2⟩ := pre_any (rooted := rooted) hne1
  -- the root
  have hne2 : preG rooted s1 ≠ [] := by
    unfold preG
    split
    · simp
    · exact hne1
  have hroot : rootOf (wrapG rooted dirs (preG rooted s1)) = rooted ∧ bodyOf (wrapG rooted dirs (preG rooted s1)) = preG rooted s1 ++ (if dirs then [47] else []) := by
    have key : rootOf (wrapG rooted dirs (preG rooted s1)) = rooted := by
      unfold rootOf wrapG
      cases rooted
      · show ((preG false s1 ++ _).head? == some 47) = false
        unfold preG
        cases hc : (!false && s1.head? == some 47)
        · rw [if_neg (by decide)]
          cases s1 with
          | nil => exact absurd rfl hne1
          | cons c s => simpa using hc
        · rw [if_pos rfl]
          rfl
      · rfl
    refine ⟨key, ?_⟩
    unfold bodyOf
    rw [key]
    cases rooted <;> rfl
  obtain ⟨hr1, hb1⟩ := hroot
  cases hl : init ++ [p] with
  | nil => simp at hl
  | cons x xs =>
    rw [hl] at hp1
    have hplain : dirs = false → plainG (wrapG rooted dirs (preG rooted s1)) = .ok rooted dirs (x :: xs) := fun hd => by
      unfold plainG
      rw [hb1, hd, if_neg (by decide), List.append_nil, hp2, hp1, ← hd, hr1, hd]
    unfold readG
    cases dirs
    · have hb2 : bodyOf (wrapG rooted false (preG rooted s1)) = preG rooted s1 := by rw [hb1]; simp
      split
      · rename_i h47
        rw [hb2] at h47 ⊢
        have h47' : s1.getLast? = some 47 := by
          unfold preG at h47
          split at h47
          · cases s1 with
            | nil => exact absurd rfl hne1
            | cons c s => simpa using h47
          · exact h47
        obtain ⟨v, hv1, hv2⟩ := hq1 rfl h47'
        have : PL false [] (preG rooted s1).dropLast = .bad [] := by
          rw [hd2, hv1]
          split
          · rename_i hc
            rw [Bool.and_eq_true] at hc
            have hh : s1.head? = some 47 := by simpa using hc.2
            have hv3 : (v ++ [92]).head? = some 47 := by
              rw [← hv1]
              cases s1 with
              | nil => cases hh
              | cons c s =>
                cases s with
                | nil =>
                  have : ([c] : List UInt8).dropLast = v ++ [92] := hv1
                  simp at this
                | cons y s => exact hh
            rw [lead_any hv3]
            exact hv2
          · exact hv2
        rw [this]
        exact hplain rfl
      · exact hplain rfl
    · have hb2 : bodyOf (wrapG rooted true (preG rooted s1)) = preG rooted s1 ++ [47] := hb1
      rw [hb2, List.getLast?_concat, if_pos rfl, List.dropLast_concat, hp2, hp1, hr1]
end Wh.G
