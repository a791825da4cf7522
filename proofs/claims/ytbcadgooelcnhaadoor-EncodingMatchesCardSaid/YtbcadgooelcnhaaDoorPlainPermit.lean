/-
  What is encoded is permitted, in plain Lean.
-/
import Derived.Test.YtbcadgooelcnhaaDoorPlainDec2
namespace Wh
open Go

theorem formOk_mem {cs : Bool} : ∀ {l : List UInt8}, formOk cs l = true → ∀ b ∈ l, okB cs b = true
  | [], _ => by simp
  | x :: r, h => by
    rw [formOk, Bool.and_eq_true, Bool.and_eq_true] at h
    intro b hb
    rcases List.mem_cons.1 hb with rfl | hb
    · exact h.1.2
    · exact formOk_mem h.2 b hb

/-- A byte that stands in no list of a right encoding. -/
theorem not_in {cs : Bool} {l : List UInt8} {b : UInt8} (h : formOk cs l = true) (hb : okB cs b = false) : l.contains b = false := by
  cases hc : l.contains b with
  | false => rfl
  | true =>
    have := formOk_mem h b (by simpa using hc)
    rw [hb] at this
    cases this

theorem ok_pct (cs : Bool) : okB cs 37 = false := by cases cs <;> decide
theorem ok_hexd (cs : Bool) (n : Nat) (h : n < 16) : okB cs (hexd n) = false := by
  have : ∀ (cs : Bool) (n : Fin 16), okB cs (hexd n.1) = false := by decide
  exact this cs ⟨n, h⟩
theorem ok_mark {x : Enc} {c : UInt8} (h : markB x c = true) : okB x.cs 94 = false ∧ okB x.cs (small c) = false := by
  simp only [markB, Bool.and_eq_true] at h
  rw [h.1]
  refine ⟨by decide, ?_⟩
  have hh : ∀ n : Fin 256, ((UInt8.ofNat n.1 == 94) || (decide (65 ≤ (UInt8.ofNat n.1).toNat) && decide ((UInt8.ofNat n.1).toNat ≤ 90))) = true → okB true (small (UInt8.ofNat n.1)) = false := by decide +kernel
  have := hh ⟨c.toNat, c.toNat_lt⟩
  simp only [UInt8.ofNat_toNat] at this
  exact this h.2

/-- The bytes of an encoded byte. -/
theorem encB_cases {x : Enc} {named first last : Bool} {c : UInt8} {P : List UInt8 → Prop}
    (h1 : P [37, hexd (c.toNat / 16), hexd (c.toNat % 16)]) (h2 : markB x c = true → P [94, small c]) (h3 : escB x named first last c = false → markB x c = false → P [c]) : P (encB x named first last c) := by
  unfold encB
  split
  · exact h1
  · rename_i he
    split
    · rename_i hm
      exact h2 hm
    · rename_i hm
      exact h3 (by simpa using he) (by simpa using hm)

theorem encB_forbid {x : Enc} {named first last : Bool} {c : UInt8} (hf : formOk x.cs x.forbid.data.toList = true) : ∀ b ∈ encB x named first last c, x.forbid.data.toList.contains b = false := by
  have hc := c.toNat_lt
  refine encB_cases (P := fun l => ∀ b ∈ l, x.forbid.data.toList.contains b = false) ?_ ?_ ?_
  · intro b hb
    simp only [List.mem_cons, List.not_mem_nil, or_false] at hb
    rcases hb with rfl | rfl | rfl
    · exact not_in hf (ok_pct _)
    · exact not_in hf (ok_hexd _ _ (by omega))
    · exact not_in hf (ok_hexd _ _ (by omega))
  · intro hm b hb
    simp only [List.mem_cons, List.not_mem_nil, or_false] at hb
    rcases hb with rfl | rfl
    · exact not_in hf (ok_mark hm).1
    · exact not_in hf (ok_mark hm).2
  · intro he _ b hb
    simp only [List.mem_cons, List.not_mem_nil, or_false] at hb
    subst hb
    simp only [escB, Bool.or_eq_false_iff] at he
    exact he.1.1.2

theorem encFrom_forbid {x : Enc} (hf : formOk x.cs x.forbid.data.toList = true) (named : Bool) (n : Nat) : ∀ (i : Nat) (l : List UInt8), ∀ b ∈ encFrom x named n i l, x.forbid.data.toList.contains b = false
  | _, [] => by simp [encFrom]
  | i, c :: l => by
    intro b hb
    rw [encFrom, List.mem_append] at hb
    rcases hb with hb | hb
    · exact encB_forbid hf b hb
    · exact encFrom_forbid hf named n (i + 1) l b hb

theorem encB_head {x : Enc} {named last : Bool} {c : UInt8} (hf : formOk x.cs x.head.data.toList = true) : ∀ b, (encB x named true last c).head? = some b → x.head.data.toList.contains b = false := by
  refine encB_cases (P := fun l => ∀ b, l.head? = some b → x.head.data.toList.contains b = false) ?_ ?_ ?_
  · intro b hb
    cases hb
    exact not_in hf (ok_pct _)
  · intro hm b hb
    cases hb
    exact not_in hf (ok_mark hm).1
  · intro he _ b hb
    cases hb
    simp only [escB, Bool.or_eq_false_iff, Bool.true_and] at he
    exact he.1.2.1

theorem encB_last {x : Enc} {named first : Bool} {c : UInt8} (hf : formOk x.cs x.tail.data.toList = true) : ∀ b, (encB x named first true c).getLast? = some b → x.tail.data.toList.contains b = false := by
  have hc := c.toNat_lt
  refine encB_cases (P := fun l => ∀ b, l.getLast? = some b → x.tail.data.toList.contains b = false) ?_ ?_ ?_
  · intro b hb
    simp at hb
    subst hb
    exact not_in hf (ok_hexd _ _ (by omega))
  · intro hm b hb
    simp at hb
    subst hb
    exact not_in hf (ok_mark hm).2
  · intro he _ b hb
    simp at hb
    subst hb
    simp only [escB, Bool.or_eq_false_iff, Bool.true_and] at he
    exact he.2

theorem head_app {a b : List UInt8} (h : a ≠ []) : (a ++ b).head? = a.head? := by
  cases a with
  | nil => exact absurd rfl h
  | cons x r => rfl
theorem last_app {a b : List UInt8} (h : b ≠ []) : (a ++ b).getLast? = b.getLast? := by
  rw [List.getLast?_append]
  cases hb : b.getLast? with
  | none => exact absurd (List.getLast?_eq_none_iff.1 hb) h
  | some y => rfl

theorem encB_ne (x : Enc) (named first last : Bool) (c : UInt8) : encB x named first last c ≠ [] := by
  intro e
  have := (encB_length x named first last c).1
  rw [e] at this
  simp at this

theorem encName_head {x : Enc} (hf : formOk x.cs x.head.data.toList = true) {l : List UInt8} : ∀ b, (encName x l).head? = some b → x.head.data.toList.contains b = false := by
  intro b hb
  unfold encName at hb
  cases l with
  | nil => simp [encFrom] at hb
  | cons c r =>
    rw [encFrom, head_app (encB_ne _ _ _ _ _)] at hb
    exact encB_head hf b hb

theorem encFrom_last {x : Enc} (hf : formOk x.cs x.tail.data.toList = true) (named : Bool) (n : Nat) : ∀ (i : Nat) (l : List UInt8), i + l.length = n → ∀ b, (encFrom x named n i l).getLast? = some b → x.tail.data.toList.contains b = false
  | _, [], _, b, hb => by simp [encFrom] at hb
  | i, [c], h, b, hb => by
    simp only [encFrom, List.append_nil] at hb
    have e : (i + 1 == n) = true := by simp at h; simp [h]
    rw [e] at hb
    exact encB_last hf b hb
  | i, c :: d :: l, h, b, hb => by
    have hne : encFrom x named n (i + 1) (d :: l) ≠ [] := by
      intro e
      have := (encFrom_length x named n (i + 1) (d :: l)).1
      rw [e] at this
      simp at this
    rw [encFrom, last_app hne] at hb
    exact encFrom_last hf named n (i + 1) (d :: l) (by simp at h ⊢; omega) b hb

theorem encName_last {x : Enc} (hf : formOk x.cs x.tail.data.toList = true) {l : List UInt8} : ∀ b, (encName x l).getLast? = some b → x.tail.data.toList.contains b = false :=
  encFrom_last hf _ _ 0 l (by simp)

/-- Where nothing is marked, nothing has changed. -/
theorem encFrom_plain (x : Enc) (named : Bool) (n : Nat) : ∀ (i : Nat) (l : List UInt8), (∀ b ∈ encFrom x named n i l, b ≠ 37 ∧ b ≠ 94) → encFrom x named n i l = l
  | _, [], _ => rfl
  | i, c :: l, h => by
    rw [encFrom] at h ⊢
    have h1 : encB x named (i == 0) (i + 1 == n) c = [c] := by
      have h0 : ∀ b ∈ encB x named (i == 0) (i + 1 == n) c, b ≠ 37 ∧ b ≠ 94 := fun b hb => h b (by simp [hb])
      revert h0
      refine encB_cases (P := fun l => (∀ b ∈ l, b ≠ 37 ∧ b ≠ 94) → l = [c]) ?_ ?_ ?_
      · intro hh; exact absurd rfl (hh 37 (by simp)).1
      · intro _ hh; exact absurd rfl (hh 94 (by simp)).2
      · intro _ _ _; rfl
    rw [h1, encFrom_plain x named n (i + 1) l (fun b hb => h b (by simp [hb]))]
    rfl

theorem small_mark {b : UInt8} : (b = 37 → small b = 37) ∧ (b = 94 → small b = 94) := by
  constructor
  · rintro rfl; decide
  · rintro rfl; decide

theorem namesErr_ok : ∀ {xs : List ByteArray} {prev : Option ByteArray}, namesErrFrom prev xs = 0 → ∀ n ∈ xs, nameOk n.data.toList = true
  | [], _, _ => by simp
  | n :: r, prev, h => by
    have h1 : nameOk n.data.toList = true := by
      cases hh : nameOk n.data.toList with
      | true => rfl
      | false =>
        rw [namesErrFrom.eq_def] at h
        simp [hh] at h
    have h2 : namesErrFrom (some n) r = 0 := by
      rw [namesErrFrom.eq_def] at h
      cases prev with
      | none => simpa [h1] using h
      | some p =>
        cases hb : Op.bytesLess p.toList n.toList with
        | true => simpa [h1, hb] using h
        | false => simp [h1, hb] at h
    intro m hm
    rcases List.mem_cons.1 hm with rfl | hm
    · exact h1
    · exact namesErr_ok h2 m hm

theorem nameOk_free {l : List UInt8} (h : nameOk l = true) : ∀ b ∈ l, b ≠ 37 ∧ b ≠ 94 := by
  simp only [nameOk, Bool.and_eq_true] at h
  have h1 := h.2
  intro b hb
  constructor
  · rintro rfl
    have : Lib.containsAny l [37, 94] = true := by
      rw [containsAny_eq, List.any_eq_true]
      exact ⟨37, hb, by decide⟩
    rw [this] at h1
    simp at h1
  · rintro rfl
    have : Lib.containsAny l [37, 94] = true := by
      rw [containsAny_eq, List.any_eq_true]
      exact ⟨94, hb, by decide⟩
    rw [this] at h1
    simp at h1

theorem encName_taken {x : Enc} (hn : namesErrFrom none x.names = 0) {l : List UInt8} (hl : l ≠ []) : x.names.any (fun y => y.data.toList == lower (encName x l)) = false := by
  cases ha : x.names.any (fun y => y.data.toList == lower (encName x l)) with
  | false => rfl
  | true =>
    obtain ⟨y, hy, he⟩ := List.any_eq_true.1 ha
    have he := beq_iff_eq.1 he
    have hfree := nameOk_free (namesErr_ok hn y hy)
    rw [he] at hfree
    have h2 : ∀ b ∈ encName x l, b ≠ 37 ∧ b ≠ 94 := by
      intro b hb
      have hb2 : small b ∈ lower (encName x l) := List.mem_map_of_mem hb
      have := hfree _ hb2
      exact ⟨fun e => this.1 (small_mark.1 e), fun e => this.2 (small_mark.2 e)⟩
    cases hnm : x.names.any (fun y => y.data.toList == lower l) with
    | true =>
      unfold encName at h2
      rw [hnm] at h2
      cases l with
      | nil => exact absurd rfl hl
      | cons c r =>
        have h37 : (37 : UInt8) ∈ encFrom x true (c :: r).length 0 (c :: r) := by
          rw [encFrom, List.mem_append]
          refine .inl ?_
          unfold encB
          rw [if_pos (by simp [escB])]
          simp
        exact absurd rfl (h2 37 h37).1
    | false =>
      have h3 : encName x l = l := by
        unfold encName at h2 ⊢
        exact encFrom_plain x _ _ 0 l h2
      rw [h3] at ha
      rw [ha] at hnm
      cases hnm

theorem encB_zero {x : Enc} {named first last : Bool} {c : UInt8} (h : c ≠ 0) : ∀ b ∈ encB x named first last c, b ≠ 0 := by
  have hc := c.toNat_lt
  have h16 : ∀ n : Fin 16, hexd n.1 ≠ 0 := by decide
  refine encB_cases (P := fun l => ∀ b ∈ l, b ≠ 0) ?_ ?_ ?_
  · intro b hb
    simp only [List.mem_cons, List.not_mem_nil, or_false] at hb
    rcases hb with rfl | rfl | rfl
    · decide
    · exact h16 ⟨_, by omega⟩
    · exact h16 ⟨_, by omega⟩
  · intro _ b hb
    simp only [List.mem_cons, List.not_mem_nil, or_false] at hb
    rcases hb with rfl | rfl
    · decide
    · intro e
      have h1 := small_nat c
      rw [e] at h1
      have h2 : (0 : UInt8).toNat = 0 := rfl
      rw [h2] at h1
      split at h1
      · omega
      · exact h (UInt8.toNat_inj.1 (by rw [h2]; omega))
  · intro _ _ b hb
    simp only [List.mem_cons, List.not_mem_nil, or_false] at hb
    rw [hb]
    exact h

theorem encFrom_zero (x : Enc) (named : Bool) (n : Nat) : ∀ (i : Nat) (l : List UInt8), (∀ b ∈ l, b ≠ 0) → ∀ b ∈ encFrom x named n i l, b ≠ 0
  | _, [], _ => by simp [encFrom]
  | i, c :: l, h => by
    intro b hb
    rw [encFrom, List.mem_append] at hb
    rcases hb with hb | hb
    · exact encB_zero (h c (by simp)) b hb
    · exact encFrom_zero x named n (i + 1) l (fun y hy => h y (by simp [hy])) b hb

theorem containsAny_free {l : List UInt8} (h0 : ∀ b ∈ l, b ≠ 0) (h1 : ∀ b ∈ l, b ≠ 47) : Lib.containsAny l [0, 47] = false := by
  rw [containsAny_eq, List.any_eq_false]
  intro b hb
  have := h0 b hb
  have := h1 b hb
  simp_all

theorem encName_isName {x : Enc} {l : List UInt8} (h : isName l = true) (hlen : (encName x l).length ≤ 255) : isName (encName x l) = true := by
  obtain ⟨f1, _, f3, f4, f5, f6⟩ := name_facts h
  have hne : l ≠ [] := by simpa using f1
  have e1 : (encName x l).isEmpty = false := by simpa using encName_pos x hne
  have e2 : ∀ p : List UInt8, decS x.cs p = some p → (l == p) = false → (encName x l != p) = true := by
    intro p hp hl
    rw [bne_iff_ne]
    intro e
    have := decS_name x l
    rw [e, hp] at this
    cases this
    simp at hl
  have d1 : decS x.cs [46] = some [46] := by cases x.cs <;> decide
  have d2 : decS x.cs [46, 46] = some [46, 46] := by cases x.cs <;> decide
  have e3 := containsAny_free (encFrom_zero x (x.names.any (fun y => y.data.toList == lower l)) l.length 0 l f5) (encName_slash x f6)
  have e4 : Lib.containsAny (encName x l) [0, 47] = false := e3
  rw [isName_mid e1 hlen, e2 _ d1 f3, e2 _ d2 f4, e4]
  rfl

/-- A name that a store with this encoding permits. -/
structure Permitted (x : Enc) (e : ByteArray) : Prop where
  ne : 0 < e.size
  len : ¬ x.max < (e.size : Int)
  short : e.size ≤ 255
  head : ∀ b, e.data.toList.head? = some b → x.head.data.toList.contains b = false
  last : ∀ b, e.data.toList.getLast? = some b → x.tail.data.toList.contains b = false
  names : x.names.any (fun y => y.data.toList == lower e.data.toList) = false
  forbid : ∀ b ∈ e.data.toList, x.forbid.data.toList.contains b = false
  name : isName e.data.toList = true

theorem permitted_of {x : Enc} {q e : ByteArray} (hx : encErr x = 0) (hp : isPath q.data.toList = true) (he : encErrP x q = 0) (hm : e ∈ encsOf x q) : Permitted x e := by
  obtain ⟨h1, h2, h3, h4⟩ := encErr_zero hx
  rw [namesErrAt_zero] at h2
  simp only [List.all_cons, List.all_nil, Bool.and_true, Bool.and_eq_true] at h1
  have hl : longB x e = false := by
    cases hh : longB x e with
    | false => rfl
    | true => have := (encP_long hm hh).1; omega
  have hl2 : ¬ x.max < (e.size : Int) := by simpa [longB] using hl
  have hs : e.size ≤ 255 := by omega
  unfold encsOf at hm
  obtain ⟨n, hn, rfl⟩ := List.mem_map.1 hm
  have hin := List.all_eq_true.1 (namesOf_names hp) n hn
  have hne := names_ne hp hn
  have hsz : (⟨(encName x n.data.toList).toArray⟩ : ByteArray).size = (encName x n.data.toList).length := by simp [ByteArray.size]
  have hpos := encName_pos x hne
  refine ⟨?_, hl2, hs, ?_, ?_, ?_, ?_, ?_⟩
  · rw [hsz]
    exact List.length_pos_iff.2 hpos
  · exact encName_head h1.2.1
  · exact encName_last h1.2.2
  · exact encName_taken h2 hne
  · exact encFrom_forbid h1.1 _ _ 0 _
  · exact encName_isName hin (by rw [← hsz]; exact hs)

theorem encText_path {x : Enc} {q : ByteArray} (hx : encErr x = 0) (hp : isPath q.data.toList = true) (he : encErrP x q = 0) : isPath (encText x q).data.toList = true := by
  have hg : goodB x (encText x q) q = true := goodB_iff.2 ⟨hp, he, rfl⟩
  have hn := good_names hg
  cases h0 : (encText x q).data.toList.isEmpty with
  | true => simp [isPath, h0]
  | false =>
    have hlen : (encText x q).data.toList.length ≤ 1024 := by
      rw [encText_join he]
      cases Nat.lt_or_ge 1024 (encJoin x q).length with
      | inl h => have := (encP_big (x := x) (s := q) h).1; omega
      | inr h => exact h
    have e2 : (splitC 47 (encText x q).data.toList).all isName = true := by
      rw [← pieces_data, List.all_map, ← namesOf_some h0, hn]
      rw [List.all_eq_true]
      intro e hm
      exact (permitted_of hx hp he hm).name
    unfold isPath
    rw [h0, e2, decide_eq_true hlen]
    rfl
end Wh
