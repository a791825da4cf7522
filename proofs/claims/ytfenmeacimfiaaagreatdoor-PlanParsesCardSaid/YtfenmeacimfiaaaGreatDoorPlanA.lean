/-
  The texts PlainPlan, PlainPlan2, PlainClean2, PlainEnc, PlainSize, PlainSize2, PlainSize3, PlainPlan3, PlainPlan4, PlainPlan5, PlainPlan6, PlainPlan7, PlainPlan8, in one.
-/
import Derived.Test.YtfenmeacimfiaaaGreatDoorPlain2
import Derived.Test.YtfenmeacimfiaaaGreatDoorPlainClean
import Derived.WalkKit
import Derived.Lib.ItoaNum
import Derived.Lib.SlTrimSet
import Derived.IntWalk
namespace Wh
open Go

/-- A byte that is written with digits. -/
def specB (c : UInt8) : Bool := c == 34 || c == 92 || decide (c.toNat < 32)
/-- Its three digits. -/
def oct3 (c : UInt8) : List UInt8 := [48 + c / 64, 48 + c / 8 % 8, 48 + c % 8]
def escB (c : UInt8) : List UInt8 := if specB c then 92 :: oct3 c else [c]
/-- What stands between the quotes. -/
def escL (l : List UInt8) : List UInt8 := l.flatMap escB
def quotedL (l : List UInt8) : List UInt8 := 34 :: (escL l ++ [34])

theorem escL_cons (c : UInt8) (l : List UInt8) : escL (c :: l) = escB c ++ escL l := by simp [escL]
theorem escL_snoc (c : UInt8) (l : List UInt8) : escL (l ++ [c]) = escL l ++ escB c := by simp [escL]
theorem esc_ne (c : UInt8) : escB c ≠ [] := by
  unfold escB
  split <;> simp
theorem escL_nil {l : List UInt8} (h : escL l = []) : l = [] := by
  cases l with
  | nil => rfl
  | cons c r =>
    rw [escL_cons] at h
    exact absurd (List.append_eq_nil_iff.1 h).1 (esc_ne c)
theorem oct3_val (c : UInt8) : ∃ a b d : Nat, a < 4 ∧ b < 8 ∧ d < 8 ∧ oct3 c = [UInt8.ofNat (48 + a), UInt8.ofNat (48 + b), UInt8.ofNat (48 + d)] ∧ c.toNat = a * 64 + b * 8 + d := by
  have hc := c.toNat_lt
  refine ⟨c.toNat / 64, c.toNat / 8 % 8, c.toNat % 8, by omega, by omega, by omega, ?_, by omega⟩
  unfold oct3
  simp only [List.cons.injEq, and_true]
  refine ⟨UInt8.toNat_inj.1 ?_, UInt8.toNat_inj.1 ?_, UInt8.toNat_inj.1 ?_⟩
  · rw [UInt8.toNat_add, UInt8.toNat_div, UInt8.toNat_ofNat']
    rfl
  · rw [UInt8.toNat_add, UInt8.toNat_mod, UInt8.toNat_div, UInt8.toNat_ofNat']
    rfl
  · rw [UInt8.toNat_add, UInt8.toNat_mod, UInt8.toNat_ofNat']
    rfl
theorem digit_ne (a : Nat) (h : a < 8) : UInt8.ofNat (48 + a) ≠ 34 := fun e => by
  have := congrArg UInt8.toNat e
  rw [UInt8.toNat_ofNat'] at this
  have h2 : (34 : UInt8).toNat = 34 := rfl
  rw [h2] at this
  omega
theorem oct3_no (c : UInt8) : ∀ b ∈ oct3 c, b ≠ 34 := by
  obtain ⟨a, b, d, h1, h2, h3, h4, _⟩ := oct3_val c
  rw [h4]
  intro x hx
  simp only [List.mem_cons, List.not_mem_nil, or_false] at hx
  rcases hx with rfl | rfl | rfl
  · exact digit_ne a (by omega)
  · exact digit_ne b h2
  · exact digit_ne d h3
/-- No quote stands between the quotes. -/
theorem escL_no (l : List UInt8) : ∀ b ∈ escL l, b ≠ 34 := by
  intro b hb
  unfold escL at hb
  obtain ⟨c, _, h⟩ := List.mem_flatMap.1 hb
  unfold escB at h
  split at h
  · rcases List.mem_cons.1 h with rfl | h
    · decide
    · exact oct3_no c b h
  · rename_i hs
    rw [List.mem_singleton.1 h]
    rintro rfl
    exact hs rfl
/-- What begins with a byte. -/
theorem escL_first {l : List UInt8} {c : UInt8} {r : List UInt8} (h : escL l = c :: r) : ∃ v l', l = v :: l' ∧ ((c ≠ 92 ∧ specB c = false ∧ v = c ∧ r = escL l') ∨ (c = 92 ∧ specB v = true ∧ r = oct3 v ++ escL l')) := by
  cases l with
  | nil => cases h
  | cons v l' =>
    refine ⟨v, l', rfl, ?_⟩
    rw [escL_cons] at h
    unfold escB at h
    by_cases hs : specB v = true
    · rw [if_pos hs] at h
      injection h with h1 h2
      exact .inr ⟨h1.symm, hs, h2.symm⟩
    · rw [if_neg hs] at h
      injection h with h1 h2
      subst h1
      have hf : specB v = false := by simpa using hs
      refine .inl ⟨fun e => ?_, hf, rfl, h2.symm⟩
      rw [e] at hf
      exact absurd hf (by decide)
theorem oct3_inj {a b : UInt8} {r s : List UInt8} (h : oct3 a ++ r = oct3 b ++ s) : a = b ∧ r = s := by
  obtain ⟨h1, h2⟩ := List.append_inj h (by simp [oct3])
  refine ⟨?_, h2⟩
  obtain ⟨a1, a2, a3, x1, x2, x3, x4, x5⟩ := oct3_val a
  obtain ⟨b1, b2, b3, y1, y2, y3, y4, y5⟩ := oct3_val b
  rw [x4, y4] at h1
  injection h1 with e1 h1
  injection h1 with e2 h1
  injection h1 with e3 _
  have k1 := congrArg UInt8.toNat e1
  have k2 := congrArg UInt8.toNat e2
  have k3 := congrArg UInt8.toNat e3
  rw [UInt8.toNat_ofNat', UInt8.toNat_ofNat'] at k1 k2 k3
  exact UInt8.toNat_inj.1 (by omega)
/-- A text is read as one text at most. -/
theorem escL_inj : ∀ {l m : List UInt8}, escL l = escL m → l = m
  | [], m, h => (escL_nil h.symm).symm
  | v :: l, m, h => by
    rw [escL_cons] at h
    cases hm : m with
    | nil =>
      rw [hm] at h
      exact absurd (List.append_eq_nil_iff.1 h).1 (esc_ne v)
    | cons u m' =>
      rw [hm, escL_cons] at h
      unfold escB at h
      by_cases hv : specB v = true <;> by_cases hu : specB u = true
      · rw [if_pos hv, if_pos hu] at h
        injection h with _ h
        obtain ⟨h1, h2⟩ := oct3_inj h
        rw [h1, escL_inj h2]
      · rw [if_pos hv, if_neg hu] at h
        injection h with h1 _
        rw [← h1] at hu
        exact absurd rfl hu
      · rw [if_neg hv, if_pos hu] at h
        injection h with h1 _
        rw [h1] at hv
        exact absurd rfl hv
      · rw [if_neg hv, if_neg hu] at h
        injection h with h1 h2
        rw [h1, escL_inj h2]
theorem quotedL_inj {l m : List UInt8} (h : quotedL l = quotedL m) : l = m := by
  unfold quotedL at h
  injection h with _ h
  exact escL_inj (List.append_cancel_right h)
end Wh
namespace Wh
open Go

/-- A word of a line: without blanks and no quote at its beginning, or in quotes. -/
def isW (w : List UInt8) : Prop := (w ≠ [] ∧ (∀ b ∈ w, b ≠ 32) ∧ w.head? ≠ some 34) ∨ ∃ u, w = 34 :: (u ++ [34]) ∧ ∀ b ∈ u, b ≠ 34
/-- What comes behind the first word. -/
def behindW : List (List UInt8) → List UInt8
  | [] => []
  | w :: r => 32 :: (w ++ behindW r)
/-- Words, a blank between two of them. -/
def lineW : List (List UInt8) → List UInt8
  | [] => []
  | w :: r => w ++ behindW r
theorem first_sep {c : UInt8} : ∀ {u v x y : List UInt8}, (∀ b ∈ u, b ≠ c) → (∀ b ∈ v, b ≠ c) → u ++ c :: x = v ++ c :: y → u = v ∧ x = y
  | [], [], x, y, _, _, h => by
    injection h with _ h
    exact ⟨rfl, h⟩
  | [], b :: v, x, y, _, hv, h => by
    injection h with h _
    exact absurd h.symm (hv b (by simp))
  | a :: u, [], x, y, hu, _, h => by
    injection h with h _
    exact absurd h (hu a (by simp))
  | a :: u, b :: v, x, y, hu, hv, h => by
    injection h with h1 h2
    obtain ⟨h3, h4⟩ := first_sep (fun b hb => hu b (by simp [hb])) (fun b hb => hv b (by simp [hb])) h2
    exact ⟨by rw [h1, h3], h4⟩
theorem isW_ne {w : List UInt8} (h : isW w) : w ≠ [] := by
  rcases h with h | ⟨u, h, _⟩
  · exact h.1
  · rw [h]
    simp
theorem word_inj {w v a b : List UInt8} (hw : isW w) (hv : isW v) (ha : a = [] ∨ ∃ r, a = 32 :: r) (hb : b = [] ∨ ∃ r, b = 32 :: r) (h : w ++ a = v ++ b) : w = v ∧ a = b := by
  have hh : w.head? = v.head? := by
    have h1 := congrArg List.head? h
    rw [List.head?_append, List.head?_append] at h1
    cases w with
    | nil => exact absurd rfl (isW_ne hw)
    | cons x w' =>
      cases v with
      | nil => exact absurd rfl (isW_ne hv)
      | cons y v' => simpa using h1
  rcases hw with ⟨_, w2, w3⟩ | ⟨u, rfl, hu⟩
  · rcases hv with ⟨_, v2, v3⟩ | ⟨u', rfl, _⟩
    · rcases ha with rfl | ⟨r, rfl⟩
      · rcases hb with rfl | ⟨s, rfl⟩
        · simpa using h
        · rw [List.append_nil] at h
          exact absurd rfl (w2 32 (by rw [h]; simp))
      · rcases hb with rfl | ⟨s, rfl⟩
        · rw [List.append_nil] at h
          exact absurd rfl (v2 32 (by rw [← h]; simp))
        · obtain ⟨h1, h2⟩ := first_sep w2 v2 h
          exact ⟨h1, by rw [h2]⟩
    · exact absurd (hh.trans rfl) w3
  · rcases hv with ⟨_, v2, v3⟩ | ⟨u', rfl, hu'⟩
    · exact absurd (hh.symm.trans rfl) v3
    · simp only [List.cons_append, List.append_assoc, List.nil_append] at h
      injection h with _ h
      obtain ⟨h1, h2⟩ := first_sep hu hu' h
      exact ⟨by rw [h1], h2⟩
theorem behindW_form (r : List (List UInt8)) : behindW r = [] ∨ ∃ s, behindW r = 32 :: s := by
  cases r with
  | nil => exact .inl rfl
  | cons w r => exact .inr ⟨_, rfl⟩
theorem behindW_inj : ∀ {r s : List (List UInt8)}, (∀ w ∈ r, isW w) → (∀ w ∈ s, isW w) → behindW r = behindW s → r = s
  | [], [], _, _, _ => rfl
  | [], v :: s, _, _, h => by cases h
  | w :: r, [], _, _, h => by cases h
  | w :: r, v :: s, hr, hs, h => by
    injection h with _ h
    obtain ⟨h1, h2⟩ := word_inj (hr w (by simp)) (hs v (by simp)) (behindW_form r) (behindW_form s) h
    rw [h1, behindW_inj (fun x hx => hr x (by simp [hx])) (fun x hx => hs x (by simp [hx])) h2]
/-- A line is cut into words in one way at most. -/
theorem lineW_inj {r s : List (List UInt8)} (hr : ∀ w ∈ r, isW w) (hs : ∀ w ∈ s, isW w) (h : lineW r = lineW s) : r = s := by
  cases r with
  | nil =>
    cases s with
    | nil => rfl
    | cons v s =>
      exact absurd (List.append_eq_nil_iff.1 h.symm).1 (isW_ne (hs v (by simp)))
  | cons w r =>
    cases s with
    | nil => exact absurd (List.append_eq_nil_iff.1 h).1 (isW_ne (hr w (by simp)))
    | cons v s =>
      obtain ⟨h1, h2⟩ := word_inj (hr w (by simp)) (hs v (by simp)) (behindW_form r) (behindW_form s) h
      rw [h1, behindW_inj (fun x hx => hr x (by simp [hx])) (fun x hx => hs x (by simp [hx])) h2]
theorem isW_quoted (l : List UInt8) : isW (quotedL l) := .inr ⟨escL l, rfl, escL_no l⟩
end Wh
namespace Wh
open Go

theorem containsAny_eq (chars : List UInt8) : ∀ l : List UInt8, Lib.containsAny l chars = l.any (fun b => chars.contains b)
  | [] => rfl
  | b :: l => by
    have ih := containsAny_eq chars l
    unfold Lib.containsAny at ih ⊢
    rw [Lib.indexAny, List.any_cons, ← ih]
    cases h : chars.contains b
    · have hge := Lib.indexAny_ge chars l
      simp only [Bool.false_eq_true, if_false, Bool.false_or]
      by_cases h2 : Lib.indexAny l chars = -1
      · simp [h2]
      · rw [if_neg (by simpa using h2)]
        have h3 : 0 ≤ Lib.indexAny l chars := by omega
        have h4 : 0 ≤ Lib.indexAny l chars + 1 := by omega
        simp [h3, h4]
    · simp

theorem name_facts {l : List UInt8} (h : isName l = true) : l.isEmpty = false ∧ l.length ≤ 255 ∧ (l == [46]) = false ∧ (l == [46, 46]) = false ∧ (∀ b ∈ l, b ≠ 0) ∧ (∀ b ∈ l, b ≠ 47) := by
  unfold isName at h
  simp only [Bool.and_eq_true, Bool.not_eq_true', decide_eq_true_eq] at h
  obtain ⟨⟨⟨⟨h1, h2⟩, h3⟩, h4⟩, h5⟩ := h
  rw [containsAny_eq, List.any_eq_false] at h5
  refine ⟨h1, h2, ?_, ?_, ?_, ?_⟩
  · simpa using h3
  · simpa using h4
  · intro b hb hb0
    subst hb0
    exact h5 _ hb (by decide)
  · intro b hb hb0
    subst hb0
    exact h5 _ hb (by decide)

theorem splitC_join {c : UInt8} : ∀ {x : List UInt8} {r : List (List UInt8)}, (∀ y ∈ x :: r, ∀ b ∈ y, b ≠ c) → splitC c (Lib.join (x :: r) [c]) = x :: r
  | x, [], h => by
    rw [Lib.join_one]
    exact splitC_no (h x (by simp))
  | x, y :: r, h => by
    have ih := splitC_join (c := c) (x := y) (r := r) (fun z hz => h z (by simp [hz]))
    have e : Lib.join (x :: y :: r) [c] = x ++ c :: Lib.join (y :: r) [c] := by
      rw [Lib.join_cons, Lib.join_cons]
      simp [Lib.joinTail]
    rw [e, splitC_append (h x (by simp)), ih]

theorem byteArray_ext {a b : ByteArray} (h : a.data.toList = b.data.toList) : a = b := by
  obtain ⟨x⟩ := a
  obtain ⟨y⟩ := b
  congr
  exact Array.toList_inj.1 h

theorem map_data_inj : ∀ {xs ys : List ByteArray}, xs.map (·.data.toList) = ys.map (·.data.toList) → xs = ys
  | [], [], _ => rfl
  | [], _ :: _, h => by simp at h
  | _ :: _, [], h => by simp at h
  | x :: xs, y :: ys, h => by
    simp only [List.map_cons, List.cons.injEq] at h
    rw [byteArray_ext h.1, map_data_inj h.2]

theorem pieces_of {c : UInt8} {s : ByteArray} {xs : List ByteArray} (h : splitC c s.data.toList = xs.map (·.data.toList)) : pieces c s = xs :=
  map_data_inj (by rw [pieces_data, h])

theorem cleanGo_names : ∀ {xs out : List ByteArray}, xs.all (fun x => isName x.data.toList) = true → cleanGo xs out = some (out ++ xs)
  | [], out, _ => by simp [cleanGo]
  | x :: xs, out, h => by
    rw [List.all_cons, Bool.and_eq_true] at h
    obtain ⟨f1, _, f3, f4, _⟩ := name_facts h.1
    rw [cleanGo, if_neg (by rw [Lib.toList_data, f1, f3]; decide), if_neg (by rw [Lib.toList_data, f4]; decide), cleanGo_names h.2]
    simp

theorem joinErr_zero {out : List ByteArray} (h : joinErr out = 0) : out.all (fun x => isName x.data.toList) = true ∧ (Lib.join (out.map (·.data.toList)) [47]).length ≤ 1024 := by
  unfold joinErr at h
  split at h
  · rename_i h1
    split at h
    · exact ⟨h1, by assumption⟩
    · omega
  · omega

/-- A joined text of names is a path, and its pieces are they. -/
theorem joined_path {x : ByteArray} {r : List ByteArray} (h : (x :: r).all (fun x => isName x.data.toList) = true) (hl : (Lib.join ((x :: r).map (·.data.toList)) [47]).length ≤ 1024) :
    isPath (Lib.join ((x :: r).map (·.data.toList)) [47]) = true ∧ splitC 47 (Lib.join ((x :: r).map (·.data.toList)) [47]) = (x :: r).map (·.data.toList) := by
  have hsp : splitC 47 (Lib.join ((x :: r).map (·.data.toList)) [47]) = (x :: r).map (·.data.toList) := by
    rw [List.map_cons]
    apply splitC_join
    intro y hy b hb
    rw [← List.map_cons (f := fun x : ByteArray => x.data.toList), List.mem_map] at hy
    obtain ⟨z, hz, rfl⟩ := hy
    exact (name_facts (List.all_eq_true.1 h z hz)).2.2.2.2.2 b hb
  refine ⟨?_, hsp⟩
  unfold isPath
  rw [hsp, List.all_map]
  simp only [Bool.or_eq_true, Bool.and_eq_true, decide_eq_true_eq]
  exact .inr ⟨hl, h⟩

theorem pieces_empty : pieces 47 ⟨#[]⟩ = [⟨#[]⟩] := pieces_of rfl

theorem clean_empty : cleanText ⟨#[]⟩ = ⟨#[]⟩ ∧ cleanErr ⟨#[]⟩ = 0 ∧ isPath (⟨#[]⟩ : ByteArray).data.toList = true := by
  have h : cleanGo (pieces 47 ⟨#[]⟩) [] = some [] := by
    rw [pieces_empty, cleanGo, if_pos (by rw [Lib.toList_data]; rfl)]
    rfl
  refine ⟨?_, ?_, rfl⟩
  · rw [cleanText, h]; rfl
  · rw [cleanErr, h]; rfl

theorem joinText_again {out : List ByteArray} : cleanText (joinText out) = joinText out ∧ cleanErr (joinText out) = 0 ∧ isPath (joinText out).data.toList = true := by
  by_cases he : joinErr out = 0
  · obtain ⟨h1, h2⟩ := joinErr_zero he
    have hj := (join_good h1 h2).1
    cases out with
    | nil =>
      have e0 : joinText [] = ⟨#[]⟩ := by rw [hj]; rfl
      rw [e0]
      exact clean_empty
    | cons x r =>
      obtain ⟨p1, p2⟩ := joined_path h1 h2
      have ed : (joinText (x :: r)).data.toList = Lib.join ((x :: r).map (·.data.toList)) [47] := by rw [hj]
      have hp : pieces 47 (joinText (x :: r)) = x :: r := pieces_of (by rw [ed]; exact p2)
      have hg : cleanGo (pieces 47 (joinText (x :: r))) [] = some (x :: r) := by rw [hp, cleanGo_names h1]; rfl
      refine ⟨?_, ?_, by rw [ed]; exact p1⟩
      · rw [cleanText, hg]; rfl
      · rw [cleanErr, hg]; exact he
  · have e0 : joinText out = ⟨#[]⟩ := by rw [joinText, if_neg he]
    rw [e0]
    exact clean_empty

theorem clean_again (s : ByteArray) : cleanText (cleanText s) = cleanText s ∧ cleanErr (cleanText s) = 0 ∧ isPath (cleanText s).data.toList = true := by
  unfold cleanText
  cases cleanGo (pieces 47 s) [] with
  | none => exact clean_empty
  | some out => exact joinText_again
end Wh
namespace Wh
open Go

def digit (c : UInt8) : Bool := decide (48 ≤ c.toNat) && decide (c.toNat ≤ 57)
def letter (c : UInt8) : Bool := (decide (97 ≤ c.toNat) && decide (c.toNat ≤ 122)) || (decide (65 ≤ c.toNat) && decide (c.toNat ≤ 90))

theorem letter_eq (c : UInt8) : letter c = ((decide (97 ≤ c.toNat) && decide (c.toNat ≤ 122)) || (decide (65 ≤ c.toNat) && decide (c.toNat ≤ 90))) := rfl

theorem letter_small (c : UInt8) : letter c = (decide (97 ≤ (small c).toNat) && decide ((small c).toNat ≤ 122)) := by
  rw [Bool.eq_iff_iff, small_nat]
  unfold letter
  simp
  split <;> omega
/-- A byte that may stand in Forbid, Head or Tail. -/
def okB (cs : Bool) (c : UInt8) : Bool := !(letter c || digit c || c == 37 || c == 47 || (cs && c == 94))
/-- Forbid, Head or Tail as it must be. -/
def formOk (cs : Bool) : List UInt8 → Bool
  | [] => true
  | x :: r => !r.contains x && okB cs x && formOk cs r

theorem formOk_snoc (cs : Bool) (x : UInt8) : ∀ l : List UInt8, formOk cs (l ++ [x]) = (formOk cs l && okB cs x && !l.contains x)
  | [] => by simp [formOk]
  | y :: r => by
    rw [List.cons_append, formOk, formOk, formOk_snoc cs x r, List.contains_append]
    simp only [List.contains_cons, List.contains_nil, Bool.or_false]
    have e : (y == x) = (x == y) := by rw [Bool.eq_iff_iff]; simp; exact ⟨Eq.symm, Eq.symm⟩
    rw [e]
    cases r.contains y <;> cases r.contains x <;> cases (x == y) <;> cases okB cs y <;> cases okB cs x <;> cases formOk cs r <;> rfl

theorem formOk_prefix {cs : Bool} : ∀ {a b : List UInt8}, formOk cs (a ++ b) = true → formOk cs a = true
  | [], _, _ => rfl
  | x :: a, b, h => by
    rw [List.cons_append, formOk, Bool.and_eq_true, Bool.and_eq_true] at h
    rw [formOk, Bool.and_eq_true, Bool.and_eq_true]
    refine ⟨⟨?_, h.1.2⟩, formOk_prefix h.2⟩
    have h1 := h.1.1
    rw [List.contains_append] at h1
    simp at h1 ⊢
    exact h1.1

theorem formOk_bad {cs : Bool} {l : List UInt8} {k : Nat} {x : UInt8} (hx : l[k]? = some x) (h : (l.take k).contains x = true ∨ okB cs x = false) : formOk cs l = false := by
  cases hf : formOk cs l with
  | false => rfl
  | true =>
    have h1 : formOk cs (l.take (k + 1)) = true := formOk_prefix (b := l.drop (k + 1)) (by rw [List.take_append_drop]; exact hf)
    rw [List.take_add_one, hx, Option.toList_some, formOk_snoc] at h1
    rcases h with h | h
    · rw [h] at h1; simp at h1
    · rw [h] at h1; simp at h1

theorem formOk_step {cs : Bool} {l : List UInt8} {k : Nat} {x : UInt8} (hx : l[k]? = some x) (h : formOk cs (l.take k) = true) (h1 : (l.take k).contains x = false) (h2 : okB cs x = true) : formOk cs (l.take (k + 1)) = true := by
  rw [List.take_add_one, hx, Option.toList_some, formOk_snoc, h, h1, h2]
  rfl

theorem formOk_drop {cs : Bool} {l : List UInt8} {k : Nat} {x : UInt8} (hx : l[k]? = some x) : formOk cs (l.drop k) = (!(l.drop (k + 1)).contains x && okB cs x && formOk cs (l.drop (k + 1))) := by
  have h := List.getElem?_eq_some_iff.1 hx
  rw [List.drop_eq_getElem_cons h.1, h.2, formOk]

/-- One of Names as it must be. -/
def nameOk (l : List UInt8) : Bool := isName l && (lower l == l) && !Lib.containsAny l [37, 94]

def namesErrFrom (prev : Option ByteArray) : List ByteArray → Int
  | [] => 0
  | n :: r => if nameOk n.data.toList = false then 2 else if (match prev with | none => false | some p => !Op.bytesLess p.toList n.toList) then 10 else namesErrFrom (some n) r

def namesErrAt (xs : List ByteArray) (k : Nat) : Int := namesErrFrom (if k = 0 then none else xs[k - 1]?) (xs.drop k)

section
variable {xs : List ByteArray} {k : Nat} {n p : ByteArray}
theorem namesErrAt_zero : namesErrAt xs 0 = namesErrFrom none xs := by simp [namesErrAt]
theorem namesErrAt_succ : namesErrAt xs (k + 1) = namesErrFrom xs[k]? (xs.drop (k + 1)) := by simp [namesErrAt]
theorem namesErr_name (hn : xs[k]? = some n) (h : nameOk n.data.toList = false) : namesErrAt xs k = 2 := by
  have hh := List.getElem?_eq_some_iff.1 hn
  rw [namesErrAt, List.drop_eq_getElem_cons hh.1, hh.2]
  generalize (if k = 0 then none else xs[k - 1]?) = pv
  cases pv <;> rw [namesErrFrom, if_pos h]
theorem namesErr_first (hn : xs[0]? = some n) (h : nameOk n.data.toList = true) : namesErrAt xs 0 = namesErrAt xs 1 := by
  have hh := List.getElem?_eq_some_iff.1 hn
  have e1 : xs = n :: xs.drop 1 := by
    have := List.drop_eq_getElem_cons hh.1
    rw [hh.2] at this
    exact this
  rw [namesErrAt_succ, hn, namesErrAt_zero]
  conv => lhs; rw [e1]
  rw [namesErrFrom, if_neg (by simp [h])]
  rfl
theorem namesErr_order (hn : xs[k + 1]? = some n) (hp : xs[k]? = some p) (h : nameOk n.data.toList = true) (h2 : Op.bytesLess p.toList n.toList = false) : namesErrAt xs (k + 1) = 10 := by
  have hh := List.getElem?_eq_some_iff.1 hn
  rw [namesErrAt_succ, hp, List.drop_eq_getElem_cons hh.1, hh.2, namesErrFrom, if_neg (by simp [h])]
  simp [h2]
theorem namesErr_next (hn : xs[k + 1]? = some n) (hp : xs[k]? = some p) (h : nameOk n.data.toList = true) (h2 : Op.bytesLess p.toList n.toList = true) : namesErrAt xs (k + 1) = namesErrAt xs (k + 1 + 1) := by
  have hh := List.getElem?_eq_some_iff.1 hn
  rw [namesErrAt_succ (k := k + 1), hn, namesErrAt_succ, hp, List.drop_eq_getElem_cons hh.1, hh.2, namesErrFrom, if_neg (by simp [h])]
  simp [h2]
theorem namesErr_end (hk : xs.length ≤ k) : namesErrAt xs k = 0 := by
  rw [namesErrAt, List.drop_eq_nil_of_le hk]
  rfl
end

theorem bytesLess_flip : ∀ a b : List UInt8, (Op.bytesLess a b || a == b) = !Op.bytesLess b a
  | [], [] => rfl
  | [], _ :: _ => rfl
  | _ :: _, [] => rfl
  | x :: a, y :: b => by
    have ih := bytesLess_flip a b
    rw [Op.bytesLess, Op.bytesLess]
    by_cases hxy : x = y
    · subst hxy
      have h1 : ¬ x < x := by simp
      simp only [h1, decide_false, Bool.false_or, beq_self_eq_true, Bool.true_and]
      rw [← ih]
      simp [List.cons_beq_cons]
    · have h2 : (x == y) = false := by simpa using hxy
      have h3 : (y == x) = false := by simpa using fun e => hxy e.symm
      have h4 : ((x :: a) == (y :: b)) = false := by simp [hxy]
      rw [h2, h3, h4]
      by_cases h5 : x < y
      · have h6 : ¬ y < x := by rw [UInt8.lt_iff_toNat_lt] at *; omega
        simp [h5, h6]
      · have h6 : y < x := by
          rw [UInt8.lt_iff_toNat_lt] at *
          have : x.toNat ≠ y.toNat := fun e => hxy (UInt8.toNat_inj.1 e)
          omega
        simp [h5, h6]

theorem byte_is (x k : UInt8) (i : Int) (h : (k.toNat : Int) = i) : ((x.toNat : Int) == i) = (x == k) := by
  rw [← h, Bool.eq_iff_iff, beq_iff_eq, beq_iff_eq]
  constructor
  · intro e
    exact UInt8.toNat_inj.1 (by omega)
  · intro e
    rw [e]

/-- Names that rise. -/
def Sorted (xs : List ByteArray) : Prop := ∀ (i j : Nat) (a b : ByteArray), i < j → xs[i]? = some a → xs[j]? = some b → Op.bytesLess a.toList b.toList = true

/-- What a search knows. -/
def Cut (xs : List ByteArray) (x : ByteArray) (i j : Nat) : Prop :=
  (∀ (t : Nat) (y : ByteArray), t < i → xs[t]? = some y → Op.bytesLess y.toList x.toList = true) ∧ (∀ (t : Nat) (y : ByteArray), j ≤ t → xs[t]? = some y → Op.bytesLess y.toList x.toList = false)

theorem cut_start (xs : List ByteArray) (x : ByteArray) : Cut xs x 0 xs.length :=
  ⟨fun t y ht => absurd ht (Nat.not_lt_zero _), fun t y ht hy => absurd (List.getElem?_eq_some_iff.1 hy).1 (by omega)⟩

/-- An encoding. -/
structure Enc where
  forbid : ByteArray
  head : ByteArray
  tail : ByteArray
  names : List ByteArray
  cs : Bool
  max : Int

/-- What is wrong with an encoding. -/
def encErr (x : Enc) : Int :=
  if [x.forbid, x.head, x.tail].all (fun s => formOk x.cs s.data.toList) = false then 6
  else if namesErrAt x.names 0 ≠ 0 then namesErrAt x.names 0
  else if x.max < 3 ∨ 255 < x.max then 7 else 0

theorem encErr_form {x : Enc} (h : [x.forbid, x.head, x.tail].all (fun s => formOk x.cs s.data.toList) = false) : encErr x = 6 := by
  unfold encErr; rw [if_pos h]
theorem encErr_names {x : Enc} (h : [x.forbid, x.head, x.tail].all (fun s => formOk x.cs s.data.toList) = true) (h2 : namesErrAt x.names 0 ≠ 0) : encErr x = namesErrAt x.names 0 := by
  unfold encErr; rw [if_neg (by simp [h]), if_pos h2]
theorem encErr_max {x : Enc} (h : [x.forbid, x.head, x.tail].all (fun s => formOk x.cs s.data.toList) = true) (h2 : namesErrAt x.names 0 = 0) (h3 : x.max < 3 ∨ 255 < x.max) : encErr x = 7 := by
  unfold encErr; rw [if_neg (by simp [h]), if_neg (by simp [h2]), if_pos h3]
theorem encErr_ok {x : Enc} (h : [x.forbid, x.head, x.tail].all (fun s => formOk x.cs s.data.toList) = true) (h2 : namesErrAt x.names 0 = 0) (h3 : ¬ (x.max < 3 ∨ 255 < x.max)) : encErr x = 0 := by
  unfold encErr; rw [if_neg (by simp [h]), if_neg (by simp [h2]), if_neg h3]
end Wh
namespace Wh

/-- A digit's value; the value of a row of digits. -/
def dv (c : UInt8) : Nat := c.toNat - 48
def dval (l : List UInt8) : Nat := l.foldl (fun n c => 10 * n + dv c) 0

theorem dval_snoc (l : List UInt8) (c : UInt8) : dval (l ++ [c]) = 10 * dval l + dv c := by simp [dval]

theorem dval_ge : ∀ (r : List UInt8) (n : Nat), n ≤ r.foldl (fun n c => 10 * n + dv c) n
  | [], n => Nat.le_refl _
  | c :: r, n => by
    have := dval_ge r (10 * n + dv c)
    simp only [List.foldl_cons]
    omega

theorem dval_mono (a b : List UInt8) : dval a ≤ dval (a ++ b) := by
  unfold dval
  rw [List.foldl_append]
  exact dval_ge b _

theorem dv_lt {c : UInt8} (h : digit c = true) : dv c ≤ 9 := by
  simp [digit] at h
  unfold dv
  omega

/-- Is there a point? -/
def hasDot (l : List UInt8) : Bool := l.contains 46

theorem dropWhile_nil {α : Type} {p : α → Bool} : ∀ {l : List α}, l.dropWhile p = [] ↔ ∀ x ∈ l, p x = true
  | [] => by simp
  | a :: l => by
    rw [List.dropWhile_cons]
    cases h : p a
    · simp [h]
    · simp [h, dropWhile_nil (l := l)]

theorem takeWhile_all {α : Type} {p : α → Bool} : ∀ {l : List α}, (∀ x ∈ l, p x = true) → l.takeWhile p = l
  | [], _ => rfl
  | a :: l, h => by rw [List.takeWhile_cons, if_pos (h a (by simp)), takeWhile_all (fun x hx => h x (by simp [hx]))]

theorem takeWhile_mem {α : Type} {p : α → Bool} : ∀ {l : List α} {x : α}, x ∈ l.takeWhile p → p x = true
  | [], _, h => by simp at h
  | a :: l, x, h => by
    rw [List.takeWhile_cons] at h
    cases hp : p a
    · simp [hp] at h
    · simp [hp] at h
      rcases h with rfl | h
      · exact hp
      · exact takeWhile_mem h

theorem dropWhile_head {α : Type} {p : α → Bool} : ∀ {l : List α} {x : α} {r : List α}, l.dropWhile p = x :: r → p x = false
  | [], _, _, h => by simp at h
  | a :: l, x, r, h => by
    rw [List.dropWhile_cons] at h
    cases hp : p a
    · simp [hp] at h
      rw [← h.1]
      exact hp
    · simp [hp] at h
      exact dropWhile_head h

abbrev most : Nat := 4611686018427387904

/-- A row of digits that is a number: there is one, and no superfluous 0. -/
def numOk (d : List UInt8) : Bool := !d.isEmpty && !(decide (1 < d.length) && d.head? == some 48)

/-- What names.number returns of it. -/
def numV (d : List UInt8) : Nat := if dval d ≤ most then dval d else most + 1

/-- A number times a unit, as names.times has it. -/
def timesV (n u : Nat) : Nat := if n ≤ most / u then n * u else most + 1

/-- The part behind the point, rounded down. -/
def fracP (fr : List UInt8) (u : Nat) : Nat := fr.foldr (fun c p => (p + dv c * u) / 10) 0

theorem fracP_le (u : Nat) : ∀ (fr : List UInt8), fr.all digit = true → fracP fr u ≤ u
  | [], _ => Nat.zero_le _
  | c :: r, h => by
    rw [List.all_cons, Bool.and_eq_true] at h
    have h1 := fracP_le u r h.2
    have h2 := dv_lt h.1
    have h3 : dv c * u ≤ 9 * u := Nat.mul_le_mul_right u h2
    show (fracP r u + dv c * u) / 10 ≤ u
    omega

def unitOf : List UInt8 → Option Nat
  | [] => some 1
  | [c] => if c = 98 then some 1 else if c = 107 then some 1024 else if c = 77 then some 1048576 else if c = 71 then some 1073741824 else if c = 84 then some 1099511627776 else none
  | _ => none

def sizeFin (d fr : List UInt8) (u : Nat) : Int × Int := if dval d * u + fracP fr u ≤ most then (((dval d * u + fracP fr u : Nat) : Int), 0) else (0, 7)

def sizeEnd (d fr rest : List UInt8) : Int × Int := match unitOf rest with
  | none => (0, 9)
  | some u => sizeFin d fr u

/-- What names.ParseSize returns. -/
def parseSz (l : List UInt8) : Int × Int :=
  if numOk (l.takeWhile digit) then
    if (l.dropWhile digit).head? = some 46 then
      if ((l.dropWhile digit).tail.takeWhile digit).isEmpty then (0, 9) else sizeEnd (l.takeWhile digit) ((l.dropWhile digit).tail.takeWhile digit) ((l.dropWhile digit).tail.dropWhile digit)
    else sizeEnd (l.takeWhile digit) [] (l.dropWhile digit)
  else (0, 9)

theorem unit_pos {r : List UInt8} {u : Nat} (h : unitOf r = some u) : 1 ≤ u ∧ u ≤ 1099511627776 := by
  unfold unitOf at h
  split at h
  · simp at h; omega
  · repeat (split at h; · simp at h; omega)
    simp at h
  · cases h

/-- The steps of names.ParseSize come to the same. -/
theorem size_steps {d fr : List UInt8} {u : Nat} (hu : 1 ≤ u) :
    (most < timesV (numV d) u + fracP fr u → sizeFin d fr u = (0, 7)) ∧
    (timesV (numV d) u + fracP fr u ≤ most → sizeFin d fr u = (((timesV (numV d) u + fracP fr u : Nat) : Int), 0)) := by
  have hle : ∀ n, n ≤ most / u ↔ n * u ≤ most := fun n => Nat.le_div_iff_mul_le hu
  have h1 : timesV (numV d) u = if dval d * u ≤ most then dval d * u else most + 1 := by
    unfold timesV numV
    by_cases h : dval d ≤ most
    · rw [if_pos h]
      by_cases h2 : dval d * u ≤ most
      · rw [if_pos ((hle _).2 h2), if_pos h2]
      · rw [if_neg (fun hh => h2 ((hle _).1 hh)), if_neg h2]
    · rw [if_neg h]
      have hx : ¬ dval d * u ≤ most := fun hh => h (Nat.le_trans (Nat.le_mul_of_pos_right _ hu) hh)
      have hy : ¬ most + 1 ≤ most / u := fun hh => by
        have := (hle _).1 hh
        have h3 : most + 1 ≤ (most + 1) * u := Nat.le_mul_of_pos_right _ hu
        omega
      rw [if_neg hy, if_neg hx]
  rw [h1]
  unfold sizeFin
  by_cases h2 : dval d * u ≤ most
  · rw [if_pos h2]
    exact ⟨fun h => by rw [if_neg (by omega)], fun h => by rw [if_pos h]⟩
  · rw [if_neg h2]
    exact ⟨fun _ => by rw [if_neg (by omega)], fun h => by omega⟩
end Wh
namespace Wh

/-- The place of a letter among the units. -/
def unitIdx (c : UInt8) : Option Nat := if c = 98 then some 0 else if c = 107 then some 1 else if c = 77 then some 2 else if c = 71 then some 3 else if c = 84 then some 4 else none

theorem unit_one (c : UInt8) : unitOf [c] = (unitIdx c).map (fun i => 1024 ^ i) := by
  unfold unitOf unitIdx
  by_cases h1 : c = 98
  · simp [h1]
  by_cases h2 : c = 107
  · simp [h2]
  by_cases h3 : c = 77
  · simp [h3]
  by_cases h4 : c = 71
  · simp [h4]
  by_cases h5 : c = 84
  · simp [h5]
  simp [h1, h2, h3, h4, h5]

theorem unitIdx_digit {c : UInt8} {i : Nat} (h : unitIdx c = some i) : digit c = false ∧ c ≠ 46 ∧ i ≤ 4 := by
  unfold unitIdx at h
  split at h
  · rename_i h1; subst h1; simp at h; subst h; decide
  split at h
  · rename_i h1; subst h1; simp at h; subst h; decide
  split at h
  · rename_i h1; subst h1; simp at h; subst h; decide
  split at h
  · rename_i h1; subst h1; simp at h; subst h; decide
  split at h
  · rename_i h1; subst h1; simp at h; subst h; decide
  cases h

/-- What stands ahead of the unit, and the unit. -/
def core (t : List UInt8) (u : Nat) : Int × Int :=
  if numOk (t.takeWhile digit) then
    if t.dropWhile digit = [] then sizeFin (t.takeWhile digit) [] u
    else if (t.dropWhile digit).head? = some 46 ∧ (t.dropWhile digit).tail ≠ [] ∧ (t.dropWhile digit).tail.all digit = true then sizeFin (t.takeWhile digit) (t.dropWhile digit).tail u
    else (0, 9)
  else (0, 9)

theorem while_snoc {c : UInt8} (hc : digit c = false) : ∀ t : List UInt8, (t ++ [c]).takeWhile digit = t.takeWhile digit ∧ (t ++ [c]).dropWhile digit = t.dropWhile digit ++ [c]
  | [] => by simp [hc]
  | x :: t => by
    obtain ⟨h1, h2⟩ := while_snoc hc t
    rw [List.cons_append, List.takeWhile_cons, List.takeWhile_cons, List.dropWhile_cons, List.dropWhile_cons, h1, h2]
    cases digit x <;> simp

theorem unitOf_long {a b : UInt8} {r : List UInt8} : unitOf (a :: b :: r) = none := rfl

theorem unitOf_snoc {r : List UInt8} {c : UInt8} (h : r ≠ []) : unitOf (r ++ [c]) = none := by
  match r, h with
  | [x], _ => rfl
  | x :: y :: r, _ => rfl

theorem sizeEnd_no {d fr r : List UInt8} (h : unitOf r = none) : sizeEnd d fr r = (0, 9) := by unfold sizeEnd; rw [h]
theorem sizeEnd_so {d fr r : List UInt8} {u : Nat} (h : unitOf r = some u) : sizeEnd d fr r = sizeFin d fr u := by unfold sizeEnd; rw [h]

theorem take_or_drop {q : List UInt8} (h : q.dropWhile digit = []) : q.takeWhile digit = q ∧ q.all digit = true := by
  have h1 := dropWhile_nil.1 h
  exact ⟨takeWhile_all h1, List.all_eq_true.2 h1⟩

theorem not_all {q : List UInt8} (h : q.dropWhile digit ≠ []) : q.all digit = false := by
  rw [Bool.eq_false_iff]
  intro ha
  exact h (dropWhile_nil.2 (List.all_eq_true.1 ha))

theorem parseSz_unit {t : List UInt8} {c : UInt8} {i : Nat} (hc : unitIdx c = some i) : parseSz (t ++ [c]) = core t (1024 ^ i) := by
  obtain ⟨hd, h46, _⟩ := unitIdx_digit hc
  obtain ⟨h1, h2⟩ := while_snoc hd t
  have hu : unitOf [c] = some (1024 ^ i) := by rw [unit_one, hc]; rfl
  unfold parseSz core
  rw [h1, h2]
  cases hok : numOk (t.takeWhile digit)
  · simp
  · rw [if_pos rfl, if_pos rfl]
    cases hr : t.dropWhile digit with
    | nil =>
      rw [if_pos rfl, List.nil_append, if_neg (by simpa using h46)]
      exact sizeEnd_so hu
    | cons x q =>
      rw [if_neg (show ¬ (x :: q = []) by simp), List.cons_append, List.head?_cons, List.head?_cons, List.tail_cons, List.tail_cons]
      by_cases hx : x = 46
      · subst hx
        rw [if_pos rfl]
        obtain ⟨g1, g2⟩ := while_snoc hd q
        rw [g1, g2]
        cases hq : q.dropWhile digit with
        | nil =>
          obtain ⟨k1, k2⟩ := take_or_drop hq
          rw [k1, k2]
          cases q with
          | nil => simp
          | cons y q' =>
            rw [if_neg (by simp), if_pos (by simp), List.nil_append]
            exact sizeEnd_so hu
        | cons y q' =>
          have k2 := not_all (q := q) (by rw [hq]; simp)
          rw [if_neg (show ¬ (some 46 = some (46 : UInt8) ∧ q ≠ [] ∧ q.all digit = true) by rw [k2]; simp)]
          split
          · rfl
          · exact sizeEnd_no (unitOf_snoc (by simp))
      · rw [if_neg (show ¬ (some x = some (46 : UInt8)) by simp [hx]), if_neg (by simp [hx])]
        exact sizeEnd_no (by rw [← List.cons_append]; exact unitOf_snoc (by simp))

theorem parseSz_bare {l : List UInt8} (h : ∀ c, l.getLast? = some c → unitIdx c = none) : parseSz l = core l 1 := by
  have hlast : ∀ (q : List UInt8) (x : UInt8), l.dropWhile digit = q ++ [x] → unitIdx x = none := fun q x hq => by
    refine h x ?_
    have e : l = l.takeWhile digit ++ l.dropWhile digit := (List.takeWhile_append_dropWhile).symm
    rw [e, hq, ← List.append_assoc, List.getLast?_append]
    simp
  unfold parseSz core
  cases hok : numOk (l.takeWhile digit)
  · simp
  · rw [if_pos rfl, if_pos rfl]
    cases hr : l.dropWhile digit with
    | nil =>
      rw [if_pos rfl, if_neg (by simp)]
      exact sizeEnd_so rfl
    | cons x q =>
      rw [if_neg (show ¬ (x :: q = []) by simp), List.head?_cons, List.tail_cons]
      have hend : ∀ r, r ≠ [] → (∃ p, l.dropWhile digit = p ++ r) → unitOf r = none := fun r hr0 hp => by
        obtain ⟨p, hp⟩ := hp
        match r, hr0 with
        | [y], _ => rw [unit_one, hlast p y hp]; rfl
        | y :: z :: r, _ => rfl
      by_cases hx : x = 46
      · subst hx
        rw [if_pos rfl]
        cases hq : q.dropWhile digit with
        | nil =>
          obtain ⟨k1, k2⟩ := take_or_drop hq
          rw [k1, k2]
          cases q with
          | nil => simp
          | cons y q' =>
            rw [if_neg (by simp), if_pos (by simp)]
            exact sizeEnd_so rfl
        | cons y q' =>
          have k2 := not_all (q := q) (by rw [hq]; simp)
          rw [if_neg (show ¬ (some 46 = some (46 : UInt8) ∧ q ≠ [] ∧ q.all digit = true) by rw [k2]; simp)]
          split
          · rfl
          · refine sizeEnd_no (hend _ (by simp) ⟨46 :: q.takeWhile digit, ?_⟩)
            rw [hr, ← hq, List.cons_append, List.takeWhile_append_dropWhile]
      · rw [if_neg (show ¬ (some x = some (46 : UInt8)) by simp [hx]), if_neg (by simp [hx])]
        exact sizeEnd_no (hend _ (by simp) ⟨[], by rw [hr]; rfl⟩)

/-- What the reference tests. -/
def refBad (t : List UInt8) : Bool :=
  (t.takeWhile (· != 46)).isEmpty || !(t.takeWhile (· != 46)).all digit || (decide (1 < (t.takeWhile (· != 46)).length) && (t.takeWhile (· != 46)).head? == some 48) ||
    (hasDot t && (((t.dropWhile (· != 46)).drop 1).isEmpty || !((t.dropWhile (· != 46)).drop 1).all digit))

theorem digit_dot {c : UInt8} (h : digit c = true) : (c != 46) = true := by
  rw [bne_iff_ne]
  rintro rfl
  simp [digit] at h

theorem dot_split : ∀ (d r : List UInt8), d.all digit = true → (d ++ r).takeWhile (· != 46) = d ++ r.takeWhile (· != 46) ∧ (d ++ r).dropWhile (· != 46) = r.dropWhile (· != 46) ∧ hasDot (d ++ r) = hasDot r
  | [], r, _ => by simp
  | c :: d, r, h => by
    rw [List.all_cons, Bool.and_eq_true] at h
    obtain ⟨h1, h2, h3⟩ := dot_split d r h.2
    have hc := digit_dot h.1
    have hc2 : (46 == c) = false := by
      rw [bne_iff_ne] at hc
      simpa using fun e => hc e.symm
    refine ⟨?_, ?_, ?_⟩
    · rw [List.cons_append, List.takeWhile_cons, if_pos hc, h1]; rfl
    · rw [List.cons_append, List.dropWhile_cons, if_pos hc, h2]
    · unfold hasDot at h3 ⊢
      rw [List.cons_append, List.contains_cons, hc2, Bool.false_or, h3]

theorem core_ref (t : List UInt8) (u : Nat) : core t u = if refBad t then (0, 9) else sizeFin (t.takeWhile (· != 46)) ((t.dropWhile (· != 46)).drop 1) u := by
  have e : t = t.takeWhile digit ++ t.dropWhile digit := (List.takeWhile_append_dropWhile).symm
  have hd : (t.takeWhile digit).all digit = true := List.all_eq_true.2 fun x hx => takeWhile_mem hx
  obtain ⟨h1, h2, h3⟩ := dot_split (t.takeWhile digit) (t.dropWhile digit) hd
  rw [← e] at h1 h2 h3
  have hh : ∀ x r, t.dropWhile digit = x :: r → digit x = false := fun x r h => dropWhile_head h
  unfold core refBad
  rw [h1, h2, h3]
  generalize t.takeWhile digit = d at *
  generalize t.dropWhile digit = r at *
  clear e h1 h2 h3
  cases r with
  | nil =>
    have e1 : hasDot [] = false := rfl
    rw [if_pos rfl, e1]
    simp only [List.takeWhile_nil, List.append_nil, List.dropWhile_nil, List.drop_nil, hd, Bool.not_true, Bool.or_false, Bool.false_and]
    unfold numOk
    cases hb : (d.isEmpty || (decide (1 < d.length) && d.head? == some 48))
    · rw [if_pos (by rw [← Bool.not_or, hb]; rfl), if_neg (by simp)]
    · rw [if_neg (by rw [← Bool.not_or, hb]; simp), if_pos rfl]
  | cons x r =>
    have hx := hh x r rfl
    rw [if_neg (show ¬ (x :: r = []) by simp)]
    by_cases h46 : x = 46
    · subst h46
      have e1 : hasDot (46 :: r) = true := by simp [hasDot]
      have e2 : (46 :: r).takeWhile (· != 46) = [] := by simp
      have e3 : (46 :: r).dropWhile (· != 46) = 46 :: r := by simp
      rw [e1, e2, e3]
      simp only [List.append_nil, hd, Bool.not_true, Bool.or_false, Bool.true_and, List.drop_one, List.tail_cons, List.head?_cons, true_and]
      unfold numOk
      cases hb : (d.isEmpty || (decide (1 < d.length) && d.head? == some 48))
      · rw [if_pos (by rw [← Bool.not_or, hb]; rfl), Bool.false_or]
        cases r with
        | nil => simp
        | cons y r' =>
          cases ha : (y :: r').all digit
          · simp
          · simp
      · rw [if_neg (by rw [← Bool.not_or, hb]; simp), Bool.true_or, if_pos rfl]
    · have e2 : (x :: r).takeWhile (· != 46) = x :: r.takeWhile (· != 46) := by simp [h46]
      have hna : (d ++ x :: r.takeWhile (· != 46)).all digit = false := by
        rw [List.all_append, List.all_cons, hx]
        simp
      rw [e2, hna]
      simp [h46]
end Wh
namespace Wh

theorem digit_of {k : Nat} (h : k < 10) : digit (UInt8.ofNat (48 + k)) = true ∧ dv (UInt8.ofNat (48 + k)) = k := by
  have : ∀ k : Fin 10, digit (UInt8.ofNat (48 + k.1)) = true ∧ dv (UInt8.ofNat (48 + k.1)) = k.1 := by decide
  exact this ⟨k, h⟩

theorem dec_small {m : Nat} (h : m < 10) : Go.Lib.decDigits m = [UInt8.ofNat (48 + m)] := by rw [Go.Lib.decDigits, dif_pos h]
theorem dec_big {m : Nat} (h : ¬ m < 10) : Go.Lib.decDigits m = Go.Lib.decDigits (m / 10) ++ [UInt8.ofNat (48 + m % 10)] := by rw [Go.Lib.decDigits, dif_neg h]

theorem dec_all (m : Nat) : (Go.Lib.decDigits m).all digit = true ∧ dval (Go.Lib.decDigits m) = m ∧ Go.Lib.decDigits m ≠ [] := by
  induction m using Nat.strongRecOn with
  | _ m ih =>
    by_cases h : m < 10
    · obtain ⟨h1, h2⟩ := digit_of h
      rw [dec_small h]
      refine ⟨by rw [List.all_cons, h1]; rfl, ?_, by simp⟩
      show 10 * 0 + dv _ = m
      rw [h2]
      omega
    · obtain ⟨i1, i2, i3⟩ := ih (m / 10) (by omega)
      obtain ⟨h1, h2⟩ := digit_of (k := m % 10) (by omega)
      rw [dec_big h]
      refine ⟨by rw [List.all_append, i1, List.all_cons, h1]; rfl, ?_, by simp⟩
      rw [dval_snoc, i2, h2]
      omega

theorem dec_head (m : Nat) (hm : 1 ≤ m) : (Go.Lib.decDigits m).head? ≠ some 48 := by
  induction m using Nat.strongRecOn with
  | _ m ih =>
    by_cases h : m < 10
    · rw [dec_small h]
      have : ∀ k : Fin 10, 1 ≤ k.1 → [UInt8.ofNat (48 + k.1)].head? ≠ some 48 := by decide
      exact this ⟨m, h⟩ hm
    · have h1 := ih (m / 10) (by omega) (by omega)
      have h2 := (dec_all (m / 10)).2.2
      rw [dec_big h]
      cases hd : Go.Lib.decDigits (m / 10) with
      | nil => exact absurd hd h2
      | cons x r =>
        rw [hd] at h1
        simpa using h1

theorem dec_numOk (m : Nat) : numOk (Go.Lib.decDigits m) = true := by
  obtain ⟨_, _, h3⟩ := dec_all m
  unfold numOk
  by_cases hm : 1 ≤ m
  · have h := dec_head m hm
    cases hd : Go.Lib.decDigits m with
    | nil => exact absurd hd h3
    | cons x r =>
      rw [hd] at h
      simp at h
      simp [h]
  · have : m = 0 := by omega
    subst this
    rw [dec_small (by omega)]
    rfl

theorem dec_core (m u : Nat) (h : m * u ≤ most) : core (Go.Lib.decDigits m) u = (((m * u : Nat) : Int), 0) := by
  obtain ⟨h1, h2, _⟩ := dec_all m
  have t1 : (Go.Lib.decDigits m).takeWhile digit = Go.Lib.decDigits m := takeWhile_all (List.all_eq_true.1 h1)
  have t2 : (Go.Lib.decDigits m).dropWhile digit = [] := dropWhile_nil.2 (List.all_eq_true.1 h1)
  unfold core
  rw [t1, t2, if_pos (dec_numOk m), if_pos rfl]
  unfold sizeFin
  have e : dval (Go.Lib.decDigits m) * u + fracP [] u = m * u := by rw [h2]; rfl
  rw [e, if_pos h]

theorem dec_last (m : Nat) : ∀ c, (Go.Lib.decDigits m).getLast? = some c → unitIdx c = none := by
  intro c hc
  obtain ⟨h1, _, _⟩ := dec_all m
  have hd : digit c = true := List.all_eq_true.1 h1 c (List.mem_of_getLast? hc)
  cases hu : unitIdx c with
  | none => rfl
  | some i => rw [(unitIdx_digit hu).1] at hd; cases hd

/-- A number without a unit, and one with a unit. -/
theorem read_bare (m : Nat) (h : m ≤ most) : parseSz (Go.Lib.decDigits m) = ((m : Int), 0) := by
  rw [parseSz_bare (dec_last m), dec_core m 1 (by rw [Nat.mul_one]; exact h), Nat.mul_one]

theorem read_unit (m i : Nat) (c : UInt8) (hc : unitIdx c = some i) (h : m * 1024 ^ i ≤ most) : parseSz (Go.Lib.decDigits m ++ [c]) = (((m * 1024 ^ i : Nat) : Int), 0) := by
  rw [parseSz_unit hc, dec_core m _ h]
end Wh
namespace Wh
open Go

theorem dec_inj {a b : Nat} (h : Lib.decDigits a = Lib.decDigits b) : a = b := by
  rw [← (dec_all a).2.1, h, (dec_all b).2.1]
theorem dec_digit (m : Nat) : ∀ c ∈ Lib.decDigits m, 48 ≤ c.toNat ∧ c.toNat ≤ 57 := by
  intro c hc
  have := List.all_eq_true.1 (dec_all m).1 c hc
  unfold digit at this
  simpa [UInt8.le_iff_toNat_le] using this
theorem itoa_inj {a b : Int} (h : Lib.itoa a = Lib.itoa b) : a = b := by
  have key : ∀ (m n : Nat), Lib.decDigits m ≠ 45 :: Lib.decDigits n := fun m n e => by
    have h1 := dec_digit m 45 (by rw [e]; simp)
    have h2 : (45 : UInt8).toNat = 45 := rfl
    rw [h2] at h1
    omega
  unfold Lib.itoa at h
  split at h <;> split at h
  · injection h with _ h
    have := dec_inj h
    omega
  · exact absurd h.symm (key _ _)
  · exact absurd h (key _ _)
  · have := dec_inj h
    omega
theorem itoa_isW (n : Int) : isW (Lib.itoa n) := by
  have h32 : (32 : UInt8).toNat = 32 := rfl
  have h34 : (34 : UInt8).toNat = 34 := rfl
  have key : ∀ m : Nat, ∀ c ∈ Lib.decDigits m, c ≠ 32 ∧ c ≠ 34 := fun m c hc => by
    have := dec_digit m c hc
    refine ⟨?_, ?_⟩ <;> (rintro rfl; omega)
  left
  unfold Lib.itoa
  split
  · refine ⟨by simp, fun b hb => ?_, by simp⟩
    rcases List.mem_cons.1 hb with rfl | hb
    · decide
    · exact (key _ b hb).1
  · refine ⟨(dec_all _).2.2, fun b hb => (key _ b hb).1, fun e => ?_⟩
    exact (key _ 34 (List.mem_of_mem_head? (by rw [e]; rfl))).2 rfl

/-- The words of the kinds of steps. -/
def stepW : List (List UInt8) := [[], [109, 97, 107, 101, 100, 105, 114], [114, 101, 110, 97, 109, 101], [98, 97, 99, 107, 117, 112], [112, 117, 116], [99, 104, 97, 110, 103, 101], [116, 105, 109, 101], [114, 101, 109, 111, 118, 101], [114, 101, 109, 111, 118, 101, 100, 105, 114], [116, 97, 107, 101], [116, 97, 107, 101, 100, 105, 114]]
def refusedW : List UInt8 := [114, 101, 102, 117, 115, 101, 100]
def planW : List UInt8 := [112, 108, 97, 110]
structure StepL where
  kind : Nat
  path : List UInt8
  to : List UInt8
  size : Int
  time : Int
/-- What a step has. -/
def StepL.has (s : StepL) : Bool × Bool × Bool := (s.kind == 2 || s.kind == 3, s.kind == 4 || s.kind == 5, s.kind == 4 || s.kind == 5 || s.kind == 6)
/-- The words of a step's line. -/
def stepWordsL (s : StepL) : List (List UInt8) := stepW.getD s.kind [] :: ((if s.has.2.1 then [Lib.itoa s.size] else []) ++ ((if s.has.2.2 then [Lib.itoa s.time] else []) ++ (quotedL s.path :: (if s.has.1 then [quotedL s.to] else []))))
/-- A step that a line can tell. -/
def StepL.fits (s : StepL) : Prop := 1 ≤ s.kind ∧ s.kind ≤ 10 ∧ (s.has.1 = false → s.to = []) ∧ (s.has.2.1 = false → s.size = 0) ∧ (s.has.2.2 = false → s.time = 0)
theorem stepW_inj : ∀ a, a < 11 → ∀ b, b < 11 → stepW.getD a [] = stepW.getD b [] → a = b := by decide
theorem stepWords_inj {s t : StepL} (hs : s.fits) (ht : t.fits) (h : stepWordsL s = stepWordsL t) : s = t := by
  obtain ⟨k, p, o, z, m⟩ := s
  obtain ⟨k', p', o', z', m'⟩ := t
  obtain ⟨s1, s2, s3, s4, s5⟩ := hs
  obtain ⟨t1, t2, t3, t4, t5⟩ := ht
  dsimp only at s1 s2 t1 t2
  unfold stepWordsL at h
  injection h with h0 h
  obtain rfl : k = k' := stepW_inj k (by omega) k' (by omega) h0
  have e1 : ∀ a b : Int, Lib.itoa a = Lib.itoa b ↔ a = b := fun a b => ⟨itoa_inj, fun h => by rw [h]⟩
  have e2 : ∀ a b : List UInt8, quotedL a = quotedL b ↔ a = b := fun a b => ⟨quotedL_inj, fun h => by rw [h]⟩
  dsimp only [StepL.has] at *
  clear h0 s1 s2 t1 t2
  cases h1 : (k == 2 || k == 3) <;> cases h2 : (k == 4 || k == 5) <;> cases h6 : (k == 6) <;> simp [h1, h2, h6, e1, e2] at h s3 s4 s5 t3 t4 t5 ⊢ <;> simp_all
end Wh
namespace Wh
open Go

theorem takeW_stop {c : UInt8} : ∀ {u a : List UInt8}, (∀ b ∈ u, b ≠ c) → (a = [] ∨ ∃ r, a = c :: r) → (u ++ a).takeWhile (· != c) = u
  | [], a, _, ha => by
    rcases ha with rfl | ⟨r, rfl⟩
    · rfl
    · simp
  | b :: u, a, hu, ha => by
    have hb : (b != c) = true := by simpa using hu b (by simp)
    rw [List.cons_append, List.takeWhile_cons, if_pos hb, takeW_stop (fun x hx => hu x (by simp [hx])) ha]
theorem takeW_no {c : UInt8} (l : List UInt8) : ∀ b ∈ l.takeWhile (· != c), b ≠ c := by
  intro b hb
  induction l with
  | nil => cases hb
  | cons x r ih =>
    rw [List.takeWhile_cons] at hb
    split at hb
    · rename_i hx
      rcases List.mem_cons.1 hb with rfl | hb
      · simpa using hx
      · exact ih hb
    · cases hb
theorem takeW_rest {c : UInt8} (l : List UInt8) : ∃ a, l = l.takeWhile (· != c) ++ a ∧ (a = [] ∨ ∃ r, a = c :: r) := by
  induction l with
  | nil => exact ⟨[], rfl, .inl rfl⟩
  | cons x r ih =>
    rw [List.takeWhile_cons]
    by_cases hx : (x != c) = true
    · rw [if_pos hx]
      obtain ⟨a, h1, h2⟩ := ih
      exact ⟨a, by rw [List.cons_append, ← h1], h2⟩
    · rw [if_neg hx]
      obtain rfl : x = c := by simpa using hx
      exact ⟨x :: r, rfl, .inr ⟨r, rfl⟩⟩
/-- The word at the beginning of a line; none: there is none. -/
def wordQ (l : List UInt8) : Option (List UInt8) :=
  if l.head? = some 34 then (if 34 ∈ l.drop 1 then some (34 :: ((l.drop 1).takeWhile (· != 34) ++ [34])) else none)
  else if l.takeWhile (· != 32) = [] then none else some (l.takeWhile (· != 32))
/-- A line of words begins with its first word. -/
theorem wordQ_line {w a : List UInt8} (hw : isW w) (ha : a = [] ∨ ∃ r, a = 32 :: r) : wordQ (w ++ a) = some w := by
  rcases hw with ⟨h1, h2, h3⟩ | ⟨u, rfl, hu⟩
  · have hh : (w ++ a).head? ≠ some 34 := by
      cases w with
      | nil => exact absurd rfl h1
      | cons x w' => simpa using h3
    unfold wordQ
    rw [if_neg hh, takeW_stop h2 ha, if_neg h1]
  · have e : (34 :: (u ++ [34]) ++ a : List UInt8) = 34 :: (u ++ 34 :: a) := by simp
    unfold wordQ
    have hd : (34 :: (u ++ 34 :: a) : List UInt8).drop 1 = u ++ 34 :: a := rfl
    rw [e, hd, if_pos (by rfl), if_pos (by simp), takeW_stop hu (.inr ⟨a, rfl⟩)]
/-- What wordQ finds is a word, and the line begins with it. -/
theorem wordQ_sound {l w : List UInt8} (h : wordQ l = some w) : isW w ∧ ∃ a, l = w ++ a := by
  unfold wordQ at h
  split at h
  · rename_i hh
    split at h
    · rename_i hm
      injection h with h
      cases l with
      | nil => cases hh
      | cons x s =>
        injection hh with hh
        subst hh
        rw [List.drop_one, List.tail_cons] at h hm
        obtain ⟨a, h1, h2⟩ := takeW_rest (c := 34) s
        rcases h2 with rfl | ⟨r, rfl⟩
        · rw [List.append_nil] at h1
          rw [h1] at hm
          exact absurd rfl (takeW_no s 34 hm)
        · refine ⟨.inr ⟨_, h.symm, takeW_no s⟩, r, ?_⟩
          rw [← h]
          simp only [List.cons_append, List.append_assoc, List.nil_append, List.cons.injEq, true_and]
          exact h1
    · cases h
  · rename_i hh
    split at h
    · cases h
    · rename_i hn
      injection h with h
      obtain ⟨a, h1, _⟩ := takeW_rest (c := 32) l
      refine ⟨.inl ⟨by rw [← h]; exact hn, by rw [← h]; exact takeW_no l, fun e => hh ?_⟩, a, by rw [← h]; exact h1⟩
      rw [h1, h]
      cases w with
      | nil => cases e
      | cons x w' => simpa using e
/-- The words of a line, seen from behind some of them: both ways. -/
theorem line_first {l : List UInt8} {ws : List (List UInt8)} (hw : ∀ x ∈ ws, isW x) (hne : ws ≠ []) (h : l = lineW ws) : ∃ v r, ws = v :: r ∧ wordQ l = some v ∧ l = v ++ behindW r := by
  cases ws with
  | nil => exact absurd rfl hne
  | cons v r =>
    refine ⟨v, r, rfl, ?_, h⟩
    rw [h]
    exact wordQ_line (hw v (by simp)) (behindW_form r)
end Wh
namespace Wh
open Go

theorem behindW_app (r s : List (List UInt8)) : behindW (r ++ s) = behindW r ++ behindW s := by
  induction r with
  | nil => rfl
  | cons w r ih => rw [List.cons_append, behindW, behindW, ih]; simp
theorem lineW_snoc {out : List (List UInt8)} (h : out ≠ []) (w : List UInt8) : lineW (out ++ [w]) = lineW out ++ 32 :: w := by
  cases out with
  | nil => exact absurd rfl h
  | cons v r =>
    show v ++ behindW (r ++ [w]) = (v ++ behindW r) ++ 32 :: w
    rw [behindW_app]
    simp [behindW]
/-- What a loop that cuts a line has done at place i: the words so far; whatever words the line is of, they begin with these. -/
def CutAt (l : List UInt8) (out : List (List UInt8)) (i : Nat) : Prop :=
  (∀ x ∈ out, isW x) ∧ l.take i = (if out = [] then [] else lineW out ++ [32]) ∧ ∀ ws, ws ≠ [] → (∀ x ∈ ws, isW x) → l = lineW ws → ∃ r, r ≠ [] ∧ ws = out ++ r ∧ l.drop i = lineW r
theorem CutAt.start (l : List UInt8) : CutAt l [] 0 := ⟨fun x hx => absurd hx (by simp), by simp, fun ws h1 _ h3 => ⟨ws, h1, rfl, by rw [List.drop_zero]; exact h3⟩⟩
theorem CutAt.word {l : List UInt8} {out ws r : List (List UInt8)} {i : Nat} (hw : ∀ x ∈ ws, isW x) (hne : r ≠ []) (h1 : ws = out ++ r) (h2 : l.drop i = lineW r) : ∃ v r', r = v :: r' ∧ wordQ (l.drop i) = some v ∧ l.drop i = v ++ behindW r' := line_first (fun x hx => hw x (by rw [h1]; simp [hx])) hne h2
/-- No word comes. -/
theorem CutAt.none {l : List UInt8} {out : List (List UInt8)} {i : Nat} (h : CutAt l out i) (hq : wordQ (l.drop i) = none) : ¬ ∃ ws, ws ≠ [] ∧ (∀ x ∈ ws, isW x) ∧ l = lineW ws := by
  rintro ⟨ws, h1, h2, h3⟩
  obtain ⟨r, h4, h5, h6⟩ := h.2.2 ws h1 h2 h3
  obtain ⟨v, r', _, h8, _⟩ := CutAt.word h2 h4 h5 h6
  rw [hq] at h8
  cases h8
/-- Behind the word comes neither the end nor a blank. -/
theorem CutAt.odd {l : List UInt8} {out : List (List UInt8)} {i : Nat} {w rest : List UInt8} {c : UInt8} (h : CutAt l out i) (hq : wordQ (l.drop i) = some w) (hr : l.drop i = w ++ c :: rest) (hc : c ≠ 32) : ¬ ∃ ws, ws ≠ [] ∧ (∀ x ∈ ws, isW x) ∧ l = lineW ws := by
  rintro ⟨ws, h1, h2, h3⟩
  obtain ⟨r, h4, h5, h6⟩ := h.2.2 ws h1 h2 h3
  obtain ⟨v, r', _, h8, h9⟩ := CutAt.word h2 h4 h5 h6
  rw [hq] at h8
  injection h8 with h8
  subst h8
  rw [hr] at h9
  have h10 := List.append_cancel_left h9
  rcases behindW_form r' with h | ⟨s, h⟩
  · rw [h] at h10
    cases h10
  · rw [h] at h10
    injection h10 with h10 _
    exact hc h10
/-- A further word, and a blank. -/
theorem CutAt.next {l : List UInt8} {out : List (List UInt8)} {i : Nat} {w rest : List UInt8} (h : CutAt l out i) (hq : wordQ (l.drop i) = some w) (hr : l.drop i = w ++ 32 :: rest) : CutAt l (out ++ [w]) (i + w.length + 1) := by
  have hw := (wordQ_sound hq).1
  refine ⟨fun x hx => ?_, ?_, fun ws h1 h2 h3 => ?_⟩
  · rcases List.mem_append.1 hx with hx | hx
    · exact h.1 x hx
    · rw [List.mem_singleton.1 hx]
      exact hw
  · have hl : l = l.take i ++ (w ++ 32 :: rest) := by rw [← hr, List.take_append_drop]
    have ht : l.take (i + w.length + 1) = l.take i ++ (w ++ [32]) := by
      rw [Nat.add_assoc, List.take_add, hr]
      congr 1
      rw [List.take_append, List.take_of_length_le (by omega)]
      simp
    rw [ht, if_neg (by simp), h.2.1]
    by_cases ho : out = []
    · subst ho
      simp [lineW, behindW]
    · rw [if_neg ho, lineW_snoc ho]
      simp
  · obtain ⟨r, h4, h5, h6⟩ := h.2.2 ws h1 h2 h3
    obtain ⟨v, r', h7, h8, h9⟩ := CutAt.word h2 h4 h5 h6
    rw [hq] at h8
    injection h8 with h8
    subst h8
    rw [hr] at h9
    have h10 := List.append_cancel_left h9
    cases r' with
    | nil => cases h10
    | cons u r'' =>
      refine ⟨u :: r'', by simp, by rw [h5, h7]; simp, ?_⟩
      have e : l.drop (i + w.length + 1) = rest := by
        rw [Nat.add_assoc, ← List.drop_drop, hr, ← List.drop_drop, List.drop_left]
        rfl
      rw [e]
      injection h10
/-- The last word. -/
theorem CutAt.last {l : List UInt8} {out : List (List UInt8)} {i : Nat} {w : List UInt8} (h : CutAt l out i) (hq : wordQ (l.drop i) = some w) (hr : l.drop i = w) : (∀ x ∈ out ++ [w], isW x) ∧ l = lineW (out ++ [w]) := by
  refine ⟨fun x hx => ?_, ?_⟩
  · rcases List.mem_append.1 hx with hx | hx
    · exact h.1 x hx
    · rw [List.mem_singleton.1 hx]
      exact (wordQ_sound hq).1
  · have hl : l = l.take i ++ w := by rw [← hr, List.take_append_drop]
    rw [hl, h.2.1]
    by_cases ho : out = []
    · subst ho
      simp [lineW, behindW]
    · rw [if_neg ho, lineW_snoc ho]
      simp
end Wh
namespace Wh
open Go

/-- A word is cut off at a blank, or at the end; never does a blank end the line. -/
def CutW (l w r : List UInt8) : Prop := (∀ b ∈ w, b ≠ 32) ∧ ((l = w ∧ r = []) ∨ (l = w ++ 32 :: r ∧ r ≠ []))
theorem lineW_two (w v : List UInt8) (ws : List (List UInt8)) : lineW (w :: v :: ws) = w ++ 32 :: lineW (v :: ws) := rfl
theorem lineW_ne {v : List UInt8} (hv : isW v) (ws : List (List UInt8)) : lineW (v :: ws) ≠ [] := fun h => isW_ne hv (List.append_eq_nil_iff.1 h).1
theorem cutW_line {l w v : List UInt8} {ws : List (List UInt8)} (hw : ∀ b ∈ w, b ≠ 32) (hv : isW v) : (∃ r, CutW l w r ∧ r = lineW (v :: ws)) ↔ l = lineW (w :: v :: ws) := by
  rw [lineW_two]
  constructor
  · rintro ⟨r, ⟨_, ⟨_, h2⟩ | ⟨h1, _⟩⟩, h3⟩
    · exact absurd (h3.symm.trans h2) (lineW_ne hv ws)
    · rw [h1, h3]
  · intro h
    exact ⟨_, ⟨hw, .inr ⟨h, lineW_ne hv ws⟩⟩, rfl⟩
theorem itoa_no (n : Int) : ∀ b ∈ Lib.itoa n, b ≠ 32 := by
  rcases itoa_isW n with h | ⟨u, h, _⟩
  · exact h.2.1
  · intro b hb e
    have h1 := itoa_isW n
    rcases h1 with h1 | ⟨u', h1, _⟩
    · exact h1.2.1 b hb e
    · unfold Lib.itoa at h
      split at h
      · injection h with h _
        exact absurd h (by decide)
      · have := dec_digit _ 34 (by rw [h]; simp)
        have h34 : (34 : UInt8).toNat = 34 := rfl
        omega
/-- What the reader of plans does behind the first word of a step's line: 'never bad, and nothing left'. -/
def ReadsS (s : StepL) (l : List UInt8) : Prop :=
  ∃ r1 r2 r3 r4, (if s.has.2.1 then CutW l (Lib.itoa s.size) r1 else r1 = l) ∧ (if s.has.2.2 then CutW r1 (Lib.itoa s.time) r2 else r2 = r1) ∧ r2 = quotedL s.path ++ r3 ∧ (if s.has.1 then r3 = 32 :: (quotedL s.to ++ r4) else r4 = r3) ∧ r4 = []
theorem reads_iff {s : StepL} {line : List UInt8} (hk : ∀ b ∈ stepW.getD s.kind [], b ≠ 32) : (∃ r0, CutW line (stepW.getD s.kind []) r0 ∧ ReadsS s r0) ↔ line = lineW (stepWordsL s) := by
  have hp : ∀ r2, (∃ r3 r4, r2 = quotedL s.path ++ r3 ∧ (if s.has.1 then r3 = 32 :: (quotedL s.to ++ r4) else r4 = r3) ∧ r4 = []) ↔ r2 = lineW (quotedL s.path :: (if s.has.1 then [quotedL s.to] else [])) := fun r2 => by
    cases s.has.1 with
    | false =>
      simp only [Bool.false_eq_true, if_false]
      constructor
      · rintro ⟨r3, r4, h1, h2, h3⟩
        rw [h1, ← h2, h3]
        rfl
      · intro h
        exact ⟨[], [], by rw [h]; rfl, rfl, rfl⟩
    | true =>
      simp only [if_true]
      constructor
      · rintro ⟨r3, r4, h1, h2, h3⟩
        rw [h1, h2, h3]
        simp [lineW, behindW]
      · intro h
        exact ⟨32 :: (quotedL s.to ++ []), [], by rw [h]; simp [lineW, behindW], rfl, rfl⟩
  have ht : ∀ r1, (∃ r2, (if s.has.2.2 then CutW r1 (Lib.itoa s.time) r2 else r2 = r1) ∧ r2 = lineW (quotedL s.path :: (if s.has.1 then [quotedL s.to] else []))) ↔ r1 = lineW ((if s.has.2.2 then [Lib.itoa s.time] else []) ++ (quotedL s.path :: (if s.has.1 then [quotedL s.to] else []))) := fun r1 => by
    cases s.has.2.2 with
    | false => exact ⟨fun ⟨r2, h1, h2⟩ => h1.symm.trans h2, fun h => ⟨r1, rfl, h⟩⟩
    | true => exact cutW_line (itoa_no _) (isW_quoted _)
  have hz : ∀ r0, (∃ r1, (if s.has.2.1 then CutW r0 (Lib.itoa s.size) r1 else r1 = r0) ∧ r1 = lineW ((if s.has.2.2 then [Lib.itoa s.time] else []) ++ (quotedL s.path :: (if s.has.1 then [quotedL s.to] else [])))) ↔ r0 = lineW ((if s.has.2.1 then [Lib.itoa s.size] else []) ++ ((if s.has.2.2 then [Lib.itoa s.time] else []) ++ (quotedL s.path :: (if s.has.1 then [quotedL s.to] else [])))) := fun r0 => by
    cases s.has.2.1 with
    | false => exact ⟨fun ⟨r2, h1, h2⟩ => h1.symm.trans h2, fun h => ⟨r0, rfl, h⟩⟩
    | true =>
      cases s.has.2.2 with
      | false => exact cutW_line (itoa_no _) (isW_quoted _)
      | true => exact cutW_line (itoa_no _) (itoa_isW _)
  have hr : ∀ r0, ReadsS s r0 ↔ r0 = lineW ((if s.has.2.1 then [Lib.itoa s.size] else []) ++ ((if s.has.2.2 then [Lib.itoa s.time] else []) ++ (quotedL s.path :: (if s.has.1 then [quotedL s.to] else [])))) := fun r0 => by
    rw [← hz]
    constructor
    · rintro ⟨r1, r2, r3, r4, h1, h2, h3, h4, h5⟩
      exact ⟨r1, h1, (ht r1).1 ⟨r2, h2, (hp r2).1 ⟨r3, r4, h3, h4, h5⟩⟩⟩
    · rintro ⟨r1, h1, h2⟩
      obtain ⟨r2, h3, h4⟩ := (ht r1).2 h2
      obtain ⟨r3, r4, h5, h6, h7⟩ := (hp r2).2 h4
      exact ⟨r1, r2, r3, r4, h1, h3, h5, h6, h7⟩
  unfold stepWordsL
  have hfirst : ∃ v ws, isW v ∧ ((if s.has.2.1 then [Lib.itoa s.size] else []) ++ ((if s.has.2.2 then [Lib.itoa s.time] else []) ++ (quotedL s.path :: (if s.has.1 then [quotedL s.to] else [])))) = v :: ws := by
    cases s.has.2.1 with
    | true => exact ⟨_, _, itoa_isW _, rfl⟩
    | false =>
      cases s.has.2.2 with
      | true => exact ⟨_, _, itoa_isW _, rfl⟩
      | false => exact ⟨_, _, isW_quoted _, rfl⟩
  obtain ⟨v, ws, hv, he⟩ := hfirst
  rw [he] at hr ⊢
  rw [← cutW_line hk hv]
  constructor
  · rintro ⟨r0, h1, h2⟩
    exact ⟨r0, h1, (hr r0).1 h2⟩
  · rintro ⟨r0, h1, h2⟩
    exact ⟨r0, h1, (hr r0).2 h2⟩
end Wh
namespace Wh
open Go

/-- As plan.CheckPlan sums. -/
def sumI : List Int → Int × Bool → Int × Bool
  | [], s => s
  | z :: r, s => sumI r (IntKind.i64.wrap (s.1 + z), s.2 || decide (IntKind.i64.wrap (s.1 + z) < 0))
/-- As the reference sums. -/
def sumU : List Int → Int × Bool → Int × Bool
  | [], s => s
  | z :: r, s => sumU r (IntKind.u64.wrap (s.1 + IntKind.u64.wrap z), s.2 || decide (9223372036854775807 < IntKind.u64.wrap (s.1 + IntKind.u64.wrap z)))
theorem sumI_true : ∀ (zs : List Int) (a : Int), (sumI zs (a, true)).2 = true
  | [], _ => rfl
  | _ :: r, _ => sumI_true r _
theorem sumU_true : ∀ (zs : List Int) (a : Int), (sumU zs (a, true)).2 = true
  | [], _ => rfl
  | _ :: r, _ => sumU_true r _
/-- Both say the same: too much, or the sum. -/
theorem sums_alike : ∀ (zs : List Int) (a : Int), 0 ≤ a → a ≤ 9223372036854775807 → (∀ z ∈ zs, 0 ≤ z ∧ z ≤ 9223372036854775807) →
    ((sumI zs (a, false)).2 = (sumU zs (a, false)).2 ∧ ((sumI zs (a, false)).2 = false → (sumI zs (a, false)).1 = (sumU zs (a, false)).1 ∧ 0 ≤ (sumI zs (a, false)).1 ∧ (sumI zs (a, false)).1 ≤ 9223372036854775807))
  | [], a, h0, h1, _ => ⟨rfl, fun _ => ⟨rfl, h0, h1⟩⟩
  | z :: r, a, h0, h1, hz => by
    obtain ⟨z0, z1⟩ := hz z (by simp)
    have e1 : IntKind.u64.wrap z = z := IntWalk.u64_in z (by omega)
    have e2 : IntKind.u64.wrap (a + z) = a + z := IntWalk.u64_in _ (by omega)
    unfold sumI sumU
    dsimp only
    rw [e1, e2, Bool.false_or, Bool.false_or]
    by_cases hb : a + z ≤ 9223372036854775807
    · have e3 : IntKind.i64.wrap (a + z) = a + z := IntWalk.i64_in _ (by omega)
      rw [e3, decide_eq_false (by omega), decide_eq_false (by omega)]
      exact sums_alike r (a + z) (by omega) hb (fun x hx => hz x (by simp [hx]))
    · have e3 : IntKind.i64.wrap (a + z) < 0 := by rw [IntKind.wrap_i64]; omega
      rw [decide_eq_true e3, decide_eq_true (by omega), sumI_true, sumU_true]
      exact ⟨rfl, fun h => by cases h⟩
end Wh
namespace Wh
open Go

def refWordsL (n : Int) (p : List UInt8) : List (List UInt8) := [refusedW, Lib.itoa n, quotedL p]
def headWordsL (a b : Int) : List (List UInt8) := [planW, Lib.itoa a, Lib.itoa b]
theorem stepW_isW : ∀ k, 1 ≤ k → k ≤ 10 → isW (stepW.getD k []) := by
  have key : ∀ k, k < 11 → k ≠ 0 → stepW.getD k [] ≠ [] ∧ (∀ b ∈ stepW.getD k [], b ≠ 32) ∧ (stepW.getD k []).head? ≠ some 34 := by decide
  exact fun k h1 h2 => .inl (key k (by omega) (by omega))
theorem stepWordsL_isW {s : StepL} (h : s.fits) : ∀ w ∈ stepWordsL s, isW w := by
  obtain ⟨h1, h2, _⟩ := h
  intro w hw
  unfold stepWordsL at hw
  rcases List.mem_cons.1 hw with rfl | hw
  · exact stepW_isW s.kind h1 h2
  rcases List.mem_append.1 hw with hw | hw
  · split at hw
    · rw [List.mem_singleton.1 hw]; exact itoa_isW _
    · cases hw
  rcases List.mem_append.1 hw with hw | hw
  · split at hw
    · rw [List.mem_singleton.1 hw]; exact itoa_isW _
    · cases hw
  rcases List.mem_cons.1 hw with rfl | hw
  · exact isW_quoted _
  · split at hw
    · rw [List.mem_singleton.1 hw]; exact isW_quoted _
    · cases hw
theorem refWordsL_isW (n : Int) (p : List UInt8) : ∀ w ∈ refWordsL n p, isW w := by
  intro w hw
  simp only [refWordsL, List.mem_cons, List.not_mem_nil, or_false] at hw
  rcases hw with rfl | rfl | rfl
  · exact .inl (by decide)
  · exact itoa_isW _
  · exact isW_quoted _
theorem headWordsL_isW (a b : Int) : ∀ w ∈ headWordsL a b, isW w := by
  intro w hw
  simp only [headWordsL, List.mem_cons, List.not_mem_nil, or_false] at hw
  rcases hw with rfl | rfl | rfl
  · exact .inl (by decide)
  · exact itoa_isW _
  · exact itoa_isW _
theorem step_line_inj {s t : StepL} (hs : s.fits) (ht : t.fits) (h : lineW (stepWordsL s) = lineW (stepWordsL t)) : s = t := stepWords_inj hs ht (lineW_inj (stepWordsL_isW hs) (stepWordsL_isW ht) h)
theorem ref_line_inj {n m : Int} {p q : List UInt8} (h : lineW (refWordsL n p) = lineW (refWordsL m q)) : n = m ∧ p = q := by
  have := lineW_inj (refWordsL_isW n p) (refWordsL_isW m q) h
  unfold refWordsL at this
  injection this with _ this
  injection this with h1 this
  injection this with h2 _
  exact ⟨itoa_inj h1, quotedL_inj h2⟩
theorem head_line_inj {a b c d : Int} (h : lineW (headWordsL a b) = lineW (headWordsL c d)) : a = c ∧ b = d := by
  have := lineW_inj (headWordsL_isW a b) (headWordsL_isW c d) h
  unfold headWordsL at this
  injection this with _ this
  injection this with h1 this
  injection this with h2 _
  exact ⟨itoa_inj h1, itoa_inj h2⟩
/-- No line tells a step and a refusal. -/
theorem step_ref_ne {s : StepL} {n : Int} {p : List UInt8} (hs : s.fits) : lineW (stepWordsL s) ≠ lineW (refWordsL n p) := fun h => by
  have h1 := lineW_inj (stepWordsL_isW hs) (refWordsL_isW n p) h
  unfold stepWordsL refWordsL at h1
  injection h1 with h1 _
  have key : ∀ k, k < 11 → stepW.getD k [] ≠ refusedW := by decide
  obtain ⟨_, h2, _⟩ := hs
  exact key s.kind (by omega) h1
end Wh
