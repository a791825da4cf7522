/-
  Encodings can be undone, in plain Lean.
-/
import Derived.Test.YtbcadgooelcnhaaDoorPlainPath
namespace Wh
open Go

/-- A hexadecimal digit's number (a small letter serves too). -/
def unhex (c : UInt8) : Nat := if c.toNat ≤ 57 then c.toNat - 48 else if c.toNat ≤ 70 then c.toNat - 55 else c.toNat - 87

/-- A small letter, made great. -/
def great (c : UInt8) : UInt8 := if 97 ≤ c.toNat ∧ c.toNat ≤ 122 then c - 32 else c

/-- What has been encoded. -/
def dec (cs : Bool) : List UInt8 → List UInt8
  | [] => []
  | [c] => [c]
  | [c, d] => if cs && c == 94 then [great d] else [c, d]
  | c :: d :: e :: r => if c == 37 then UInt8.ofNat (unhex d * 16 + unhex e) :: dec cs r else if cs && c == 94 then great d :: dec cs (e :: r) else c :: dec cs (d :: e :: r)

theorem dec_pct (cs : Bool) (d e : UInt8) (r : List UInt8) : dec cs (37 :: d :: e :: r) = UInt8.ofNat (unhex d * 16 + unhex e) :: dec cs r := by
  rw [dec]
  simp

theorem dec_mark {cs : Bool} (h : cs = true) (d : UInt8) : ∀ r : List UInt8, dec cs (94 :: d :: r) = great d :: dec cs r
  | [] => by simp [dec, h]
  | e :: r => by
    rw [dec]
    simp [h]

theorem dec_one {cs : Bool} {c : UInt8} (h1 : (c == 37) = false) (h2 : (cs && c == 94) = false) : ∀ r : List UInt8, dec cs (c :: r) = c :: dec cs r
  | [] => by simp [dec]
  | [d] => by simp [dec, h2]
  | d :: e :: r => by
    rw [dec, h1, h2]
    simp

theorem hex_back (c : UInt8) : UInt8.ofNat (unhex (hexd (c.toNat / 16)) * 16 + unhex (hexd (c.toNat % 16))) = c ∧
    UInt8.ofNat (unhex (small (hexd (c.toNat / 16))) * 16 + unhex (small (hexd (c.toNat % 16)))) = c ∧ (((c == 94) || (decide (65 ≤ c.toNat) && decide (c.toNat ≤ 90))) = true → great (small c) = c ∧ small (small c) = small c) := by
  have h : ∀ n : Fin 256, UInt8.ofNat (unhex (hexd ((UInt8.ofNat n.1).toNat / 16)) * 16 + unhex (hexd ((UInt8.ofNat n.1).toNat % 16))) = UInt8.ofNat n.1 ∧
    UInt8.ofNat (unhex (small (hexd ((UInt8.ofNat n.1).toNat / 16))) * 16 + unhex (small (hexd ((UInt8.ofNat n.1).toNat % 16)))) = UInt8.ofNat n.1 ∧
    (((UInt8.ofNat n.1 == 94) || (decide (65 ≤ (UInt8.ofNat n.1).toNat) && decide ((UInt8.ofNat n.1).toNat ≤ 90))) = true → great (small (UInt8.ofNat n.1)) = UInt8.ofNat n.1 ∧ small (small (UInt8.ofNat n.1)) = small (UInt8.ofNat n.1)) := by decide +kernel
  have := h ⟨c.toNat, c.toNat_lt⟩
  simpa using this

/-- A way to write bytes that the decoder undoes. -/
def Undone (x : Enc) (f : UInt8 → UInt8) : Prop := f 47 = 47 ∧ ∀ named first last c rest, dec x.cs ((encB x named first last c).map f ++ rest) = c :: dec x.cs rest

theorem undone_id (x : Enc) : Undone x id := by
  refine ⟨rfl, fun named first last c rest => ?_⟩
  obtain ⟨h1, _, h3⟩ := hex_back c
  unfold encB
  split
  · simp only [List.map_id, List.cons_append, List.nil_append]
    rw [dec_pct, h1]
  · rename_i he
    have he37 : (c == 37) = false := by
      cases hc : (c == 37)
      · rfl
      · exact absurd (by simp [escB, hc]) he
    split
    · rename_i hm
      simp only [markB, Bool.and_eq_true] at hm
      simp only [List.map_id, List.cons_append, List.nil_append]
      rw [dec_mark hm.1, (h3 hm.2).1]
    · rename_i hm
      simp only [List.map_id, List.cons_append, List.nil_append]
      refine dec_one he37 ?_ rest
      cases hc : x.cs
      · rfl
      · cases hd : (c == 94)
        · rfl
        · exact absurd (by simp [markB, hc, hd]) hm

theorem undone_small (x : Enc) (hcs : x.cs = true) : Undone x small := by
  refine ⟨by decide, fun named first last c rest => ?_⟩
  obtain ⟨_, h2, h3⟩ := hex_back c
  unfold encB
  split
  · simp only [List.map_cons, List.map_nil, List.cons_append, List.nil_append]
    rw [show small 37 = 37 by decide, dec_pct, h2]
  · rename_i he
    have he37 : (c == 37) = false := by
      cases hc : (c == 37)
      · rfl
      · exact absurd (by simp [escB, hc]) he
    split
    · rename_i hm
      simp only [markB, Bool.and_eq_true] at hm
      simp only [List.map_cons, List.map_nil, List.cons_append, List.nil_append]
      rw [show small 94 = 94 by decide, (h3 hm.2).2, dec_mark hcs, (h3 hm.2).1]
    · rename_i hm
      simp only [List.map_cons, List.map_nil, List.cons_append, List.nil_append]
      have hm2 : ((c == 94) || (decide (65 ≤ c.toNat) && decide (c.toNat ≤ 90))) = false := by
        cases hq : ((c == 94) || (decide (65 ≤ c.toNat) && decide (c.toNat ≤ 90)))
        · rfl
        · exact absurd (by simp [markB, hcs, hq]) hm
      simp only [Bool.or_eq_false_iff, Bool.and_eq_false_iff, decide_eq_false_iff_not] at hm2
      have hs : small c = c := by
        unfold small
        rw [if_neg (by omega)]
      rw [hs]
      refine dec_one he37 ?_ rest
      rw [hm2.1, Bool.and_false]

theorem dec_from {x : Enc} {f : UInt8 → UInt8} (h : Undone x f) (named : Bool) (n : Nat) (rest : List UInt8) : ∀ (i : Nat) (l : List UInt8), dec x.cs ((encFrom x named n i l).map f ++ rest) = l ++ dec x.cs rest
  | _, [] => rfl
  | i, c :: l => by
    rw [encFrom, List.map_append, List.append_assoc, h.2, dec_from h named n rest (i + 1) l]
    rfl

theorem dec_name {x : Enc} {f : UInt8 → UInt8} (h : Undone x f) (l rest : List UInt8) : dec x.cs ((encName x l).map f ++ rest) = l ++ dec x.cs rest := dec_from h _ _ rest 0 l

theorem dec_slash (cs : Bool) (r : List UInt8) : dec cs (47 :: r) = 47 :: dec cs r := dec_one (by decide) (by rw [show ((47 : UInt8) == 94) = false by decide, Bool.and_false]) r

theorem dec_tail {x : Enc} {f : UInt8 → UInt8} (h : Undone x f) : ∀ ls : List (List UInt8), dec x.cs ((Lib.joinTail [47] (ls.map (encName x))).map f) = Lib.joinTail [47] ls
  | [] => rfl
  | l :: ls => by
    have e : ∀ (a : List UInt8) r, Lib.joinTail [47] (a :: r) = 47 :: (a ++ Lib.joinTail [47] r) := fun a r => by simp [Lib.joinTail]
    rw [List.map_cons, e, e, List.map_cons, h.1, dec_slash, List.map_append, dec_name h, dec_tail h ls]

theorem dec_join {x : Enc} {f : UInt8 → UInt8} (h : Undone x f) : ∀ ls : List (List UInt8), dec x.cs ((Lib.join (ls.map (encName x)) [47]).map f) = Lib.join ls [47]
  | [] => rfl
  | l :: ls => by
    rw [List.map_cons, Lib.join_cons, Lib.join_cons, List.map_append, dec_name h, dec_tail h ls]

theorem dec_path {x : Enc} {f : UInt8 → UInt8} (h : Undone x f) (s : ByteArray) : dec x.cs ((encJoin x s).map f) = s.data.toList := by
  have e : (encsOf x s).map (·.data.toList) = ((namesOf s).map (·.data.toList)).map (encName x) := by
    simp [encsOf, Function.comp_def]
  unfold encJoin
  rw [e, dec_join h, namesOf_join]

theorem data_inj {a b : ByteArray} (h : a.data.toList = b.data.toList) : a = b := by
  obtain ⟨⟨a⟩⟩ := a
  obtain ⟨⟨b⟩⟩ := b
  simp at h
  rw [h]

/-- Different paths have different encodings. -/
theorem enc_inj {x : Enc} {a b : ByteArray} (ha : encErrP x a = 0) (hb : encErrP x b = 0) (h : encText x a = encText x b) : a = b := by
  have h1 : encJoin x a = encJoin x b := by
    simp only [encText, ha, hb, if_pos] at h
    have := congrArg (fun s : ByteArray => s.data.toList) h
    simpa using this
  have h2 := dec_path (undone_id x) a
  rw [h1, dec_path (undone_id x) b] at h2
  exact data_inj h2.symm

theorem enc_inj_small {x : Enc} {a b : ByteArray} (hcs : x.cs = true) (ha : encErrP x a = 0) (hb : encErrP x b = 0) (h : lower (encText x a).data.toList = lower (encText x b).data.toList) : a = b := by
  have h1 : (encJoin x a).map small = (encJoin x b).map small := by
    simp only [encText, ha, hb, if_pos, lower] at h
    simpa using h
  have h2 := dec_path (undone_small x hcs) a
  rw [h1, dec_path (undone_small x hcs) b] at h2
  exact data_inj h2.symm
end Wh
