/-
  The texts PlainCode, PlainPath, PlainInj, PlainDec, PlainDec2, PlainPermit, in one.
-/
import Derived.Test.YtikegddlbelfaaaGreatDoorPlainEnc
import Derived.Test.YtikegddlbelfaaaGreatDoorPlain2
import Derived.Test.YtikegddlbelfaaaGreatDoorPlainSearch
namespace Wh
open Go

/-- A hexadecimal digit. -/
def hexd (n : Nat) : UInt8 := if n < 10 then UInt8.ofNat (48 + n) else UInt8.ofNat (55 + n)

/-- Must a byte be written by its number? -/
def escB (x : Enc) (named first last : Bool) (c : UInt8) : Bool :=
  c == 37 || x.forbid.data.toList.contains c || (first && (x.head.data.toList.contains c || named)) || (last && x.tail.data.toList.contains c)

/-- Must a byte be marked as a capital, or as the mark itself? -/
def markB (x : Enc) (c : UInt8) : Bool := x.cs && (c == 94 || (decide (65 ≤ c.toNat) && decide (c.toNat ≤ 90)))

/-- A byte, encoded. -/
def encB (x : Enc) (named first last : Bool) (c : UInt8) : List UInt8 :=
  if escB x named first last c then [37, hexd (c.toNat / 16), hexd (c.toNat % 16)] else if markB x c then [94, small c] else [c]

/-- The bytes from place i on of a name of n bytes, encoded. -/
def encFrom (x : Enc) (named : Bool) (n : Nat) : Nat → List UInt8 → List UInt8
  | _, [] => []
  | i, c :: l => encB x named (i == 0) (i + 1 == n) c ++ encFrom x named n (i + 1) l

/-- A name, encoded. -/
def encName (x : Enc) (l : List UInt8) : List UInt8 := encFrom x (x.names.any (fun y => y.data.toList == lower l)) l.length 0 l

theorem encB_length (x : Enc) (named first last : Bool) (c : UInt8) : 1 ≤ (encB x named first last c).length ∧ (encB x named first last c).length ≤ 3 := by
  unfold encB
  split
  · simp
  · split <;> simp

theorem encFrom_length (x : Enc) (named : Bool) (n : Nat) : ∀ (i : Nat) (l : List UInt8), l.length ≤ (encFrom x named n i l).length ∧ (encFrom x named n i l).length ≤ 3 * l.length
  | _, [] => by simp [encFrom]
  | i, c :: l => by
    have h1 := encB_length x named (i == 0) (i + 1 == n) c
    have h2 := encFrom_length x named n (i + 1) l
    simp only [encFrom, List.length_append, List.length_cons]
    omega

/-- What is written of a name when k bytes are done. -/
def encTo (x : Enc) (named : Bool) (l : List UInt8) (k : Nat) : List UInt8 := encFrom x named l.length 0 (l.take k)

theorem encFrom_snoc (x : Enc) (named : Bool) (n : Nat) (c : UInt8) : ∀ (i : Nat) (l : List UInt8), encFrom x named n i (l ++ [c]) = encFrom x named n i l ++ encB x named (i + l.length == 0) (i + l.length + 1 == n) c
  | i, [] => by simp [encFrom]
  | i, d :: l => by
    have ih := encFrom_snoc x named n c (i + 1) l
    have e : i + 1 + l.length = i + (l.length + 1) := by omega
    simp only [List.cons_append, encFrom, ih, List.append_assoc, List.length_cons, e]

theorem encTo_step {x : Enc} {named : Bool} {l : List UInt8} {k : Nat} {c : UInt8} (h : l[k]? = some c) : encTo x named l (k + 1) = encTo x named l k ++ encB x named (k == 0) (k + 1 == l.length) c := by
  have hk := (List.getElem?_eq_some_iff.1 h).1
  unfold encTo
  rw [List.take_add_one, h, Option.toList_some, encFrom_snoc]
  have e : (l.take k).length = k := by rw [List.length_take]; omega
  rw [e, Nat.zero_add]

theorem encTo_end (x : Enc) (l : List UInt8) {k : Nat} (h : l.length ≤ k) : encTo x (x.names.any (fun y => y.data.toList == lower l)) l k = encName x l := by
  unfold encTo encName
  rw [List.take_of_length_le h]

theorem encTo_length (x : Enc) (named : Bool) (l : List UInt8) (k : Nat) : (encTo x named l k).length ≤ 3 * l.length := by
  have := (encFrom_length x named l.length 0 (l.take k)).2
  unfold encTo
  have e : (l.take k).length ≤ l.length := by rw [List.length_take]; omega
  omega

theorem hexd_at (n : Nat) (h : n < 16) : (⟨#[48, 49, 50, 51, 52, 53, 54, 55, 56, 57, 65, 66, 67, 68, 69, 70]⟩ : ByteArray).data.toList[n]? = some (hexd n) := by
  have : ∀ n : Fin 16, (⟨#[48, 49, 50, 51, 52, 53, 54, 55, 56, 57, 65, 66, 67, 68, 69, 70]⟩ : ByteArray).data.toList[n.1]? = some (hexd n.1) := by decide
  exact this ⟨n, h⟩
end Wh
namespace Wh
open Go

/-- The names of a path, encoded. -/
def encsOf (x : Enc) (s : ByteArray) : List ByteArray := (namesOf s).map (fun n => ⟨(encName x n.data.toList).toArray⟩)

/-- Is an encoded name too long? -/
def longB (x : Enc) (e : ByteArray) : Bool := decide (x.max < (e.size : Int))

/-- The encoded path. -/
def encJoin (x : Enc) (s : ByteArray) : List UInt8 := Lib.join ((encsOf x s).map (·.data.toList)) [47]

def encErrP (x : Enc) (s : ByteArray) : Int := if (encsOf x s).any (longB x) then 2 else if 1024 < (encJoin x s).length then 2 else 0
def encText (x : Enc) (s : ByteArray) : ByteArray := if encErrP x s = 0 then ⟨(encJoin x s).toArray⟩ else ⟨#[]⟩

theorem encP_long {x : Enc} {s e : ByteArray} (he : e ∈ encsOf x s) (h : longB x e = true) : encErrP x s = 2 ∧ encText x s = ⟨#[]⟩ := by
  have h1 : (encsOf x s).any (longB x) = true := List.any_eq_true.2 ⟨e, he, h⟩
  have h2 : encErrP x s = 2 := by simp [encErrP, h1]
  exact ⟨h2, by simp [encText, h2]⟩

theorem encP_big {x : Enc} {s : ByteArray} (h : 1024 < (encJoin x s).length) : encErrP x s = 2 ∧ encText x s = ⟨#[]⟩ := by
  have h2 : encErrP x s = 2 := by
    unfold encErrP
    rw [if_pos h]
    split <;> rfl
  exact ⟨h2, by simp [encText, h2]⟩

theorem encP_good {x : Enc} {s : ByteArray} (h0 : ∀ e ∈ encsOf x s, longB x e = false) (h : ¬ 1024 < (encJoin x s).length) : encErrP x s = 0 ∧ encText x s = ⟨(encJoin x s).toArray⟩ := by
  have h1 : (encsOf x s).any (longB x) = false := by
    rw [List.any_eq_false]
    intro e he
    simp [h0 e he]
  have h2 : encErrP x s = 0 := by simp [encErrP, h1, h]
  exact ⟨h2, by simp [encText, h2]⟩

theorem encsOf_length (x : Enc) (s : ByteArray) : (encsOf x s).length = (namesOf s).length := by simp [encsOf]

theorem encsOf_at {x : Enc} {s n : ByteArray} {k : Nat} (h : (namesOf s)[k]? = some n) : (encsOf x s)[k]? = some ⟨(encName x n.data.toList).toArray⟩ := by
  simp [encsOf, h]

theorem encJoin_len {x : Enc} {s : ByteArray} (h : ∀ e ∈ encsOf x s, e.size ≤ 255) : (encJoin x s).length ≤ 256 * (encsOf x s).length := by
  refine Nat.le_trans (join_length 47 _) ?_
  generalize encsOf x s = l at *
  induction l with
  | nil => simp [total]
  | cons a l ih =>
    have h1 := h a (by simp)
    have h2 := ih (fun e he => h e (by simp [he]))
    simp only [total, List.map_cons, List.sum_cons, List.length_cons] at h2 ⊢
    omega

theorem name_size {l : List UInt8} (h : isName l = true) : l.length ≤ 255 := by
  rcases Nat.lt_or_ge 255 l.length with h1 | h1
  · rw [isName_long h1] at h; cases h
  · exact h1

theorem encErr_zero {x : Enc} (h : encErr x = 0) : [x.forbid, x.head, x.tail].all (fun s => formOk x.cs s.data.toList) = true ∧ namesErrAt x.names 0 = 0 ∧ 3 ≤ x.max ∧ x.max ≤ 255 := by
  by_cases h1 : [x.forbid, x.head, x.tail].all (fun s => formOk x.cs s.data.toList) = true
  · by_cases h2 : namesErrAt x.names 0 = 0
    · by_cases h3 : x.max < 3 ∨ 255 < x.max
      · rw [encErr_max h1 h2 h3] at h
        omega
      · exact ⟨h1, h2, by omega, by omega⟩
    · rw [encErr_names h1 h2] at h
      exact absurd h h2
  · rw [encErr_form (by simpa using h1)] at h
    omega
end Wh
namespace Wh
open Go

/-- A hexadecimal digit's number (a small letter serves too). -/
def unhex (c : UInt8) : Nat := if c.toNat ≤ 57 then c.toNat - 48 else if c.toNat ≤ 70 then c.toNat - 55 else c.toNat - 87

/-- A small letter, made great. -/
def great (c : UInt8) : UInt8 := if 97 ≤ c.toNat ∧ c.toNat ≤ 122 then c - 32 else c

/-- What has been encoded. -/
def dec (cs : Bool) : List UInt8 → List UInt8
  | [] => []
  | [c] => [c]
  | [c, d] => if cs && c == 94 then [great d] else [c, d]
  | c :: d :: e :: r => if c == 37 then UInt8.ofNat (unhex d * 16 + unhex e) :: dec cs r else if cs && c == 94 then great d :: dec cs (e :: r) else c :: dec cs (d :: e :: r)

theorem dec_pct (cs : Bool) (d e : UInt8) (r : List UInt8) : dec cs (37 :: d :: e :: r) = UInt8.ofNat (unhex d * 16 + unhex e) :: dec cs r := by
  rw [dec]
  simp

theorem dec_mark {cs : Bool} (h : cs = true) (d : UInt8) : ∀ r : List UInt8, dec cs (94 :: d :: r) = great d :: dec cs r
  | [] => by simp [dec, h]
  | e :: r => by
    rw [dec]
    simp [h]

theorem dec_one {cs : Bool} {c : UInt8} (h1 : (c == 37) = false) (h2 : (cs && c == 94) = false) : ∀ r : List UInt8, dec cs (c :: r) = c :: dec cs r
  | [] => by simp [dec]
  | [d] => by simp [dec, h2]
  | d :: e :: r => by
    rw [dec, h1, h2]
    simp

theorem hex_back (c : UInt8) : UInt8.ofNat (unhex (hexd (c.toNat / 16)) * 16 + unhex (hexd (c.toNat % 16))) = c ∧
    UInt8.ofNat (unhex (small (hexd (c.toNat / 16))) * 16 + unhex (small (hexd (c.toNat % 16)))) = c ∧ (((c == 94) || (decide (65 ≤ c.toNat) && decide (c.toNat ≤ 90))) = true → great (small c) = c ∧ small (small c) = small c) := by
  have h : ∀ n : Fin 256, UInt8.ofNat (unhex (hexd ((UInt8.ofNat n.1).toNat / 16)) * 16 + unhex (hexd ((UInt8.ofNat n.1).toNat % 16))) = UInt8.ofNat n.1 ∧
    UInt8.ofNat (unhex (small (hexd ((UInt8.ofNat n.1).toNat / 16))) * 16 + unhex (small (hexd ((UInt8.ofNat n.1).toNat % 16)))) = UInt8.ofNat n.1 ∧
    (((UInt8.ofNat n.1 == 94) || (decide (65 ≤ (UInt8.ofNat n.1).toNat) && decide ((UInt8.ofNat n.1).toNat ≤ 90))) = true → great (small (UInt8.ofNat n.1)) = UInt8.ofNat n.1 ∧ small (small (UInt8.ofNat n.1)) = small (UInt8.ofNat n.1)) := by decide +kernel
  have := h ⟨c.toNat, c.toNat_lt⟩
  simpa using this

/-- A way to write bytes that the decoder undoes. -/
def Undone (x : Enc) (f : UInt8 → UInt8) : Prop := f 47 = 47 ∧ ∀ named first last c rest, dec x.cs ((encB x named first last c).map f ++ rest) = c :: dec x.cs rest

theorem undone_id (x : Enc) : Undone x id := by
  refine ⟨rfl, fun named first last c rest => ?_⟩
  obtain ⟨h1, _, h3⟩ := hex_back c
  unfold encB
  split
  · simp only [List.map_id, List.cons_append, List.nil_append]
    rw [dec_pct, h1]
  · rename_i he
    have he37 : (c == 37) = false := by
      cases hc : (c == 37)
      · rfl
      · exact absurd (by simp [escB, hc]) he
    split
    · rename_i hm
      simp only [markB, Bool.and_eq_true] at hm
      simp only [List.map_id, List.cons_append, List.nil_append]
      rw [dec_mark hm.1, (h3 hm.2).1]
    · rename_i hm
      simp only [List.map_id, List.cons_append, List.nil_append]
      refine dec_one he37 ?_ rest
      cases hc : x.cs
      · rfl
      · cases hd : (c == 94)
        · rfl
        · exact absurd (by simp [markB, hc, hd]) hm

theorem undone_small (x : Enc) (hcs : x.cs = true) : Undone x small := by
  refine ⟨by decide, fun named first last c rest => ?_⟩
  obtain ⟨_, h2, h3⟩ := hex_back c
  unfold encB
  split
  · simp only [List.map_cons, List.map_nil, List.cons_append, List.nil_append]
    rw [show small 37 = 37 by decide, dec_pct, h2]
  · rename_i he
    have he37 : (c == 37) = false := by
      cases hc : (c == 37)
      · rfl
      · exact absurd (by simp [escB, hc]) he
    split
    · rename_i hm
      simp only [markB, Bool.and_eq_true] at hm
      simp only [List.map_cons, List.map_nil, List.cons_append, List.nil_append]
      rw [show small 94 = 94 by decide, (h3 hm.2).2, dec_mark hcs, (h3 hm.2).1]
    · rename_i hm
      simp only [List.map_cons, List.map_nil, List.cons_append, List.nil_append]
      have hm2 : ((c == 94) || (decide (65 ≤ c.toNat) && decide (c.toNat ≤ 90))) = false := by
        cases hq : ((c == 94) || (decide (65 ≤ c.toNat) && decide (c.toNat ≤ 90)))
        · rfl
        · exact absurd (by simp [markB, hcs, hq]) hm
      simp only [Bool.or_eq_false_iff, Bool.and_eq_false_iff, decide_eq_false_iff_not] at hm2
      have hs : small c = c := by
        unfold small
        rw [if_neg (by omega)]
      rw [hs]
      refine dec_one he37 ?_ rest
      rw [hm2.1, Bool.and_false]

theorem dec_from {x : Enc} {f : UInt8 → UInt8} (h : Undone x f) (named : Bool) (n : Nat) (rest : List UInt8) : ∀ (i : Nat) (l : List UInt8), dec x.cs ((encFrom x named n i l).map f ++ rest) = l ++ dec x.cs rest
  | _, [] => rfl
  | i, c :: l => by
    rw [encFrom, List.map_append, List.append_assoc, h.2, dec_from h named n rest (i + 1) l]
    rfl

theorem dec_name {x : Enc} {f : UInt8 → UInt8} (h : Undone x f) (l rest : List UInt8) : dec x.cs ((encName x l).map f ++ rest) = l ++ dec x.cs rest := dec_from h _ _ rest 0 l

theorem dec_slash (cs : Bool) (r : List UInt8) : dec cs (47 :: r) = 47 :: dec cs r := dec_one (by decide) (by rw [show ((47 : UInt8) == 94) = false by decide, Bool.and_false]) r

theorem dec_tail {x : Enc} {f : UInt8 → UInt8} (h : Undone x f) : ∀ ls : List (List UInt8), dec x.cs ((Lib.joinTail [47] (ls.map (encName x))).map f) = Lib.joinTail [47] ls
  | [] => rfl
  | l :: ls => by
    have e : ∀ (a : List UInt8) r, Lib.joinTail [47] (a :: r) = 47 :: (a ++ Lib.joinTail [47] r) := fun a r => by simp [Lib.joinTail]
    rw [List.map_cons, e, e, List.map_cons, h.1, dec_slash, List.map_append, dec_name h, dec_tail h ls]

theorem dec_join {x : Enc} {f : UInt8 → UInt8} (h : Undone x f) : ∀ ls : List (List UInt8), dec x.cs ((Lib.join (ls.map (encName x)) [47]).map f) = Lib.join ls [47]
  | [] => rfl
  | l :: ls => by
    rw [List.map_cons, Lib.join_cons, Lib.join_cons, List.map_append, dec_name h, dec_tail h ls]

theorem dec_path {x : Enc} {f : UInt8 → UInt8} (h : Undone x f) (s : ByteArray) : dec x.cs ((encJoin x s).map f) = s.data.toList := by
  have e : (encsOf x s).map (·.data.toList) = ((namesOf s).map (·.data.toList)).map (encName x) := by
    simp [encsOf, Function.comp_def]
  unfold encJoin
  rw [e, dec_join h, namesOf_join]

theorem data_inj {a b : ByteArray} (h : a.data.toList = b.data.toList) : a = b := by
  obtain ⟨⟨a⟩⟩ := a
  obtain ⟨⟨b⟩⟩ := b
  simp at h
  rw [h]

/-- Different paths have different encodings. -/
theorem enc_inj {x : Enc} {a b : ByteArray} (ha : encErrP x a = 0) (hb : encErrP x b = 0) (h : encText x a = encText x b) : a = b := by
  have h1 : encJoin x a = encJoin x b := by
    simp only [encText, ha, hb, if_pos] at h
    have := congrArg (fun s : ByteArray => s.data.toList) h
    simpa using this
  have h2 := dec_path (undone_id x) a
  rw [h1, dec_path (undone_id x) b] at h2
  exact data_inj h2.symm

theorem enc_inj_small {x : Enc} {a b : ByteArray} (hcs : x.cs = true) (ha : encErrP x a = 0) (hb : encErrP x b = 0) (h : lower (encText x a).data.toList = lower (encText x b).data.toList) : a = b := by
  have h1 : (encJoin x a).map small = (encJoin x b).map small := by
    simp only [encText, ha, hb, if_pos, lower] at h
    simpa using h
  have h2 := dec_path (undone_small x hcs) a
  rw [h1, dec_path (undone_small x hcs) b] at h2
  exact data_inj h2.symm
end Wh
namespace Wh
open Go

/-- The digits that encodings use. -/
def hexD : List UInt8 := [48, 49, 50, 51, 52, 53, 54, 55, 56, 57, 65, 66, 67, 68, 69, 70]

/-- A digit's number; -1: none. -/
def hx (c : UInt8) : Int := Lib.indexByte hexD c

/-- The byte of two digits. -/
def hx2 (d e : UInt8) : UInt8 := UInt8.ofNat ((hx d).toNat * 16 + (hx e).toNat)

/-- What has been encoded, if it can be read. -/
def decS (cs : Bool) : List UInt8 → Option (List UInt8)
  | [] => some []
  | c :: r =>
    if c == 37 then
      match r with
      | d :: e :: r' => if hx d < 0 ∨ hx e < 0 then none else (decS cs r').map (hx2 d e :: ·)
      | _ => none
    else if cs && c == 94 then
      match r with
      | d :: r' => (decS cs r').map (great d :: ·)
      | [] => none
    else (decS cs r).map (c :: ·)

theorem decS_nil (cs : Bool) : decS cs [] = some [] := by rw [decS]

theorem decS_pct (cs : Bool) (d e : UInt8) (r : List UInt8) : decS cs (37 :: d :: e :: r) = if hx d < 0 ∨ hx e < 0 then none else (decS cs r).map (hx2 d e :: ·) := by
  rw [decS]
  simp

theorem decS_short (cs : Bool) {r : List UInt8} (h : r.length < 2) : decS cs (37 :: r) = none := by
  match r, h with
  | [], _ => rw [decS]; simp
  | [d], _ => rw [decS.eq_def]; simp

theorem decS_mark {cs : Bool} (h : cs = true) (d : UInt8) (r : List UInt8) : decS cs (94 :: d :: r) = (decS cs r).map (great d :: ·) := by
  rw [decS.eq_def]
  simp [h]

theorem decS_lone {cs : Bool} (h : cs = true) : decS cs [94] = none := by
  rw [decS.eq_def]
  simp [h]

theorem decS_one {cs : Bool} {c : UInt8} (h1 : (c == 37) = false) (h2 : (cs && c == 94) = false) (r : List UInt8) : decS cs (c :: r) = (decS cs r).map (c :: ·) := by
  rw [decS.eq_def]
  simp only [h1, h2]
  simp

theorem hx_hexd (n : Nat) (h : n < 16) : hx (hexd n) = n := by
  have : ∀ n : Fin 16, hx (hexd n.1) = n.1 := by decide
  exact this ⟨n, h⟩

theorem hx_bound (c : UInt8) : -1 ≤ hx c ∧ hx c < 16 := by
  have h : ∀ n : Fin 256, -1 ≤ hx (UInt8.ofNat n.1) ∧ hx (UInt8.ofNat n.1) < 16 := by decide +kernel
  have := h ⟨c.toNat, c.toNat_lt⟩
  simpa using this

theorem hx2_hexd (c : UInt8) : hx2 (hexd (c.toNat / 16)) (hexd (c.toNat % 16)) = c := by
  have h := c.toNat_lt
  rw [hx2, hx_hexd _ (by omega), hx_hexd _ (by omega)]
  have e2 : ((c.toNat / 16 : Nat) : Int).toNat * 16 + ((c.toNat % 16 : Nat) : Int).toNat = c.toNat := by omega
  rw [e2]
  simp

/-- What is encoded can be read. -/
theorem decS_undo (x : Enc) (named first last : Bool) (c : UInt8) (rest : List UInt8) : decS x.cs (encB x named first last c ++ rest) = (decS x.cs rest).map (c :: ·) := by
  have h := c.toNat_lt
  obtain ⟨_, _, h3⟩ := hex_back c
  unfold encB
  split
  · simp only [List.cons_append, List.nil_append]
    rw [decS_pct, hx_hexd _ (by omega), hx_hexd _ (by omega), if_neg (by omega), hx2_hexd]
  · rename_i he
    have he37 : (c == 37) = false := by
      cases hc : (c == 37)
      · rfl
      · exact absurd (by simp [escB, hc]) he
    split
    · rename_i hm
      simp only [markB, Bool.and_eq_true] at hm
      simp only [List.cons_append, List.nil_append]
      rw [decS_mark hm.1, (h3 hm.2).1]
    · rename_i hm
      simp only [List.cons_append, List.nil_append]
      refine decS_one he37 ?_ rest
      cases hc : x.cs
      · rfl
      · cases hd : (c == 94)
        · rfl
        · exact absurd (by simp [markB, hc, hd]) hm

theorem map_map_app {o : Option (List UInt8)} (a : UInt8) (l : List UInt8) : (o.map (l ++ ·)).map (a :: ·) = o.map ((a :: l) ++ ·) := by
  cases o <;> simp

theorem decS_from (x : Enc) (named : Bool) (n : Nat) (rest : List UInt8) : ∀ (i : Nat) (l : List UInt8), decS x.cs (encFrom x named n i l ++ rest) = (decS x.cs rest).map (l ++ ·)
  | _, [] => by simp [encFrom]
  | i, c :: l => by
    rw [encFrom, List.append_assoc, decS_undo, decS_from x named n rest (i + 1) l, map_map_app]

theorem decS_nameR (x : Enc) (l rest : List UInt8) : decS x.cs (encName x l ++ rest) = (decS x.cs rest).map (l ++ ·) := decS_from x _ _ rest 0 l
theorem decS_name (x : Enc) (l : List UInt8) : decS x.cs (encName x l) = some l := by
  have := decS_nameR x l []
  rw [List.append_nil, decS_nil] at this
  simpa using this

theorem decS_slash (cs : Bool) (r : List UInt8) : decS cs (47 :: r) = (decS cs r).map (47 :: ·) := decS_one (by decide) (by rw [show ((47 : UInt8) == 94) = false by decide, Bool.and_false]) r

theorem decS_tail (x : Enc) : ∀ ls : List (List UInt8), decS x.cs (Lib.joinTail [47] (ls.map (encName x))) = some (Lib.joinTail [47] ls)
  | [] => by
    have : Lib.joinTail [47] ([] : List (List UInt8)) = [] := rfl
    rw [List.map_nil, this, decS_nil]
  | l :: ls => by
    have e : ∀ (a : List UInt8) r, Lib.joinTail [47] (a :: r) = 47 :: (a ++ Lib.joinTail [47] r) := fun a r => by simp [Lib.joinTail]
    rw [List.map_cons, e, e, decS_slash, decS_nameR, decS_tail x ls]
    rfl

theorem decS_join (x : Enc) : ∀ ls : List (List UInt8), decS x.cs (Lib.join (ls.map (encName x)) [47]) = some (Lib.join ls [47])
  | [] => by
    have : Lib.join ([] : List (List UInt8)) [47] = [] := rfl
    rw [List.map_nil, this, decS_nil]
  | l :: ls => by
    rw [List.map_cons, Lib.join_cons, Lib.join_cons, decS_nameR, decS_tail x ls]
    rfl

theorem encs_data (x : Enc) (s : ByteArray) : (encsOf x s).map (·.data.toList) = ((namesOf s).map (·.data.toList)).map (encName x) := by
  simp [encsOf, Function.comp_def]

theorem decS_path (x : Enc) (s : ByteArray) : decS x.cs (encJoin x s) = some s.data.toList := by
  unfold encJoin
  rw [encs_data, decS_join, namesOf_join]

/-- Is a text the encoding of a path? -/
def goodB (x : Enc) (s q : ByteArray) : Bool := isPath q.data.toList && decide (encErrP x q = 0) && decide (encText x q = s)

theorem goodB_iff {x : Enc} {s q : ByteArray} : goodB x s q = true ↔ isPath q.data.toList = true ∧ encErrP x q = 0 ∧ encText x q = s := by
  simp [goodB, and_assoc]

/-- What Decode makes of a path: the text, and the error. -/
def decPick (x : Enc) (s : ByteArray) : Option ByteArray := match decS x.cs s.data.toList with
  | none => none
  | some o => if goodB x s ⟨o.toArray⟩ then some ⟨o.toArray⟩ else none
def decErrP (x : Enc) (s : ByteArray) : Int := if (decPick x s).isSome then 0 else 6
def decText (x : Enc) (s : ByteArray) : ByteArray := (decPick x s).getD ⟨#[]⟩

theorem encText_join {x : Enc} {q : ByteArray} (h : encErrP x q = 0) : (encText x q).data.toList = encJoin x q := by
  simp [encText, h]

/-- The decoded text, where there is one. -/
theorem pick_good {x : Enc} {s q : ByteArray} (h : goodB x s q = true) : decPick x s = some q := by
  obtain ⟨h1, h2, h3⟩ := goodB_iff.1 h
  have h4 : decS x.cs s.data.toList = some q.data.toList := by
    rw [← h3, encText_join h2, decS_path]
  unfold decPick
  rw [h4]
  simp only
  rw [mk_toList, if_pos h]

theorem dec_good {x : Enc} {s q : ByteArray} (h : goodB x s q = true) : decErrP x s = 0 ∧ decText x s = q := by
  have := pick_good h
  simp [decErrP, decText, this]

theorem dec_bad {x : Enc} {s : ByteArray} (h : ∀ q, goodB x s q = false) : decErrP x s = 6 ∧ decText x s = ⟨#[]⟩ := by
  have : decPick x s = none := by
    unfold decPick
    split
    · rfl
    · rw [h]
      rfl
  simp [decErrP, decText, this]

/-- By the whole path: what cannot be read. -/
theorem dec_none {x : Enc} {s : ByteArray} (h : decS x.cs s.data.toList = none) : decErrP x s = 6 ∧ decText x s = ⟨#[]⟩ := by
  simp [decErrP, decText, decPick, h]

theorem dec_other {x : Enc} {s : ByteArray} {o : List UInt8} (h : decS x.cs s.data.toList = some o) (hg : goodB x s ⟨o.toArray⟩ = false) : decErrP x s = 6 ∧ decText x s = ⟨#[]⟩ := by
  simp [decErrP, decText, decPick, h, hg]

theorem hexd_slash (n : Nat) (h : n < 16) : hexd n ≠ 47 := by
  have : ∀ n : Fin 16, hexd n.1 ≠ 47 := by decide
  exact this ⟨n, h⟩

theorem small_slash {c : UInt8} (h : c ≠ 47) : small c ≠ 47 := by
  intro e
  have h1 := small_nat c
  rw [e] at h1
  have h2 : (47 : UInt8).toNat = 47 := rfl
  rw [h2] at h1
  split at h1
  · omega
  · exact h (UInt8.toNat_inj.1 (by rw [h2]; omega))

theorem encB_slash {x : Enc} {named first last : Bool} {c : UInt8} (h : c ≠ 47) : ∀ b ∈ encB x named first last c, b ≠ 47 := by
  have hc := c.toNat_lt
  intro b hb
  unfold encB at hb
  split at hb
  · simp only [List.mem_cons, List.not_mem_nil, or_false] at hb
    rcases hb with rfl | rfl | rfl
    · decide
    · exact hexd_slash _ (by omega)
    · exact hexd_slash _ (by omega)
  · split at hb
    · simp only [List.mem_cons, List.not_mem_nil, or_false] at hb
      rcases hb with rfl | rfl
      · decide
      · exact small_slash h
    · simp only [List.mem_cons, List.not_mem_nil, or_false] at hb
      rw [hb]
      exact h

theorem encFrom_slash (x : Enc) (named : Bool) (n : Nat) : ∀ (i : Nat) (l : List UInt8), (∀ b ∈ l, b ≠ 47) → ∀ b ∈ encFrom x named n i l, b ≠ 47
  | _, [], _ => by simp [encFrom]
  | i, c :: l, h => by
    intro b hb
    rw [encFrom, List.mem_append] at hb
    rcases hb with hb | hb
    · exact encB_slash (h c (by simp)) b hb
    · exact encFrom_slash x named n (i + 1) l (fun y hy => h y (by simp [hy])) b hb

theorem encName_slash (x : Enc) {l : List UInt8} (h : ∀ b ∈ l, b ≠ 47) : ∀ b ∈ encName x l, b ≠ 47 := encFrom_slash x _ _ 0 l h

theorem splitC_free {c : UInt8} : ∀ {l x : List UInt8}, x ∈ splitC c l → ∀ b ∈ x, b ≠ c
  | [], x, h => by
    simp [splitC] at h
    subst h
    simp
  | a :: l, x, h => by
    unfold splitC at h
    split at h
    · rcases List.mem_cons.1 h with rfl | h
      · simp
      · exact splitC_free h
    · rename_i hac
      cases hs : splitC c l with
      | nil => exact absurd hs (splitC_ne c l)
      | cons y r =>
        rw [hs] at h
        rcases List.mem_cons.1 h with rfl | h
        · intro b hb
          rcases List.mem_cons.1 hb with rfl | hb
          · simpa using hac
          · exact splitC_free (by rw [hs]; simp) b hb
        · exact splitC_free (by rw [hs]; simp [h])

end Wh
namespace Wh
open Go

/-- The names of a path, decoded as far as they can be read. -/
def decsOf (x : Enc) (s : ByteArray) : List ByteArray := (namesOf s).map (fun n => ⟨((decS x.cs n.data.toList).getD []).toArray⟩)

/-- The names that were decoded, as a path. -/
def decJoin (x : Enc) (s : ByteArray) : List UInt8 := Lib.join ((decsOf x s).map (·.data.toList)) [47]

theorem encName_pos (x : Enc) {l : List UInt8} (h : l ≠ []) : encName x l ≠ [] := by
  intro e
  have h1 := (encFrom_length x (x.names.any (fun y => y.data.toList == lower l)) l.length 0 l).1
  unfold encName at e
  rw [e] at h1
  exact h (List.length_eq_zero_iff.1 (by simpa using h1))

theorem namesOf_free {q n : ByteArray} (h : n ∈ namesOf q) : ∀ b ∈ n.data.toList, b ≠ 47 := by
  unfold namesOf at h
  split at h
  · cases h
  · exact splitC_free (l := q.data.toList) (by rw [← pieces_data]; exact List.mem_map_of_mem h)

theorem names_ne {q n : ByteArray} (hp : isPath q.data.toList = true) (h : n ∈ namesOf q) : n.data.toList ≠ [] := by
  have := List.all_eq_true.1 (namesOf_names hp) n h
  intro e
  simp [isName, e] at this

theorem namesOf_of_split {s : ByteArray} {ls : List ByteArray} (h0 : s.data.toList ≠ []) (h : splitC 47 s.data.toList = ls.map (·.data.toList)) : namesOf s = ls := by
  have : s.data.toList.isEmpty = false := by simpa using h0
  rw [namesOf_some this]
  exact map_data_inj (by rw [pieces_data, h])

theorem good_names {x : Enc} {s q : ByteArray} (h : goodB x s q = true) : namesOf s = encsOf x q := by
  obtain ⟨h1, h2, h3⟩ := goodB_iff.1 h
  have h4 : s.data.toList = Lib.join ((encsOf x q).map (·.data.toList)) [47] := by rw [← h3, encText_join h2]; rfl
  have hfree : ∀ y ∈ (encsOf x q).map (·.data.toList), (∀ b ∈ y, b ≠ 47) ∧ y ≠ [] := by
    intro y hy
    rw [encs_data, List.mem_map] at hy
    obtain ⟨l, hl, rfl⟩ := hy
    obtain ⟨n, hn, rfl⟩ := List.mem_map.1 hl
    exact ⟨encName_slash x (namesOf_free hn), encName_pos x (names_ne h1 hn)⟩
  cases he : encsOf x q with
  | nil =>
    rw [he] at h4
    have : s.data.toList.isEmpty = true := by rw [h4]; rfl
    exact namesOf_none this
  | cons e r =>
    rw [he] at h4 hfree
    refine namesOf_of_split ?_ ?_
    · rw [h4, List.map_cons, Lib.join_cons]
      have := (hfree e.data.toList (by simp)).2
      simp [this]
    · rw [h4, List.map_cons]
      exact splitC_join (fun y hy => (hfree y (by simpa using hy)).1)

theorem good_decs {x : Enc} {s q : ByteArray} (h : goodB x s q = true) : decsOf x s = namesOf q := by
  unfold decsOf
  rw [good_names h]
  unfold encsOf
  rw [List.map_map]
  conv => rhs; rw [← List.map_id (namesOf q)]
  apply List.map_congr_left
  intro n _
  simp only [Function.comp_apply]
  rw [decS_name]
  rfl

theorem good_join {x : Enc} {s q : ByteArray} (h : goodB x s q = true) : (⟨(decJoin x s).toArray⟩ : ByteArray) = q := by
  unfold decJoin
  rw [good_decs h, namesOf_join]

theorem decN_piece {x : Enc} {s n : ByteArray} (hn : n ∈ namesOf s) (h : decS x.cs n.data.toList = none) : decErrP x s = 6 ∧ decText x s = ⟨#[]⟩ := by
  apply dec_bad
  intro q
  cases hg : goodB x s q with
  | false => rfl
  | true =>
    rw [good_names hg] at hn
    unfold encsOf at hn
    obtain ⟨m, _, rfl⟩ := List.mem_map.1 hn
    rw [decS_name] at h
    cases h

theorem decN_len {x : Enc} {s : ByteArray} (h : (namesOf ⟨(decJoin x s).toArray⟩).length ≠ (namesOf s).length) : decErrP x s = 6 ∧ decText x s = ⟨#[]⟩ := by
  apply dec_bad
  intro q
  cases hg : goodB x s q with
  | false => rfl
  | true =>
    rw [good_join hg, good_names hg, encsOf_length] at h
    exact absurd rfl h

theorem decN_no {x : Enc} {s : ByteArray} (h : goodB x s ⟨(decJoin x s).toArray⟩ = false) : decErrP x s = 6 ∧ decText x s = ⟨#[]⟩ := by
  apply dec_bad
  intro q
  cases hg : goodB x s q with
  | false => rfl
  | true =>
    rw [good_join hg] at h
    rw [h] at hg
    cases hg

theorem decN_path {x : Enc} {s : ByteArray} (h : isPath (decJoin x s) = false) : decErrP x s = 6 ∧ decText x s = ⟨#[]⟩ := by
  apply decN_no
  simp [goodB, h]

theorem decS_length (cs : Bool) : ∀ (n : Nat) (l o : List UInt8), l.length ≤ n → decS cs l = some o → o.length ≤ l.length
  | 0, l, o, hn, h => by
    obtain rfl : l = [] := List.length_eq_zero_iff.1 (by omega)
    rw [decS_nil] at h
    cases h
    simp
  | n + 1, [], o, hn, h => by
    rw [decS_nil] at h
    cases h
    simp
  | n + 1, c :: r, o, hn, h => by
    rw [decS.eq_def] at h
    simp only at h
    split at h
    · split at h
      · rename_i d e r'
        split at h
        · cases h
        · obtain ⟨o', ho, rfl⟩ := Option.map_eq_some_iff.1 h
          have := decS_length cs n r' o' (by simp at hn; omega) ho
          simp
          omega
      · cases h
    · split at h
      · split at h
        · rename_i d r'
          obtain ⟨o', ho, rfl⟩ := Option.map_eq_some_iff.1 h
          have := decS_length cs n r' o' (by simp at hn; omega) ho
          simp
          omega
        · cases h
      · obtain ⟨o', ho, rfl⟩ := Option.map_eq_some_iff.1 h
        have := decS_length cs n r o' (by simp at hn; omega) ho
        simp
        omega
end Wh
namespace Wh
open Go

theorem formOk_mem {cs : Bool} : ∀ {l : List UInt8}, formOk cs l = true → ∀ b ∈ l, okB cs b = true
  | [], _ => by simp
  | x :: r, h => by
    rw [formOk, Bool.and_eq_true, Bool.and_eq_true] at h
    intro b hb
    rcases List.mem_cons.1 hb with rfl | hb
    · exact h.1.2
    · exact formOk_mem h.2 b hb

/-- A byte that stands in no list of a right encoding. -/
theorem not_in {cs : Bool} {l : List UInt8} {b : UInt8} (h : formOk cs l = true) (hb : okB cs b = false) : l.contains b = false := by
  cases hc : l.contains b with
  | false => rfl
  | true =>
    have := formOk_mem h b (by simpa using hc)
    rw [hb] at this
    cases this

theorem ok_pct (cs : Bool) : okB cs 37 = false := by cases cs <;> decide
theorem ok_hexd (cs : Bool) (n : Nat) (h : n < 16) : okB cs (hexd n) = false := by
  have : ∀ (cs : Bool) (n : Fin 16), okB cs (hexd n.1) = false := by decide
  exact this cs ⟨n, h⟩
theorem ok_mark {x : Enc} {c : UInt8} (h : markB x c = true) : okB x.cs 94 = false ∧ okB x.cs (small c) = false := by
  simp only [markB, Bool.and_eq_true] at h
  rw [h.1]
  refine ⟨by decide, ?_⟩
  have hh : ∀ n : Fin 256, ((UInt8.ofNat n.1 == 94) || (decide (65 ≤ (UInt8.ofNat n.1).toNat) && decide ((UInt8.ofNat n.1).toNat ≤ 90))) = true → okB true (small (UInt8.ofNat n.1)) = false := by decide +kernel
  have := hh ⟨c.toNat, c.toNat_lt⟩
  simp only [UInt8.ofNat_toNat] at this
  exact this h.2

/-- The bytes of an encoded byte. -/
theorem encB_cases {x : Enc} {named first last : Bool} {c : UInt8} {P : List UInt8 → Prop}
    (h1 : P [37, hexd (c.toNat / 16), hexd (c.toNat % 16)]) (h2 : markB x c = true → P [94, small c]) (h3 : escB x named first last c = false → markB x c = false → P [c]) : P (encB x named first last c) := by
  unfold encB
  split
  · exact h1
  · rename_i he
    split
    · rename_i hm
      exact h2 hm
    · rename_i hm
      exact h3 (by simpa using he) (by simpa using hm)

theorem encB_forbid {x : Enc} {named first last : Bool} {c : UInt8} (hf : formOk x.cs x.forbid.data.toList = true) : ∀ b ∈ encB x named first last c, x.forbid.data.toList.contains b = false := by
  have hc := c.toNat_lt
  refine encB_cases (P := fun l => ∀ b ∈ l, x.forbid.data.toList.contains b = false) ?_ ?_ ?_
  · intro b hb
    simp only [List.mem_cons, List.not_mem_nil, or_false] at hb
    rcases hb with rfl | rfl | rfl
    · exact not_in hf (ok_pct _)
    · exact not_in hf (ok_hexd _ _ (by omega))
    · exact not_in hf (ok_hexd _ _ (by omega))
  · intro hm b hb
    simp only [List.mem_cons, List.not_mem_nil, or_false] at hb
    rcases hb with rfl | rfl
    · exact not_in hf (ok_mark hm).1
    · exact not_in hf (ok_mark hm).2
  · intro he _ b hb
    simp only [List.mem_cons, List.not_mem_nil, or_false] at hb
    subst hb
    simp only [escB, Bool.or_eq_false_iff] at he
    exact he.1.1.2

theorem encFrom_forbid {x : Enc} (hf : formOk x.cs x.forbid.data.toList = true) (named : Bool) (n : Nat) : ∀ (i : Nat) (l : List UInt8), ∀ b ∈ encFrom x named n i l, x.forbid.data.toList.contains b = false
  | _, [] => by simp [encFrom]
  | i, c :: l => by
    intro b hb
    rw [encFrom, List.mem_append] at hb
    rcases hb with hb | hb
    · exact encB_forbid hf b hb
    · exact encFrom_forbid hf named n (i + 1) l b hb

theorem encB_head {x : Enc} {named last : Bool} {c : UInt8} (hf : formOk x.cs x.head.data.toList = true) : ∀ b, (encB x named true last c).head? = some b → x.head.data.toList.contains b = false := by
  refine encB_cases (P := fun l => ∀ b, l.head? = some b → x.head.data.toList.contains b = false) ?_ ?_ ?_
  · intro b hb
    cases hb
    exact not_in hf (ok_pct _)
  · intro hm b hb
    cases hb
    exact not_in hf (ok_mark hm).1
  · intro he _ b hb
    cases hb
    simp only [escB, Bool.or_eq_false_iff, Bool.true_and] at he
    exact he.1.2.1

theorem encB_last {x : Enc} {named first : Bool} {c : UInt8} (hf : formOk x.cs x.tail.data.toList = true) : ∀ b, (encB x named first true c).getLast? = some b → x.tail.data.toList.contains b = false := by
  have hc := c.toNat_lt
  refine encB_cases (P := fun l => ∀ b, l.getLast? = some b → x.tail.data.toList.contains b = false) ?_ ?_ ?_
  · intro b hb
    simp at hb
    subst hb
    exact not_in hf (ok_hexd _ _ (by omega))
  · intro hm b hb
    simp at hb
    subst hb
    exact not_in hf (ok_mark hm).2
  · intro he _ b hb
    simp at hb
    subst hb
    simp only [escB, Bool.or_eq_false_iff, Bool.true_and] at he
    exact he.2

theorem head_app {a b : List UInt8} (h : a ≠ []) : (a ++ b).head? = a.head? := by
  cases a with
  | nil => exact absurd rfl h
  | cons x r => rfl
theorem last_app {a b : List UInt8} (h : b ≠ []) : (a ++ b).getLast? = b.getLast? := by
  rw [List.getLast?_append]
  cases hb : b.getLast? with
  | none => exact absurd (List.getLast?_eq_none_iff.1 hb) h
  | some y => rfl

theorem encB_ne (x : Enc) (named first last : Bool) (c : UInt8) : encB x named first last c ≠ [] := by
  intro e
  have := (encB_length x named first last c).1
  rw [e] at this
  simp at this

theorem encName_head {x : Enc} (hf : formOk x.cs x.head.data.toList = true) {l : List UInt8} : ∀ b, (encName x l).head? = some b → x.head.data.toList.contains b = false := by
  intro b hb
  unfold encName at hb
  cases l with
  | nil => simp [encFrom] at hb
  | cons c r =>
    rw [encFrom, head_app (encB_ne _ _ _ _ _)] at hb
    exact encB_head hf b hb

theorem encFrom_last {x : Enc} (hf : formOk x.cs x.tail.data.toList = true) (named : Bool) (n : Nat) : ∀ (i : Nat) (l : List UInt8), i + l.length = n → ∀ b, (encFrom x named n i l).getLast? = some b → x.tail.data.toList.contains b = false
  | _, [], _, b, hb => by simp [encFrom] at hb
  | i, [c], h, b, hb => by
    simp only [encFrom, List.append_nil] at hb
    have e : (i + 1 == n) = true := by simp at h; simp [h]
    rw [e] at hb
    exact encB_last hf b hb
  | i, c :: d :: l, h, b, hb => by
    have hne : encFrom x named n (i + 1) (d :: l) ≠ [] := by
      intro e
      have := (encFrom_length x named n (i + 1) (d :: l)).1
      rw [e] at this
      simp at this
    rw [encFrom, last_app hne] at hb
    exact encFrom_last hf named n (i + 1) (d :: l) (by simp at h ⊢; omega) b hb

theorem encName_last {x : Enc} (hf : formOk x.cs x.tail.data.toList = true) {l : List UInt8} : ∀ b, (encName x l).getLast? = some b → x.tail.data.toList.contains b = false :=
  encFrom_last hf _ _ 0 l (by simp)

/-- Where nothing is marked, nothing has changed. -/
theorem encFrom_plain (x : Enc) (named : Bool) (n : Nat) : ∀ (i : Nat) (l : List UInt8), (∀ b ∈ encFrom x named n i l, b ≠ 37 ∧ b ≠ 94) → encFrom x named n i l = l
  | _, [], _ => rfl
  | i, c :: l, h => by
    rw [encFrom] at h ⊢
    have h1 : encB x named (i == 0) (i + 1 == n) c = [c] := by
      have h0 : ∀ b ∈ encB x named (i == 0) (i + 1 == n) c, b ≠ 37 ∧ b ≠ 94 := fun b hb => h b (by simp [hb])
      revert h0
      refine encB_cases (P := fun l => (∀ b ∈ l, b ≠ 37 ∧ b ≠ 94) → l = [c]) ?_ ?_ ?_
      · intro hh; exact absurd rfl (hh 37 (by simp)).1
      · intro _ hh; exact absurd rfl (hh 94 (by simp)).2
      · intro _ _ _; rfl
    rw [h1, encFrom_plain x named n (i + 1) l (fun b hb => h b (by simp [hb]))]
    rfl

theorem small_mark {b : UInt8} : (b = 37 → small b = 37) ∧ (b = 94 → small b = 94) := by
  constructor
  · rintro rfl; decide
  · rintro rfl; decide

theorem namesErr_ok : ∀ {xs : List ByteArray} {prev : Option ByteArray}, namesErrFrom prev xs = 0 → ∀ n ∈ xs, nameOk n.data.toList = true
  | [], _, _ => by simp
  | n :: r, prev, h => by
    have h1 : nameOk n.data.toList = true := by
      cases hh : nameOk n.data.toList with
      | true => rfl
      | false =>
        rw [namesErrFrom.eq_def] at h
        simp [hh] at h
    have h2 : namesErrFrom (some n) r = 0 := by
      rw [namesErrFrom.eq_def] at h
      cases prev with
      | none => simpa [h1] using h
      | some p =>
        cases hb : Op.bytesLess p.toList n.toList with
        | true => simpa [h1, hb] using h
        | false => simp [h1, hb] at h
    intro m hm
    rcases List.mem_cons.1 hm with rfl | hm
    · exact h1
    · exact namesErr_ok h2 m hm

theorem nameOk_free {l : List UInt8} (h : nameOk l = true) : ∀ b ∈ l, b ≠ 37 ∧ b ≠ 94 := by
  simp only [nameOk, Bool.and_eq_true] at h
  have h1 := h.2
  intro b hb
  constructor
  · rintro rfl
    have : Lib.containsAny l [37, 94] = true := by
      rw [containsAny_eq, List.any_eq_true]
      exact ⟨37, hb, by decide⟩
    rw [this] at h1
    simp at h1
  · rintro rfl
    have : Lib.containsAny l [37, 94] = true := by
      rw [containsAny_eq, List.any_eq_true]
      exact ⟨94, hb, by decide⟩
    rw [this] at h1
    simp at h1

theorem encName_taken {x : Enc} (hn : namesErrFrom none x.names = 0) {l : List UInt8} (hl : l ≠ []) : x.names.any (fun y => y.data.toList == lower (encName x l)) = false := by
  cases ha : x.names.any (fun y => y.data.toList == lower (encName x l)) with
  | false => rfl
  | true =>
    obtain ⟨y, hy, he⟩ := List.any_eq_true.1 ha
    have he := beq_iff_eq.1 he
    have hfree := nameOk_free (namesErr_ok hn y hy)
    rw [he] at hfree
    have h2 : ∀ b ∈ encName x l, b ≠ 37 ∧ b ≠ 94 := by
      intro b hb
      have hb2 : small b ∈ lower (encName x l) := List.mem_map_of_mem hb
      have := hfree _ hb2
      exact ⟨fun e => this.1 (small_mark.1 e), fun e => this.2 (small_mark.2 e)⟩
    cases hnm : x.names.any (fun y => y.data.toList == lower l) with
    | true =>
      unfold encName at h2
      rw [hnm] at h2
      cases l with
      | nil => exact absurd rfl hl
      | cons c r =>
        have h37 : (37 : UInt8) ∈ encFrom x true (c :: r).length 0 (c :: r) := by
          rw [encFrom, List.mem_append]
          refine .inl ?_
          unfold encB
          rw [if_pos (by simp [escB])]
          simp
        exact absurd rfl (h2 37 h37).1
    | false =>
      have h3 : encName x l = l := by
        unfold encName at h2 ⊢
        exact encFrom_plain x _ _ 0 l h2
      rw [h3] at ha
      rw [ha] at hnm
      cases hnm

theorem encB_zero {x : Enc} {named first last : Bool} {c : UInt8} (h : c ≠ 0) : ∀ b ∈ encB x named first last c, b ≠ 0 := by
  have hc := c.toNat_lt
  have h16 : ∀ n : Fin 16, hexd n.1 ≠ 0 := by decide
  refine encB_cases (P := fun l => ∀ b ∈ l, b ≠ 0) ?_ ?_ ?_
  · intro b hb
    simp only [List.mem_cons, List.not_mem_nil, or_false] at hb
    rcases hb with rfl | rfl | rfl
    · decide
    · exact h16 ⟨_, by omega⟩
    · exact h16 ⟨_, by omega⟩
  · intro _ b hb
    simp only [List.mem_cons, List.not_mem_nil, or_false] at hb
    rcases hb with rfl | rfl
    · decide
    · intro e
      have h1 := small_nat c
      rw [e] at h1
      have h2 : (0 : UInt8).toNat = 0 := rfl
      rw [h2] at h1
      split at h1
      · omega
      · exact h (UInt8.toNat_inj.1 (by rw [h2]; omega))
  · intro _ _ b hb
    simp only [List.mem_cons, List.not_mem_nil, or_false] at hb
    rw [hb]
    exact h

theorem encFrom_zero (x : Enc) (named : Bool) (n : Nat) : ∀ (i : Nat) (l : List UInt8), (∀ b ∈ l, b ≠ 0) → ∀ b ∈ encFrom x named n i l, b ≠ 0
  | _, [], _ => by simp [encFrom]
  | i, c :: l, h => by
    intro b hb
    rw [encFrom, List.mem_append] at hb
    rcases hb with hb | hb
    · exact encB_zero (h c (by simp)) b hb
    · exact encFrom_zero x named n (i + 1) l (fun y hy => h y (by simp [hy])) b hb

theorem containsAny_free {l : List UInt8} (h0 : ∀ b ∈ l, b ≠ 0) (h1 : ∀ b ∈ l, b ≠ 47) : Lib.containsAny l [0, 47] = false := by
  rw [containsAny_eq, List.any_eq_false]
  intro b hb
  have := h0 b hb
  have := h1 b hb
  simp_all

theorem encName_isName {x : Enc} {l : List UInt8} (h : isName l = true) (hlen : (encName x l).length ≤ 255) : isName (encName x l) = true := by
  obtain ⟨f1, _, f3, f4, f5, f6⟩ := name_facts h
  have hne : l ≠ [] := by simpa using f1
  have e1 : (encName x l).isEmpty = false := by simpa using encName_pos x hne
  have e2 : ∀ p : List UInt8, decS x.cs p = some p → (l == p) = false → (encName x l != p) = true := by
    intro p hp hl
    rw [bne_iff_ne]
    intro e
    have := decS_name x l
    rw [e, hp] at this
    cases this
    simp at hl
  have d1 : decS x.cs [46] = some [46] := by cases x.cs <;> decide
  have d2 : decS x.cs [46, 46] = some [46, 46] := by cases x.cs <;> decide
  have e3 := containsAny_free (encFrom_zero x (x.names.any (fun y => y.data.toList == lower l)) l.length 0 l f5) (encName_slash x f6)
  have e4 : Lib.containsAny (encName x l) [0, 47] = false := e3
  rw [isName_mid e1 hlen, e2 _ d1 f3, e2 _ d2 f4, e4]
  rfl

/-- A name that a store with this encoding permits. -/
structure Permitted (x : Enc) (e : ByteArray) : Prop where
  ne : 0 < e.size
  len : ¬ x.max < (e.size : Int)
  short : e.size ≤ 255
  head : ∀ b, e.data.toList.head? = some b → x.head.data.toList.contains b = false
  last : ∀ b, e.data.toList.getLast? = some b → x.tail.data.toList.contains b = false
  names : x.names.any (fun y => y.data.toList == lower e.data.toList) = false
  forbid : ∀ b ∈ e.data.toList, x.forbid.data.toList.contains b = false
  name : isName e.data.toList = true

theorem permitted_of {x : Enc} {q e : ByteArray} (hx : encErr x = 0) (hp : isPath q.data.toList = true) (he : encErrP x q = 0) (hm : e ∈ encsOf x q) : Permitted x e := by
  obtain ⟨h1, h2, h3, h4⟩ := encErr_zero hx
  rw [namesErrAt_zero] at h2
  simp only [List.all_cons, List.all_nil, Bool.and_true, Bool.and_eq_true] at h1
  have hl : longB x e = false := by
    cases hh : longB x e with
    | false => rfl
    | true => have := (encP_long hm hh).1; omega
  have hl2 : ¬ x.max < (e.size : Int) := by simpa [longB] using hl
  have hs : e.size ≤ 255 := by omega
  unfold encsOf at hm
  obtain ⟨n, hn, rfl⟩ := List.mem_map.1 hm
  have hin := List.all_eq_true.1 (namesOf_names hp) n hn
  have hne := names_ne hp hn
  have hsz : (⟨(encName x n.data.toList).toArray⟩ : ByteArray).size = (encName x n.data.toList).length := by simp [ByteArray.size]
  have hpos := encName_pos x hne
  refine ⟨?_, hl2, hs, ?_, ?_, ?_, ?_, ?_⟩
  · rw [hsz]
    exact List.length_pos_iff.2 hpos
  · exact encName_head h1.2.1
  · exact encName_last h1.2.2
  · exact encName_taken h2 hne
  · exact encFrom_forbid h1.1 _ _ 0 _
  · exact encName_isName hin (by rw [← hsz]; exact hs)

theorem encText_path {x : Enc} {q : ByteArray} (hx : encErr x = 0) (hp : isPath q.data.toList = true) (he : encErrP x q = 0) : isPath (encText x q).data.toList = true := by
  have hg : goodB x (encText x q) q = true := goodB_iff.2 ⟨hp, he, rfl⟩
  have hn := good_names hg
  cases h0 : (encText x q).data.toList.isEmpty with
  | true => simp [isPath, h0]
  | false =>
    have hlen : (encText x q).data.toList.length ≤ 1024 := by
      rw [encText_join he]
      cases Nat.lt_or_ge 1024 (encJoin x q).length with
      | inl h => have := (encP_big (x := x) (s := q) h).1; omega
      | inr h => exact h
    have e2 : (splitC 47 (encText x q).data.toList).all isName = true := by
      rw [← pieces_data, List.all_map, ← namesOf_some h0, hn]
      rw [List.all_eq_true]
      intro e hm
      exact (permitted_of hx hp he hm).name
    unfold isPath
    rw [h0, e2, decide_eq_true hlen]
    rfl
end Wh
