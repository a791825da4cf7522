/-
  Decoded names and paths, in plain Lean.
-/
import Derived.Test.YtbcadgooelcnhaaDoorPlainInj
namespace Wh
open Go

/-- The digits that encodings use. -/
def hexD : List UInt8 := [48, 49, 50, 51, 52, 53, 54, 55, 56, 57, 65, 66, 67, 68, 69, 70]

/-- A digit's number; -1: none. -/
def hx (c : UInt8) : Int := Lib.indexByte hexD c

/-- The byte of two digits. -/
def hx2 (d e : UInt8) : UInt8 := UInt8.ofNat ((hx d).toNat * 16 + (hx e).toNat)

/-- What has been encoded, if it can be read. -/
def decS (cs : Bool) : List UInt8 → Option (List UInt8)
  | [] => some []
  | c :: r =>
    if c == 37 then
      match r with
      | d :: e :: r' => if hx d < 0 ∨ hx e < 0 then none else (decS cs r').map (hx2 d e :: ·)
      | _ => none
    else if cs && c == 94 then
      match r with
      | d :: r' => (decS cs r').map (great d :: ·)
      | [] => none
    else (decS cs r).map (c :: ·)

theorem decS_nil (cs : Bool) : decS cs [] = some [] := by rw [decS]

theorem decS_pct (cs : Bool) (d e : UInt8) (r : List UInt8) : decS cs (37 :: d :: e :: r) = if hx d < 0 ∨ hx e < 0 then none else (decS cs r).map (hx2 d e :: ·) := by
  rw [decS]
  simp

theorem decS_short (cs : Bool) {r : List UInt8} (h : r.length < 2) : decS cs (37 :: r) = none := by
  match r, h with
  | [], _ => rw [decS]; simp
  | [d], _ => rw [decS.eq_def]; simp

theorem decS_mark {cs : Bool} (h : cs = true) (d : UInt8) (r : List UInt8) : decS cs (94 :: d :: r) = (decS cs r).map (great d :: ·) := by
  rw [decS.eq_def]
  simp [h]

theorem decS_lone {cs : Bool} (h : cs = true) : decS cs [94] = none := by
  rw [decS.eq_def]
  simp [h]

theorem decS_one {cs : Bool} {c : UInt8} (h1 : (c == 37) = false) (h2 : (cs && c == 94) = false) (r : List UInt8) : decS cs (c :: r) = (decS cs r).map (c :: ·) := by
  rw [decS.eq_def]
  simp only [h1, h2]
  simp

theorem hx_hexd (n : Nat) (h : n < 16) : hx (hexd n) = n := by
  have : ∀ n : Fin 16, hx (hexd n.1) = n.1 := by decide
  exact this ⟨n, h⟩

theorem hx_bound (c : UInt8) : -1 ≤ hx c ∧ hx c < 16 := by
  have h : ∀ n : Fin 256, -1 ≤ hx (UInt8.ofNat n.1) ∧ hx (UInt8.ofNat n.1) < 16 := by decide +kernel
  have := h ⟨c.toNat, c.toNat_lt⟩
  simpa using this

theorem hx2_hexd (c : UInt8) : hx2 (hexd (c.toNat / 16)) (hexd (c.toNat % 16)) = c := by
  have h := c.toNat_lt
  rw [hx2, hx_hexd _ (by omega), hx_hexd _ (by omega)]
  have e2 : ((c.toNat / 16 : Nat) : Int).toNat * 16 + ((c.toNat % 16 : Nat) : Int).toNat = c.toNat := by omega
  rw [e2]
  simp

/-- What is encoded can be read. -/
theorem decS_undo (x : Enc) (named first last : Bool) (c : UInt8) (rest : List UInt8) : decS x.cs (encB x named first last c ++ rest) = (decS x.cs rest).map (c :: ·) := by
  have h := c.toNat_lt
  obtain ⟨_, _, h3⟩ := hex_back c
  unfold encB
  split
  · simp only [List.cons_append, List.nil_append]
    rw [decS_pct, hx_hexd _ (by omega), hx_hexd _ (by omega), if_neg (by omega), hx2_hexd]
  · rename_i he
    have he37 : (c == 37) = false := by
      cases hc : (c == 37)
      · rfl
      · exact absurd (by simp [escB, hc]) he
    split
    · rename_i hm
      simp only [markB, Bool.and_eq_true] at hm
      simp only [List.cons_append, List.nil_append]
      rw [decS_mark hm.1, (h3 hm.2).1]
    · rename_i hm
      simp only [List.cons_append, List.nil_append]
      refine decS_one he37 ?_ rest
      cases hc : x.cs
      · rfl
      · cases hd : (c == 94)
        · rfl
        · exact absurd (by simp [markB, hc, hd]) hm

theorem map_map_app {o : Option (List UInt8)} (a : UInt8) (l : List UInt8) : (o.map (l ++ ·)).map (a :: ·) = o.map ((a :: l) ++ ·) := by
  cases o <;> simp

theorem decS_from (x : Enc) (named : Bool) (n : Nat) (rest : List UInt8) : ∀ (i : Nat) (l : List UInt8), decS x.cs (encFrom x named n i l ++ rest) = (decS x.cs rest).map (l ++ ·)
  | _, [] => by simp [encFrom]
  | i, c :: l => by
    rw [encFrom, List.append_assoc, decS_undo, decS_from x named n rest (i + 1) l, map_map_app]

theorem decS_nameR (x : Enc) (l rest : List UInt8) : decS x.cs (encName x l ++ rest) = (decS x.cs rest).map (l ++ ·) := decS_from x _ _ rest 0 l
theorem decS_name (x : Enc) (l : List UInt8) : decS x.cs (encName x l) = some l := by
  have := decS_nameR x l []
  rw [List.append_nil, decS_nil] at this
  simpa using this

theorem decS_slash (cs : Bool) (r : List UInt8) : decS cs (47 :: r) = (decS cs r).map (47 :: ·) := decS_one (by decide) (by rw [show ((47 : UInt8) == 94) = false by decide, Bool.and_false]) r

theorem decS_tail (x : Enc) : ∀ ls : List (List UInt8), decS x.cs (Lib.joinTail [47] (ls.map (encName x))) = some (Lib.joinTail [47] ls)
  | [] => by
    have : Lib.joinTail [47] ([] : List (List UInt8)) = [] := rfl
    rw [List.map_nil, this, decS_nil]
  | l :: ls => by
    have e : ∀ (a : List UInt8) r, Lib.joinTail [47] (a :: r) = 47 :: (a ++ Lib.joinTail [47] r) := fun a r => by simp [Lib.joinTail]
    rw [List.map_cons, e, e, decS_slash, decS_nameR, decS_tail x ls]
    rfl

theorem decS_join (x : Enc) : ∀ ls : List (List UInt8), decS x.cs (Lib.join (ls.map (encName x)) [47]) = some (Lib.join ls [47])
  | [] => by
    have : Lib.join ([] : List (List UInt8)) [47] = [] := rfl
    rw [List.map_nil, this, decS_nil]
  | l :: ls => by
    rw [List.map_cons, Lib.join_cons, Lib.join_cons, decS_nameR, decS_tail x ls]
    rfl

theorem encs_data (x : Enc) (s : ByteArray) : (encsOf x s).map (·.data.toList) = ((namesOf s).map (·.data.toList)).map (encName x) := by
  simp [encsOf, Function.comp_def]

theorem decS_path (x : Enc) (s : ByteArray) : decS x.cs (encJoin x s) = some s.data.toList := by
  unfold encJoin
  rw [encs_data, decS_join, namesOf_join]

/-- Is a text the encoding of a path? -/
def goodB (x : Enc) (s q : ByteArray) : Bool := isPath q.data.toList && decide (encErrP x q = 0) && decide (encText x q = s)

theorem goodB_iff {x : Enc} {s q : ByteArray} : goodB x s q = true ↔ isPath q.data.toList = true ∧ encErrP x q = 0 ∧ encText x q = s := by
  simp [goodB, and_assoc]

/-- What Decode makes of a path: the text, and the error. -/
def decPick (x : Enc) (s : ByteArray) : Option ByteArray := match decS x.cs s.data.toList with
  | none => none
  | some o => if goodB x s ⟨o.toArray⟩ then some ⟨o.toArray⟩ else none
def decErrP (x : Enc) (s : ByteArray) : Int := if (decPick x s).isSome then 0 else 6
def decText (x : Enc) (s : ByteArray) : ByteArray := (decPick x s).getD ⟨#[]⟩

theorem encText_join {x : Enc} {q : ByteArray} (h : encErrP x q = 0) : (encText x q).data.toList = encJoin x q := by
  simp [encText, h]

/-- The decoded text, where there is one. -/
theorem pick_good {x : Enc} {s q : ByteArray} (h : goodB x s q = true) : decPick x s = some q := by
  obtain ⟨h1, h2, h3⟩ := goodB_iff.1 h
  have h4 : decS x.cs s.data.toList = some q.data.toList := by
    rw [← h3, encText_join h2, decS_path]
  unfold decPick
  rw [h4]
  simp only
  rw [mk_toList, if_pos h]

theorem dec_good {x : Enc} {s q : ByteArray} (h : goodB x s q = true) : decErrP x s = 0 ∧ decText x s = q := by
  have := pick_good h
  simp [decErrP, decText, this]

theorem dec_bad {x : Enc} {s : ByteArray} (h : ∀ q, goodB x s q = false) : decErrP x s = 6 ∧ decText x s = ⟨#[]⟩ := by
  have : decPick x s = none := by
    unfold decPick
    split
    · rfl
    · rw [h]
      rfl
  simp [decErrP, decText, this]

/-- By the whole path: what cannot be read. -/
theorem dec_none {x : Enc} {s : ByteArray} (h : decS x.cs s.data.toList = none) : decErrP x s = 6 ∧ decText x s = ⟨#[]⟩ := by
  simp [decErrP, decText, decPick, h]

theorem dec_other {x : Enc} {s : ByteArray} {o : List UInt8} (h : decS x.cs s.data.toList = some o) (hg : goodB x s ⟨o.toArray⟩ = false) : decErrP x s = 6 ∧ decText x s = ⟨#[]⟩ := by
  simp [decErrP, decText, decPick, h, hg]

theorem hexd_slash (n : Nat) (h : n < 16) : hexd n ≠ 47 := by
  have : ∀ n : Fin 16, hexd n.1 ≠ 47 := by decide
  exact this ⟨n, h⟩

theorem small_slash {c : UInt8} (h : c ≠ 47) : small c ≠ 47 := by
  intro e
  have h1 := small_nat c
  rw [e] at h1
  have h2 : (47 : UInt8).toNat = 47 := rfl
  rw [h2] at h1
  split at h1
  · omega
  · exact h (UInt8.toNat_inj.1 (by rw [h2]; omega))

theorem encB_slash {x : Enc} {named first last : Bool} {c : UInt8} (h : c ≠ 47) : ∀ b ∈ encB x named first last c, b ≠ 47 := by
  have hc := c.toNat_lt
  intro b hb
  unfold encB at hb
  split at hb
  · simp only [List.mem_cons, List.not_mem_nil, or_false] at hb
    rcases hb with rfl | rfl | rfl
    · decide
    · exact hexd_slash _ (by omega)
    · exact hexd_slash _ (by omega)
  · split at hb
    · simp only [List.mem_cons, List.not_mem_nil, or_false] at hb
      rcases hb with rfl | rfl
      · decide
      · exact small_slash h
    · simp only [List.mem_cons, List.not_mem_nil, or_false] at hb
      rw [hb]
      exact h

theorem encFrom_slash (x : Enc) (named : Bool) (n : Nat) : ∀ (i : Nat) (l : List UInt8), (∀ b ∈ l, b ≠ 47) → ∀ b ∈ encFrom x named n i l, b ≠ 47
  | _, [], _ => by simp [encFrom]
  | i, c :: l, h => by
    intro b hb
    rw [encFrom, List.mem_append] at hb
    rcases hb with hb | hb
    · exact encB_slash (h c (by simp)) b hb
    · exact encFrom_slash x named n (i + 1) l (fun y hy => h y (by simp [hy])) b hb

theorem encName_slash (x : Enc) {l : List UInt8} (h : ∀ b ∈ l, b ≠ 47) : ∀ b ∈ encName x l, b ≠ 47 := encFrom_slash x _ _ 0 l h

theorem splitC_free {c : UInt8} : ∀ {l x : List UInt8}, x ∈ splitC c l → ∀ b ∈ x, b ≠ c
  | [], x, h => by
    simp [splitC] at h
    subst h
    simp
  | a :: l, x, h => by
    unfold splitC at h
    split at h
    · rcases List.mem_cons.1 h with rfl | h
      · simp
      · exact splitC_free h
    · rename_i hac
      cases hs : splitC c l with
      | nil => exact absurd hs (splitC_ne c l)
      | cons y r =>
        rw [hs] at h
        rcases List.mem_cons.1 h with rfl | h
        · intro b hb
          rcases List.mem_cons.1 hb with rfl | hb
          · simpa using hac
          · exact splitC_free (by rw [hs]; simp) b hb
        · exact splitC_free (by rw [hs]; simp [h])

end Wh
