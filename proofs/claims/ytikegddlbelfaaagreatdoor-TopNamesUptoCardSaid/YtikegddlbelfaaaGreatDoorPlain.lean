/-
  Plain facts on lists of bytes: no program in sight.
-/
import Derived.Lib.Bytealg
import Derived.Lib.IndexAny
import Derived.Lib.Split
import Derived.Lib.SplitLaws
import Derived.Lib.Join
namespace Wh
open Go

/-- P1: a name. -/
def isName (l : List UInt8) : Bool := !l.isEmpty && decide (l.length ≤ 255) && l != [46] && l != [46, 46] && !Lib.containsAny l [0, 47]

theorem isName_long {l : List UInt8} (h : 255 < l.length) : isName l = false := by
  have : decide (l.length ≤ 255) = false := by simp; omega
  simp [isName, this]

theorem isName_mid {l : List UInt8} (h0 : l.isEmpty = false) (h : l.length ≤ 255) : isName l = (l != [46] && l != [46, 46] && !Lib.containsAny l [0, 47]) := by
  have : decide (l.length ≤ 255) = true := by simp; omega
  simp [isName, this, h0]

/-- A text cut at each byte c. -/
def splitC (c : UInt8) : List UInt8 → List (List UInt8)
  | [] => [[]]
  | b :: l => if b == c then [] :: splitC c l else match splitC c l with
    | [] => [[b]]
    | x :: r => (b :: x) :: r

/-- P1: a path. -/
def isPath (l : List UInt8) : Bool := l.isEmpty || (decide (l.length ≤ 1024) && (splitC 47 l).all isName)

def pathErr (l : List UInt8) : Int := if isPath l then 0 else 1

theorem pathErr_long {l : List UInt8} (h0 : l.isEmpty = false) (h : 1024 < l.length) : pathErr l = 1 := by
  have h2 : decide (l.length ≤ 1024) = false := by simp; omega
  simp [pathErr, isPath, h0, h2]

theorem splitC_ne (c : UInt8) (l : List UInt8) : splitC c l ≠ [] := by
  cases l with
  | nil => simp [splitC]
  | cons b l =>
    unfold splitC
    split
    · simp
    · split <;> simp

theorem splitC_no {c : UInt8} : ∀ {l : List UInt8}, (∀ b ∈ l, b ≠ c) → splitC c l = [l]
  | [], _ => rfl
  | b :: l, h => by
    unfold splitC
    rw [if_neg (by simpa using h b (by simp)), splitC_no (fun x hx => h x (by simp [hx]))]

theorem splitC_cons_ne {b c : UInt8} {l x : List UInt8} {r : List (List UInt8)} (h : b ≠ c) (hl : splitC c l = x :: r) : splitC c (b :: l) = (b :: x) :: r := by
  rw [splitC, if_neg (by simpa using h), hl]

theorem splitC_append {c : UInt8} : ∀ {l r : List UInt8}, (∀ b ∈ l, b ≠ c) → splitC c (l ++ c :: r) = l :: splitC c r
  | [], _, _ => by simp [splitC]
  | b :: l, r, h => by
    rw [List.cons_append]
    exact splitC_cons_ne (h b (by simp)) (splitC_append (fun x hx => h x (by simp [hx])))

theorem one_le (c : UInt8) : 1 ≤ (⟨#[c]⟩ : ByteArray).size := Nat.le_refl 1

theorem indexByte_neg {l : List UInt8} {c : UInt8} (h : Lib.indexByte l c = -1) : ∀ b ∈ l, b ≠ c := by
  intro b hb hbc
  obtain ⟨k, hk⟩ := List.getElem?_of_mem hb
  exact Lib.indexByte_none h k (hbc ▸ hk)

/-- What strings.Split makes at a separator of one byte. -/
theorem splitB_eq (c : UInt8) : ∀ (k : Nat) (s : ByteArray), Lib.countB s ⟨#[c]⟩ = k → (Lib.splitB ⟨#[c]⟩ 0 k s).map (·.data.toList) = splitC c s.data.toList
  | 0, s, hk => by
    rcases Lib.indexB_cases s ⟨#[c]⟩ with hix | ⟨i, hix, _⟩
    · have h1 : Lib.indexByte s.data.toList c = -1 := by rw [← Lib.index_one]; exact hix
      rw [splitC_no (indexByte_neg h1)]
      rfl
    · have := Lib.countB_hit s ⟨#[c]⟩ i (one_le c) hix
      omega
  | k + 1, s, hk => by
    rcases Lib.indexB_cases s ⟨#[c]⟩ with hix | ⟨i, hix, _⟩
    · rw [Lib.countB_miss s _ hix] at hk
      omega
    · have h1 : Lib.indexByte s.data.toList c = i := by rw [← Lib.index_one]; exact hix
      obtain ⟨h2, h3⟩ := Lib.indexByte_some h1
      have hlt : i < s.data.toList.length := (List.getElem?_eq_some_iff.1 h2).1
      have e1 : s.data.toList = s.data.toList.take i ++ c :: s.data.toList.drop (i + 1) := by
        conv => lhs; rw [← List.take_append_drop i s.data.toList]
        rw [List.drop_eq_getElem_cons hlt]
        congr
        exact (List.getElem?_eq_some_iff.1 h2).2
      have hn : ∀ b ∈ s.data.toList.take i, b ≠ c := by
        intro b hb hbc
        obtain ⟨j, hj⟩ := List.getElem?_of_mem hb
        have hji : j < i := by
          have := (List.getElem?_eq_some_iff.1 hj).1
          rw [List.length_take] at this
          omega
        rw [List.getElem?_take_of_lt hji] at hj
        exact h3 j hji (hbc ▸ hj)
      rw [Lib.splitB_hit _ 0 k s i hix, List.map_cons, splitB_eq c k _ (by have := Lib.countB_hit s ⟨#[c]⟩ i (one_le c) hix; omega)]
      conv => rhs; rw [e1, splitC_append hn]
      rw [Lib.extract_from_zero, Lib.extract_to_end]
      rfl

/-- The pieces of a text, cut at each byte c. -/
def pieces (c : UInt8) (s : ByteArray) : List ByteArray := Lib.splitB ⟨#[c]⟩ 0 (Lib.countB s ⟨#[c]⟩) s

theorem pieces_data (c : UInt8) (s : ByteArray) : (pieces c s).map (·.data.toList) = splitC c s.data.toList := splitB_eq c _ s rfl

theorem pieces_length (c : UInt8) (s : ByteArray) : (pieces c s).length = Lib.countB s ⟨#[c]⟩ + 1 := Lib.splitB_all _ (one_le c) 0 _ s rfl

theorem pieces_le (c : UInt8) (s : ByteArray) : (pieces c s).length ≤ s.size + 1 := by
  have := Lib.countB_le ⟨#[c]⟩ (one_le c) s.size s (Nat.le_refl _)
  rw [pieces_length]
  omega

theorem pieces_pos (c : UInt8) (s : ByteArray) : 0 < (pieces c s).length := by rw [pieces_length]; omega

theorem pathErr_split {s : ByteArray} (h0 : s.data.toList.isEmpty = false) (h : ¬ 1024 < s.size) : pathErr s.data.toList = if (pieces 47 s).all (fun x => isName x.data.toList) then 0 else 1 := by
  have h2 : decide (s.data.toList.length ≤ 1024) = true := by rw [← Lib.size_eq]; simp; omega
  have h3 : (pieces 47 s).all (fun x => isName x.data.toList) = (splitC 47 s.data.toList).all isName := by rw [← pieces_data, List.all_map]; rfl
  rw [h3]
  simp only [pathErr, isPath, h0, h2, Bool.false_or, Bool.true_and]

theorem isPath_long {l : List UInt8} (h0 : l.isEmpty = false) (h : 1024 < l.length) : isPath l = false := by
  have h2 : decide (l.length ≤ 1024) = false := by simp; omega
  simp [isPath, h0, h2]

theorem isPath_split {s : ByteArray} (h0 : s.data.toList.isEmpty = false) (h : s.size ≤ 1024) : isPath s.data.toList = (pieces 47 s).all (fun x => isName x.data.toList) := by
  have h2 : decide (s.data.toList.length ≤ 1024) = true := by rw [← Lib.size_eq]; simp; omega
  have h3 : (pieces 47 s).all (fun x => isName x.data.toList) = (splitC 47 s.data.toList).all isName := by rw [← pieces_data, List.all_map]; rfl
  rw [h3]
  simp only [isPath, h0, h2, Bool.false_or, Bool.true_and]

/-- The error of a list of texts: 1 if one is no path. -/
def pathsErr (xs : List ByteArray) : Int := if xs.all (fun x => isPath x.data.toList) then 0 else 1

theorem mem_splitC {c : UInt8} : ∀ {l x : List UInt8}, x ∈ splitC c l → (∀ b ∈ x, b ∈ l) ∧ x.length ≤ l.length
  | [], x, h => by
    simp [splitC] at h
    subst h
    simp
  | b :: l, x, h => by
    unfold splitC at h
    split at h
    · rcases List.mem_cons.1 h with rfl | h
      · simp
      · have := mem_splitC h
        exact ⟨fun y hy => List.mem_cons_of_mem _ (this.1 y hy), by simp; omega⟩
    · cases hs : splitC c l with
      | nil => exact absurd hs (splitC_ne c l)
      | cons y r =>
        rw [hs] at h
        rcases List.mem_cons.1 h with rfl | h
        · have := mem_splitC (c := c) (l := l) (x := y) (by rw [hs]; simp)
          refine ⟨fun z hz => ?_, by simp; omega⟩
          rcases List.mem_cons.1 hz with rfl | hz
          · simp
          · exact List.mem_cons_of_mem _ (this.1 z hz)
        · have := mem_splitC (c := c) (l := l) (x := x) (by rw [hs]; simp [h])
          exact ⟨fun y hy => List.mem_cons_of_mem _ (this.1 y hy), by simp; omega⟩

theorem pieces_size {c : UInt8} {s x : ByteArray} (h : x ∈ pieces c s) : x.size ≤ s.size := by
  have : x.data.toList ∈ splitC c s.data.toList := by rw [← pieces_data]; exact List.mem_map_of_mem h
  have := (mem_splitC this).2
  rw [Lib.size_eq, Lib.size_eq]
  exact this

theorem prefix_le {d p : ByteArray} (h : Lib.hasPrefix p.data.toList (d.data.toList ++ [47]) = true) : d.size + 1 ≤ p.size := by
  have := (List.isPrefixOf_iff_prefix.1 h).length_le
  rw [Lib.size_eq, Lib.size_eq]
  simpa using this

theorem isPath_le {l : List UInt8} (h : isPath l = true) : l.length ≤ 1024 := by
  rcases Bool.or_eq_true _ _ ▸ h with h | h
  · simp at h; simp [h]
  · simp at h; exact h.1

theorem pathsErr_all {xs : List ByteArray} (h : pathsErr xs = 0) : ∀ x ∈ xs, isPath x.data.toList = true := by
  unfold pathsErr at h
  split at h
  · rename_i h2
    intro x hx
    exact List.all_eq_true.1 h2 x hx
  · omega

theorem pathsErr_size {xs : List ByteArray} (h : pathsErr xs = 0) {x : ByteArray} (hx : x ∈ xs) : x.size ≤ 1024 := by
  rw [Lib.size_eq]
  exact isPath_le (pathsErr_all h x hx)

theorem pathsErr_cases (xs : List ByteArray) : pathsErr xs = 1 ∨ pathsErr xs = 0 := by
  unfold pathsErr
  split
  · exact .inr rfl
  · exact .inl rfl

theorem toList_ne {d p : ByteArray} (h : ¬ d = p) : (d.toList == p.toList) = false := by
  rw [beq_eq_false_iff_ne, Lib.toList_data, Lib.toList_data]
  intro e
  apply h
  obtain ⟨a⟩ := d
  obtain ⟨b⟩ := p
  congr
  exact Array.toList_inj.1 e

/-- A letter as a small one. -/
def small (c : UInt8) : UInt8 := if 65 ≤ c.toNat ∧ c.toNat ≤ 90 then c + 32 else c

theorem small_nat (c : UInt8) : (small c).toNat = if 65 ≤ c.toNat ∧ c.toNat ≤ 90 then c.toNat + 32 else c.toNat := by
  unfold small
  split
  · rw [UInt8.toNat_add]
    have : (32 : UInt8).toNat = 32 := rfl
    omega
  · rfl

/-- All letters small. -/
def lower (l : List UInt8) : List UInt8 := l.map small

theorem set_same {l : List UInt8} {k : Nat} {x : UInt8} (h : l[k]? = some x) : l.set k x = l := by
  apply List.ext_getElem?
  intro j
  by_cases e : k = j
  · subst e
    rw [List.getElem?_set_self (List.getElem?_eq_some_iff.1 h).1, h]
  · rw [List.getElem?_set_ne e]

/-- The names of a path. -/
def namesOf (s : ByteArray) : List ByteArray := if s.data.toList.isEmpty then [] else pieces 47 s

theorem namesOf_some {s : ByteArray} (h : s.data.toList.isEmpty = false) : namesOf s = pieces 47 s := by simp [namesOf, h]
theorem namesOf_none {s : ByteArray} (h : s.data.toList.isEmpty = true) : namesOf s = [] := by simp [namesOf, h]

/-- What Join makes of names: the text, and the error. -/
def joinErr (xs : List ByteArray) : Int :=
  if xs.all (fun x => isName x.data.toList) then (if (Lib.join (xs.map (·.data.toList)) [47]).length ≤ 1024 then 0 else 1) else 2
def joinText (xs : List ByteArray) : ByteArray := if joinErr xs = 0 then ⟨(Lib.join (xs.map (·.data.toList)) [47]).toArray⟩ else ⟨#[]⟩

theorem join_bad {xs : List ByteArray} (h : xs.all (fun x => isName x.data.toList) = false) : joinText xs = ⟨#[]⟩ ∧ joinErr xs = 2 := by
  have e : joinErr xs = 2 := by simp only [joinErr, h]; rfl
  exact ⟨by rw [joinText, e]; rfl, e⟩
theorem join_long {xs : List ByteArray} (h : xs.all (fun x => isName x.data.toList) = true) (h2 : 1024 < (Lib.join (xs.map (·.data.toList)) [47]).length) : joinText xs = ⟨#[]⟩ ∧ joinErr xs = 1 := by
  have e : joinErr xs = 1 := by
    unfold joinErr
    rw [if_pos h, if_neg (by omega)]
  exact ⟨by rw [joinText, e]; rfl, e⟩
theorem join_good {xs : List ByteArray} (h : xs.all (fun x => isName x.data.toList) = true) (h2 : (Lib.join (xs.map (·.data.toList)) [47]).length ≤ 1024) :
    joinText xs = ⟨(Lib.join (xs.map (·.data.toList)) [47]).toArray⟩ ∧ joinErr xs = 0 := by
  have e : joinErr xs = 0 := by
    unfold joinErr
    rw [if_pos h, if_pos h2]
  exact ⟨by rw [joinText, if_pos e], e⟩

theorem join_splitC (c : UInt8) : ∀ l : List UInt8, Lib.join (splitC c l) [c] = l
  | [] => Lib.join_one _ _
  | b :: l => by
    have ih := join_splitC c l
    cases hs : splitC c l with
    | nil => exact absurd hs (splitC_ne c l)
    | cons x r =>
      rw [hs, Lib.join_cons] at ih
      by_cases h : b = c
      · subst h
        rw [splitC, if_pos (by simp), hs, Lib.join_cons]
        simp only [Lib.joinTail, List.map_cons, List.flatten_cons, List.nil_append, List.cons_append] at ih ⊢
        rw [ih]
      · rw [splitC_cons_ne h hs, Lib.join_cons, List.cons_append, ih]

theorem mk_toList (s : ByteArray) : (⟨s.data.toList.toArray⟩ : ByteArray) = s := rfl

end Wh
