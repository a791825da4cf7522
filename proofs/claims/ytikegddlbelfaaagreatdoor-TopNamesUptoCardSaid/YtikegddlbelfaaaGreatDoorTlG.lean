/-
  The texts Tl1, Tl2, Tl3, in one.
-/
import Derived.Test.YtikegddlbelfaaaGreatDoorPlG
import Derived.Test.YtikegddlbelfaaaGreatDoorTpG
namespace Go.Proofs.YtikegddlbelfaaaGreatDoor
open Go.RowKit

def encN (x : Wh.Enc) (n : ByteArray) : ByteArray := ⟨(Wh.encName x n.data.toList).toArray⟩
theorem encsOf_eq (x : Wh.Enc) (p : ByteArray) : Wh.encsOf x p = (Wh.namesOf p).map (encN x) := rfl
theorem lower_map (l : List UInt8) : Wh.lower l = l.map Wh.small := rfl
/-- Names of one key are one name. -/
theorem ky_inj {x : Wh.Enc} {f : Wh.Feat} (hcs : hasB f 2 = false → x.cs = true) {a b : ByteArray} (h : kyOf f (encN x a) = kyOf f (encN x b)) : a = b := by
  have key : ∀ u : UInt8 → UInt8, Wh.Undone x u → (Wh.encName x a.data.toList).map u = (Wh.encName x b.data.toList).map u → a = b := fun u hu e => by
    have ha := Wh.dec_name hu a.data.toList []
    have hb := Wh.dec_name hu b.data.toList []
    rw [e, hb] at ha
    exact Wh.data_inj (List.append_cancel_right ha).symm
  cases hf : hasB f 2 with
  | true =>
    unfold kyOf at h
    rw [hf, if_pos rfl, if_pos rfl] at h
    refine key id (Wh.undone_id x) ?_
    have := congrArg (fun s : ByteArray => s.data.toList) h
    simpa [encN] using this
  | false =>
    unfold kyOf at h
    rw [hf] at h
    refine key Wh.small (Wh.undone_small x (hcs hf)) ?_
    have := congrArg (fun s : ByteArray => s.data.toList) h
    simpa [encN, lower_map] using this
/-- The keys of a path's encoded names. -/
def keysP (x : Wh.Enc) (f : Wh.Feat) (p : ByteArray) : List ByteArray := (Wh.namesOf p).map (fun n => kyOf f (encN x n))
theorem keysP_length (x : Wh.Enc) (f : Wh.Feat) (p : ByteArray) : (keysP x f p).length = (Wh.namesOf p).length := by simp [keysP]
theorem map_cancel {α β : Type} {g : α → β} (hg : ∀ a b, g a = g b → a = b) : ∀ {l m : List α}, l.map g = m.map g → l = m
  | [], [], _ => rfl
  | [], _ :: _, h => by cases h
  | _ :: _, [], h => by cases h
  | a :: l, b :: m, h => by
    rw [List.map_cons, List.map_cons] at h
    injection h with h1 h2
    rw [hg a b h1, map_cancel hg h2]
theorem keys_take {x : Wh.Enc} {f : Wh.Feat} (hcs : hasB f 2 = false → x.cs = true) {p q : ByteArray} {i j : Nat} (h : (keysP x f p).take i = (keysP x f q).take j) : (Wh.namesOf p).take i = (Wh.namesOf q).take j := by
  unfold keysP at h
  rw [← List.map_take, ← List.map_take] at h
  exact map_cancel (fun a b => ky_inj hcs) h
theorem names_data {p : ByteArray} (h : p.toList.isEmpty = false) : Lib.join ((Wh.namesOf p).map (·.data.toList)) [47] = p.data.toList := by
  rw [Wh.namesOf_some (by rw [← Lib.toList_data]; exact h), Wh.pieces_join]
theorem names_pos {p : ByteArray} (h : p.toList.isEmpty = false) : 0 < (Wh.namesOf p).length := by
  rw [Wh.namesOf_some (by rw [← Lib.toList_data]; exact h)]
  exact Wh.pieces_pos 47 p
theorem names_inj {p q : ByteArray} (hp : p.toList.isEmpty = false) (hq : q.toList.isEmpty = false) (h : Wh.namesOf p = Wh.namesOf q) : p = q :=
  Wh.data_inj (by rw [← names_data hp, ← names_data hq, h])
theorem join_app : ∀ (l m : List (List UInt8)), l ≠ [] → m ≠ [] → Lib.join (l ++ m) [47] = Lib.join l [47] ++ 47 :: Lib.join m [47]
  | [], _, h, _ => absurd rfl h
  | _ :: _, [], _, h => absurd rfl h
  | a :: l, b :: m, _, _ => by
    rw [List.cons_append, Lib.join_cons, Lib.join_cons, Lib.join_cons]
    simp [Lib.joinTail]
/-- One path is a directory of the other. -/
def under (p q : ByteArray) : Bool := (p.data.toList ++ [47]).isPrefixOf q.data.toList
theorem under_of {p q : ByteArray} (hp : p.toList.isEmpty = false) (hq : q.toList.isEmpty = false) {i : Nat} (hi : i < (Wh.namesOf q).length) (h : Wh.namesOf p = (Wh.namesOf q).take i) : under p q = true := by
  have h0 : (Wh.namesOf p) ≠ [] := List.ne_nil_of_length_pos (names_pos hp)
  have h1 := join_app ((Wh.namesOf p).map (·.data.toList)) (((Wh.namesOf q).drop i).map (·.data.toList)) (by simpa using h0) (by
    intro e
    have := congrArg List.length e
    simp at this
    omega)
  rw [← List.map_append, h, List.take_append_drop, names_data hq, ← h, names_data hp] at h1
  unfold under
  rw [List.isPrefixOf_iff_prefix, h1]
  refine ⟨Lib.join (((Wh.namesOf q).drop i).map (·.data.toList)) [47], ?_⟩
  simp
/-- The first names of an encoded path, as a path. -/
def preP (x : Wh.Enc) (p : ByteArray) (j : Nat) : ByteArray := ⟨(Lib.join (((Wh.encsOf x p).take j).map (·.data.toList)) [47]).toArray⟩
structure GoodP (x : Wh.Enc) (p : ByteArray) : Prop where
  path : Wh.isPath p.data.toList = true
  ne : p.toList.isEmpty = false
  enc : Wh.encErrP x p = 0
section
variable {x : Wh.Enc} {p : ByteArray}
theorem GoodP.free (h : GoodP x p) : ∀ e ∈ Wh.encsOf x p, (∀ b ∈ e.data.toList, b ≠ 47) ∧ e.data.toList ≠ [] := by
  intro e he
  rw [encsOf_eq] at he
  obtain ⟨n, hn, rfl⟩ := List.mem_map.1 he
  exact ⟨by simpa [encN] using Wh.encName_slash x (Wh.namesOf_free hn), by simpa [encN] using Wh.encName_pos x (Wh.names_ne h.path hn)⟩
theorem GoodP.pre_names (h : GoodP x p) {j : Nat} (hj : 0 < j) : Wh.namesOf (preP x p j) = (Wh.encsOf x p).take j := by
  have hl : 0 < (Wh.encsOf x p).length := by rw [Wh.encsOf_length]; exact names_pos h.ne
  have hf : ∀ e ∈ (Wh.encsOf x p).take j, (∀ b ∈ e.data.toList, b ≠ 47) ∧ e.data.toList ≠ [] := fun e he => h.free e (List.mem_of_mem_take he)
  have h4 : (preP x p j).data.toList = Lib.join (((Wh.encsOf x p).take j).map (·.data.toList)) [47] := by simp [preP]
  cases he : (Wh.encsOf x p).take j with
  | nil =>
    have := congrArg List.length he
    rw [List.length_take, List.length_nil] at this
    omega
  | cons e r =>
    rw [he] at h4 hf
    refine Wh.namesOf_of_split ?_ ?_
    · rw [h4, List.map_cons, Lib.join_cons]
      have := (hf e (by simp)).2
      simp [this]
    · rw [h4, List.map_cons]
      exact Wh.splitC_join (fun y hy => by
        rw [← List.map_cons (f := fun a : ByteArray => a.data.toList)] at hy
        obtain ⟨u, hu, rfl⟩ := List.mem_map.1 hy
        exact (hf u hu).1)
theorem join_take_le : ∀ (l : List (List UInt8)) (j : Nat), (Lib.join (l.take j) [47]).length ≤ (Lib.join l [47]).length := by
  intro l j
  rcases Nat.lt_or_ge j l.length with h | h
  · rcases Nat.eq_zero_or_pos j with rfl | h0
    · simp [Lib.join]
    · have := join_app (l.take j) (l.drop j) (by intro e; have := congrArg List.length e; rw [List.length_take, List.length_nil] at this; omega) (by intro e; have := congrArg List.length e; rw [List.length_drop, List.length_nil] at this; omega)
      rw [List.take_append_drop] at this
      rw [this]
      simp
  · rw [List.take_of_length_le h]
    exact Nat.le_refl _
theorem GoodP.size (h : GoodP x p) : (Wh.encText x p).size ≤ 1024 := by
  have h1 := h.enc
  unfold Wh.encErrP at h1
  rw [Lib.size_eq, Wh.encText_join h.enc]
  split at h1
  · omega
  · split at h1 <;> omega
theorem GoodP.full (h : GoodP x p) {j : Nat} (hj : (Wh.namesOf p).length ≤ j) : preP x p j = Wh.encText x p := by
  refine Wh.data_inj ?_
  rw [Wh.encText_join h.enc]
  unfold preP
  rw [List.take_of_length_le (by rw [Wh.encsOf_length]; exact hj)]
  simp [Wh.encJoin]
theorem GoodP.names (h : GoodP x p) : Wh.namesOf (Wh.encText x p) = Wh.encsOf x p := by
  rw [← h.full (Nat.le_refl _), h.pre_names (names_pos h.ne), List.take_of_length_le (by rw [Wh.encsOf_length]; exact Nat.le_refl _)]
theorem GoodP.keys (h : GoodP x p) (f : Wh.Feat) : kysOf f (Wh.encText x p) = keysP x f p := by
  unfold kysOf keysP
  rw [h.names, encsOf_eq, List.map_map]
  rfl
theorem GoodP.pre_keys (h : GoodP x p) (f : Wh.Feat) {j : Nat} (hj : 0 < j) : kysOf f (preP x p j) = (keysP x f p).take j := by
  unfold kysOf keysP
  rw [h.pre_names hj, encsOf_eq, ← List.map_take, ← List.map_take, List.map_map]
  rfl
theorem GoodP.pre_size (h : GoodP x p) (j : Nat) : (preP x p j).size ≤ 1024 := by
  have h1 := h.size
  rw [Lib.size_eq, Wh.encText_join h.enc] at h1
  rw [Lib.size_eq]
  have h2 := join_take_le ((Wh.encsOf x p).map (·.data.toList)) j
  rw [← List.map_take] at h2
  have h4 : (preP x p j).data.toList = Lib.join (((Wh.encsOf x p).take j).map (·.data.toList)) [47] := by simp [preP]
  rw [h4]
  exact Nat.le_trans h2 h1
theorem GoodP.pre_path (h : GoodP x p) (hx : Wh.encErr x = 0) {j : Nat} (hj : 0 < j) : Wh.isPath (preP x p j).data.toList = true := by
  have h1 := h.pre_names hj
  have h2 := h.pre_size j
  have h3 : (preP x p j).data.toList.isEmpty = false := by
    cases e : (preP x p j).data.toList.isEmpty with
    | false => rfl
    | true =>
      rw [Wh.namesOf_none e] at h1
      have := congrArg List.length h1
      have h5 := names_pos h.ne
      have h6 := Wh.encsOf_length x p
      rw [List.length_take, List.length_nil] at this
      omega
  rw [Wh.isPath_split h3 h2, ← Wh.namesOf_some h3, h1, List.all_eq_true]
  intro e he
  exact (Wh.permitted_of hx h.path h.enc (List.mem_of_mem_take he)).name
end
end Go.Proofs.YtikegddlbelfaaaGreatDoor
namespace Go.Proofs.YtikegddlbelfaaaGreatDoor
open Go.RowKit

theorem take_same {α : Type} {l : List α} {i j : Nat} (hi : i ≤ l.length) (hj : j ≤ l.length) (h : l.take i = l.take j) : i = j := by
  have := congrArg List.length h
  rw [List.length_take, List.length_take] at this
  omega
/-- The store holds the paths W, each under its encoded path, and no more. -/
structure TopI (x : Wh.Enc) (W : ByteArray → Prop) (s : TSt) : Prop where
  good : ∀ p, W p → GoodP x p
  files : ∀ ks n, s.F ks = some n → n.dir = false → ∃ p, W p ∧ ks = keysP x s.f p ∧ n.data = p ∧ n.mt = .slice none 0 0
  have_ : ∀ p, W p → ∃ n, s.F (keysP x s.f p) = some n ∧ n.dir = false
  dirs : ∀ ks n, s.F ks = some n → n.dir = true → ks = [] ∨ ∃ p i, W p ∧ i + 1 < (Wh.namesOf p).length ∧ ks = (keysP x s.f p).take (i + 1)
  nms : ∀ ks k n, s.F (ks ++ [k]) = some n → ∃ m, n.name = encN x m
section
variable {x : Wh.Enc} {W : ByteArray → Prop} {s s' : TSt} {p : ByteArray} {n : Nd}
/-- Nothing that is there is a directory of the path, nor the path of it. -/
def NoClash (W : ByteArray → Prop) (p : ByteArray) : Prop := ∀ q, W q → under p q = false ∧ under q p = false
theorem TopI.way (h : TopI x W s) (hcs : hasB s.f 2 = false → x.cs = true) (hp : GoodP x p) (hno : NoClash W p) {i : Nat} (hi : i + 1 ≤ (keysP x s.f p).length) (hn : s.F ((keysP x s.f p).take i) = some n) : n.dir = true := by
  cases hd : n.dir with
  | true => rfl
  | false =>
    obtain ⟨q, hq, hk, _⟩ := h.files _ _ hn hd
    have hgq := h.good q hq
    have h1 : (keysP x s.f q).take (Wh.namesOf q).length = (keysP x s.f p).take i := by rw [hk, List.take_of_length_le (by rw [keysP_length]; exact Nat.le_refl _)]
    have h2 := keys_take hcs h1
    rw [List.take_of_length_le (Nat.le_refl _)] at h2
    rw [keysP_length] at hi
    have h3 := under_of hgq.ne hp.ne (by omega) h2
    rw [(hno q hq).2] at h3
    cases h3
theorem TopI.file (h : TopI x W s) (hcs : hasB s.f 2 = false → x.cs = true) (hp : GoodP x p) (hno : NoClash W p) (hn : s.F (keysP x s.f p) = some n) : n.dir = false := by
  cases hd : n.dir with
  | false => rfl
  | true =>
    rcases h.dirs _ _ hn hd with h0 | ⟨q, i, hq, hi, hk⟩
    · have := congrArg List.length h0
      rw [keysP_length, List.length_nil] at this
      have h5 := names_pos hp.ne
      omega
    · have hgq := h.good q hq
      have h1 : (keysP x s.f p).take (Wh.namesOf p).length = (keysP x s.f q).take (i + 1) := by rw [List.take_of_length_le (by rw [keysP_length]; exact Nat.le_refl _)]; exact hk
      have h2 := keys_take hcs h1
      rw [List.take_of_length_le (Nat.le_refl _)] at h2
      have h3 := under_of hp.ne hgq.ne (by omega) h2
      rw [(hno q hq).1] at h3
      cases h3
theorem TopI.put (h : TopI x W s) (hp : GoodP x p) (hf : s'.f = s.f) (hset : SetS s s' (keysP x s.f p) (Wh.encsOf x p) n) (hn : s'.F (keysP x s.f p) = some n) (hd : n.dir = false) (hda : n.data = p) (hmt : n.mt = .slice none 0 0) : TopI x (fun q => q = p ∨ W q) s' := by
  have hpos := names_pos hp.ne
  have hne : keysP x s.f p ≠ [] := by
    intro e
    have := congrArg List.length e
    rw [keysP_length, List.length_nil] at this
    omega
  obtain ⟨m0, hm0, hlast⟩ : ∃ m, (Wh.namesOf p).getLast? = some m ∧ (Wh.encsOf x p).getLast? = some (encN x m) := by
    rw [encsOf_eq, List.getLast?_map]
    cases e : (Wh.namesOf p).getLast? with
    | none =>
      rw [List.getLast?_eq_none_iff] at e
      rw [e] at hpos
      simp at hpos
    | some m => exact ⟨m, rfl, rfl⟩
  rcases hset with ⟨h0, _, hl, _, hold, hnew⟩ | ⟨m, hm, rfl, hnm⟩
  · have hnn : ∀ ls k r, ls ++ [k] = keysP x s.f p → s'.F (ls ++ [k]) = some r → r.name = encN x m0 := fun ls k r e hr => by
      rw [e, hn] at hr
      injection hr with hr
      subst hr
      rw [hlast] at hl
      injection hl with hl
      exact hl.symm
    refine ⟨?_, ?_, ?_, ?_, ?_⟩
    · rintro q (rfl | hq)
      · exact hp
      · exact h.good q hq
    · intro ks r hr hrd
      rw [hf]
      rcases hnew ks r hr with h1 | rfl | ⟨h1, _⟩
      · obtain ⟨q, hq, h2⟩ := h.files ks r h1 hrd
        exact ⟨q, .inr hq, h2⟩
      · rw [hn] at hr
        injection hr with hr
        subst hr
        exact ⟨p, .inl rfl, rfl, hda, hmt⟩
      · rw [h1] at hrd
        cases hrd
    · rw [hf]
      rintro q (rfl | hq)
      · exact ⟨n, hn, hd⟩
      · obtain ⟨r, hr, hrd⟩ := h.have_ q hq
        exact ⟨r, hold _ _ hr, hrd⟩
    · intro ks r hr hrd
      rw [hf]
      rcases hnew ks r hr with h1 | rfl | ⟨_, i, hi, h1, _⟩
      · rcases h.dirs ks r h1 hrd with h2 | ⟨q, i, hq, h2⟩
        · exact .inl h2
        · exact .inr ⟨q, i, .inr hq, h2⟩
      · rw [hn] at hr
        injection hr with hr
        subst hr
        rw [hd] at hrd
        cases hrd
      · exact .inr ⟨p, i, .inl rfl, by rw [keysP_length] at hi; exact hi, h1⟩
    · intro ks k r hr
      rcases hnew _ r hr with h1 | h1 | ⟨_, i, hi, _, h1⟩
      · exact h.nms ks k r h1
      · exact ⟨m0, hnn ks k r h1 hr⟩
      · rw [encsOf_eq, List.getElem?_map] at h1
        cases e : (Wh.namesOf p)[i]? with
        | none => rw [e] at h1; cases h1
        | some m =>
          rw [e] at h1
          injection h1 with h1
          exact ⟨m, h1.symm⟩
  · dsimp only at hf hn
    refine ⟨?_, ?_, ?_, ?_, ?_⟩
    · rintro q (rfl | hq)
      · exact hp
      · exact h.good q hq
    · intro ks r hr hrd
      dsimp only at hr ⊢
      by_cases e : ks = keysP x s.f p
      · rw [e, Tr.put_same] at hr
        injection hr with hr
        subst hr
        exact ⟨p, .inl rfl, e, hda, hmt⟩
      · rw [Tr.put_other _ _ e] at hr
        obtain ⟨q, hq, h2⟩ := h.files ks r hr hrd
        exact ⟨q, .inr hq, h2⟩
    · intro q hq
      dsimp only
      by_cases e : keysP x s.f q = keysP x s.f p
      · exact ⟨n, by rw [e]; exact Tr.put_same _ _ _, hd⟩
      · rw [Tr.put_other _ _ e]
        rcases hq with rfl | hq
        · exact absurd rfl e
        · exact h.have_ q hq
    · intro ks r hr hrd
      dsimp only at hr ⊢
      by_cases e : ks = keysP x s.f p
      · rw [e, Tr.put_same] at hr
        injection hr with hr
        subst hr
        rw [hd] at hrd
        cases hrd
      · rw [Tr.put_other _ _ e] at hr
        rcases h.dirs ks r hr hrd with h2 | ⟨q, i, hq, h2⟩
        · exact .inl h2
        · exact .inr ⟨q, i, .inr hq, h2⟩
    · intro ks k r hr
      dsimp only at hr
      by_cases e : ks ++ [k] = keysP x s.f p
      · rw [e, Tr.put_same] at hr
        injection hr with hr
        subst hr
        rw [← e] at hm
        obtain ⟨m1, h1⟩ := h.nms ks k m hm
        exact ⟨m1, hnm.trans h1⟩
      · rw [Tr.put_other _ _ e] at hr
        exact h.nms ks k r hr
/-- Where each node lies. -/
theorem TopI.spot (h : TopI x W s) {ks : List ByteArray} (hn : s.F ks = some n) (h0 : ks ≠ []) : ∃ p j, W p ∧ 0 < j ∧ j ≤ (Wh.namesOf p).length ∧ ks = (keysP x s.f p).take j ∧ (n.dir = false → j = (Wh.namesOf p).length ∧ n.data = p) := by
  cases hd : n.dir with
  | false =>
    obtain ⟨p, hp, h1, h2, _⟩ := h.files ks n hn hd
    exact ⟨p, (Wh.namesOf p).length, hp, names_pos (h.good p hp).ne, Nat.le_refl _, by rw [List.take_of_length_le (by rw [keysP_length]; exact Nat.le_refl _)]; exact h1, fun _ => ⟨rfl, h2⟩⟩
  | true =>
    rcases h.dirs ks n hn hd with h1 | ⟨p, i, hp, hi, h1⟩
    · exact absurd h1 h0
    · exact ⟨p, i + 1, hp, Nat.succ_pos i, by omega, h1, fun e => by cases e⟩
/-- How a node is written. -/
theorem TopI.name (h : TopI x W s) (hcs : hasB s.f 2 = false → x.cs = true) {w : World} {B rb : Nat} (hT : TreeAt w B rb (kyOf s.f) s.F) {j : Nat} {m : ByteArray} (hm : (Wh.namesOf p)[j]? = some m) (hn : s.F ((keysP x s.f p).take (j + 1)) = some n) : n.name = encN x m := by
  have hk : (keysP x s.f p)[j]? = some (kyOf s.f (encN x m)) := by
    unfold keysP
    rw [List.getElem?_map, hm]
    rfl
  have hl := (List.getElem?_eq_some_iff.1 hk)
  obtain ⟨hl1, hl2⟩ := hl
  have e : (keysP x s.f p).take (j + 1) = (keysP x s.f p).take j ++ [kyOf s.f (encN x m)] := by
    rw [List.take_add_one, hk]
    rfl
  rw [e] at hn
  obtain ⟨m1, h1⟩ := h.nms _ _ n hn
  have h2 := (hT.dirs _ _ n hn).2.1
  rw [h1] at h2
  rw [h1, ky_inj hcs h2]
theorem TopI.pathIs (h : TopI x W s) (hcs : hasB s.f 2 = false → x.cs = true) {w : World} {B rb : Nat} (hT : TreeAt w B rb (kyOf s.f) s.F) (hp : GoodP x p) : ∀ (j : Nat), j < (Wh.namesOf p).length → ∀ n, s.F ((keysP x s.f p).take (j + 1)) = some n → Go.Proofs.YtikegddlbelfaaaGreatDoor.pathR s.F ((keysP x s.f p).take (j + 1)).reverse = preP x p (j + 1)
  | 0, hj, n, hn => by
    obtain ⟨m, hm⟩ : ∃ m, (Wh.namesOf p)[0]? = some m := ⟨_, List.getElem?_eq_getElem hj⟩
    have h1 := h.name hcs hT hm hn
    cases hl : Wh.namesOf p with
    | nil => rw [hl] at hj; simp at hj
    | cons a r =>
      have e1 : (keysP x s.f p).take 1 = [kyOf s.f (encN x a)] := by unfold keysP; rw [hl]; rfl
      rw [Nat.zero_add, e1] at hn ⊢
      rw [hl] at hm
      simp at hm
      subst hm
      show nmAt s.F [kyOf s.f (encN x a)] = _
      unfold nmAt
      rw [hn]
      show n.name = _
      rw [h1]
      unfold preP
      rw [encsOf_eq, hl]
      simp [Lib.join_cons, Lib.joinTail, encN]
  | j + 1, hj, n, hn => by
    obtain ⟨m, hm⟩ : ∃ m, (Wh.namesOf p)[j + 1]? = some m := ⟨_, List.getElem?_eq_getElem hj⟩
    have h1 := h.name hcs hT hm hn
    have hk : (keysP x s.f p)[j + 1]? = some (kyOf s.f (encN x m)) := by
      unfold keysP
      rw [List.getElem?_map, hm]
      rfl
    have e : (keysP x s.f p).take (j + 1 + 1) = (keysP x s.f p).take (j + 1) ++ [kyOf s.f (encN x m)] := by
      rw [List.take_add_one, hk]
      rfl
    have hup : ∃ n', s.F ((keysP x s.f p).take (j + 1)) = some n' := by
      rw [e] at hn
      obtain ⟨⟨q, hq, _⟩, _⟩ := hT.dirs _ _ n hn
      exact ⟨q, hq⟩
    obtain ⟨n', hn'⟩ := hup
    have ih := TopI.pathIs h hcs hT hp j (by omega) n' hn'
    have hnm : nmAt s.F ((keysP x s.f p).take (j + 1 + 1)) = encN x m := by
      unfold nmAt
      rw [hn]
      exact h1
    rw [e, List.reverse_append, List.reverse_singleton, List.singleton_append]
    have hr : ∃ y r, ((keysP x s.f p).take (j + 1)).reverse = y :: r := by
      cases er : ((keysP x s.f p).take (j + 1)).reverse with
      | nil =>
        have := congrArg List.length er
        rw [List.length_reverse, List.length_take, keysP_length, List.length_nil] at this
        omega
      | cons y r => exact ⟨y, r, rfl⟩
    obtain ⟨y, r, hyr⟩ := hr
    rw [hyr] at ih ⊢
    show Go.Proofs.YtikegddlbelfaaaGreatDoor.pathR s.F (y :: r) ++ ⟨#[47]⟩ ++ nmAt s.F (kyOf s.f (encN x m) :: y :: r).reverse = _
    rw [ih, List.reverse_cons, ← hyr, List.reverse_reverse, ← e, hnm]
    refine Wh.data_inj ?_
    have e2 : (Wh.encsOf x p).take (j + 1 + 1) = (Wh.encsOf x p).take (j + 1) ++ [encN x m] := by
      rw [List.take_add_one, encsOf_eq, List.getElem?_map, hm]
      rfl
    have e3 : (preP x p (j + 1 + 1)).data.toList = Lib.join (((Wh.encsOf x p).take (j + 1 + 1)).map (·.data.toList)) [47] := by simp [preP]
    have e4 : (preP x p (j + 1)).data.toList = Lib.join (((Wh.encsOf x p).take (j + 1)).map (·.data.toList)) [47] := by simp [preP]
    rw [e3, e2, List.map_append, join_app _ _ (by
      intro e9
      have := congrArg List.length e9
      rw [List.length_map, List.length_take, Wh.encsOf_length, List.length_nil] at this
      omega) (by simp), ← e4]
    simp [Lib.join_cons, Lib.joinTail]
end
end Go.Proofs.YtikegddlbelfaaaGreatDoor
namespace Go.Proofs.YtikegddlbelfaaaGreatDoor
open Go.RowKit

/-- Each node's way of writing leads back to it. -/
structure Named (s : TSt) : Prop where
  keys : ∀ ks n, s.F ks = some n → ks ≠ [] → kysOf s.f (pathR s.F ks.reverse) = ks
  path : ∀ ks n, s.F ks = some n → ks ≠ [] → Wh.isPath (pathR s.F ks.reverse).data.toList = true
  last : ∀ ks n, s.F ks = some n → ks ≠ [] → (Wh.namesOf (pathR s.F ks.reverse)).getLast? = some n.name
  ne : ∀ ks n, s.F ks = some n → ks ≠ [] → n.name.data.toList ≠ []
  mt : ∀ ks n, s.F ks = some n → n.dir = false → n.mt = .slice none 0 0 ∧ n.data.size ≤ 1024
section
variable {x : Wh.Enc} {W : ByteArray → Prop} {s : TSt} {p : ByteArray} {n : Nd}
theorem TopI.pre (h : TopI x W s) (hcs : hasB s.f 2 = false → x.cs = true) {w : World} {B rb : Nat} (hT : TreeAt w B rb (kyOf s.f) s.F) {ks : List ByteArray} (hn : s.F ks = some n) (h0 : ks ≠ []) : ∃ p j, W p ∧ 0 < j ∧ j ≤ (Wh.namesOf p).length ∧ ks = (keysP x s.f p).take j ∧ pathR s.F ks.reverse = preP x p j ∧ (n.dir = false → j = (Wh.namesOf p).length ∧ n.data = p) ∧ ∃ m, (Wh.namesOf p)[j - 1]? = some m ∧ n.name = encN x m := by
  obtain ⟨p, j, h1, h2, h3, h4, h5⟩ := h.spot hn h0
  obtain ⟨i, rfl⟩ : ∃ i, j = i + 1 := ⟨j - 1, by omega⟩
  have hm : (Wh.namesOf p)[i]? = some (Wh.namesOf p)[i] := List.getElem?_eq_getElem (by omega)
  rw [h4] at hn
  exact ⟨p, i + 1, h1, h2, h3, h4, by rw [h4]; exact h.pathIs hcs hT (h.good p h1) i (by omega) n hn, h5, _, hm, h.name hcs hT hm hn⟩
theorem TopI.named (h : TopI x W s) (hx : Wh.encErr x = 0) (hcs : hasB s.f 2 = false → x.cs = true) {w : World} {B rb : Nat} (hT : TreeAt w B rb (kyOf s.f) s.F) : Named s := by
  refine ⟨?_, ?_, ?_, ?_, ?_⟩
  · intro ks n hn h0
    obtain ⟨p, j, h1, h2, h3, h4, h5, _⟩ := h.pre hcs hT hn h0
    rw [h5, (h.good p h1).pre_keys s.f h2, h4]
  · intro ks n hn h0
    obtain ⟨p, j, h1, h2, h3, h4, h5, _⟩ := h.pre hcs hT hn h0
    rw [h5]
    exact (h.good p h1).pre_path hx h2
  · intro ks n hn h0
    obtain ⟨p, j, h1, h2, h3, h4, h5, _, m, h6, h7⟩ := h.pre hcs hT hn h0
    have hl : j ≤ (Wh.encsOf x p).length := by rw [Wh.encsOf_length]; exact h3
    rw [h5, (h.good p h1).pre_names h2, List.getLast?_eq_getElem?, List.length_take, Nat.min_eq_left hl, List.getElem?_take_of_lt (by omega), encsOf_eq, List.getElem?_map, h6, h7]
    rfl
  · intro ks n hn h0
    obtain ⟨p, j, h1, h2, h3, h4, h5, _, m, h6, h7⟩ := h.pre hcs hT hn h0
    have hin : encN x m ∈ Wh.encsOf x p := by rw [encsOf_eq]; exact List.mem_map_of_mem (List.mem_of_getElem? h6)
    rw [h7]
    exact ((h.good p h1).free _ hin).2
  · intro ks n hn hd
    obtain ⟨p, hp, _, h1, h2⟩ := h.files ks n hn hd
    exact ⟨h2, by rw [h1]; exact Wh.path_size (h.good p hp).path⟩
/-- No more nodes than that, beside the root. -/
def AtMost (F : Tr) (N : Nat) : Prop := ∀ l : List (List ByteArray), l.Nodup → (∀ ks ∈ l, ks ≠ [] ∧ ∃ n, F ks = some n) → l.length ≤ N
theorem nodup_le {α : Type} [DecidableEq α] : ∀ (l m : List α), l.Nodup → (∀ a ∈ l, a ∈ m) → l.length ≤ m.length
  | [], _, _, _ => Nat.zero_le _
  | a :: l, m, hn, h => by
    have ha := h a (by simp)
    rw [List.nodup_cons] at hn
    have := nodup_le l (m.erase a) hn.2 (fun b hb => by
      have hne : b ≠ a := fun e => hn.1 (e ▸ hb)
      exact (List.mem_erase_of_ne hne).2 (h b (by simp [hb])))
    have h2 := List.length_erase_of_mem ha
    have h3 : 0 < m.length := List.length_pos_of_mem ha
    simp only [List.length_cons]
    omega
def spots (x : Wh.Enc) (f : Wh.Feat) (p : ByteArray) : List (List ByteArray) := (List.range (Wh.namesOf p).length).map (fun i => (keysP x f p).take (i + 1))
theorem TopI.most {Wl : List ByteArray} (h : TopI x (fun q => q ∈ Wl) s) : AtMost s.F ((Wl.map (fun p => (Wh.namesOf p).length)).sum) := by
  intro l hl hm
  have e : (Wl.map (fun p => (Wh.namesOf p).length)).sum = (Wl.flatMap (spots x s.f)).length := by
    rw [List.length_flatMap]
    congr 1
    apply List.map_congr_left
    intro p _
    simp [spots]
  rw [e]
  refine nodup_le l _ hl (fun ks hk => ?_)
  obtain ⟨h0, n, hn⟩ := hm ks hk
  obtain ⟨p, j, h1, h2, h3, h4, _⟩ := h.spot hn h0
  exact List.mem_flatMap.2 ⟨p, h1, List.mem_map.2 ⟨j - 1, List.mem_range.2 (by omega), by rw [h4]; congr 1; omega⟩⟩
theorem klen_reverse (ks : List ByteArray) : klen ks.reverse = klen ks := by
  unfold klen
  rw [List.map_reverse, List.sum_reverse]
theorem klen_names (f : Wh.Feat) : ∀ ls : List ByteArray, ls ≠ [] → klen (ls.map (kyOf f)) = (Lib.join (ls.map (·.data.toList)) [47]).length + 1
  | [], h => absurd rfl h
  | [a], _ => by
    unfold klen
    rw [List.map_cons, List.map_nil, List.map_cons, List.map_nil, List.map_cons, List.map_nil, List.sum_cons, List.sum_nil, Lib.join_cons, kyOf_size, Lib.size_eq]
    simp [Lib.joinTail]
  | a :: b :: r, _ => by
    have := klen_names f (b :: r) (by simp)
    have h2 := join_app [a.data.toList] ((b :: r).map (·.data.toList)) (by simp) (by simp)
    have h3 : (a :: b :: r).map (·.data.toList) = [a.data.toList] ++ (b :: r).map (·.data.toList) := rfl
    have h4 : klen ((a :: b :: r).map (kyOf f)) = (kyOf f a).size + 1 + klen ((b :: r).map (kyOf f)) := rfl
    have h5 : Lib.join [a.data.toList] [47] = a.data.toList := by simp [Lib.join_cons, Lib.joinTail]
    rw [h3, h2, List.length_append, List.length_cons, h4, this, h5, kyOf_size, Lib.size_eq]
    omega
theorem GoodP.klen (h : GoodP x p) (f : Wh.Feat) : Go.Proofs.YtikegddlbelfaaaGreatDoor.klen (keysP x f p).reverse ≤ 4096 := by
  have h1 := h.size
  rw [Lib.size_eq, Wh.encText_join h.enc] at h1
  have e : keysP x f p = (Wh.encsOf x p).map (kyOf f) := by
    rw [encsOf_eq, List.map_map]
    rfl
  have hpos := names_pos h.ne
  rw [klen_reverse, e, klen_names f _ (by
    intro e9
    have := congrArg List.length e9
    rw [Wh.encsOf_length, List.length_nil] at this
    omega)]
  unfold Wh.encJoin at h1
  omega
/-- A Put is not refused. -/
theorem TopI.putz (h : TopI x W s) (hcs : hasB s.f 2 = false → x.cs = true) (hp : GoodP x p) (hno : NoClash W p) (h1 : hasB s.f 1 = false) (hms : 1024 ≤ s.f.maxSize) (hcnt : s.cnt + (Wh.namesOf p).length ≤ 5000) (z : Int) (hz : PutZ s.f s.F (keysP x s.f p) s.cnt p.size [] z) : z = 0 := by
  obtain ⟨i, nd, hw, hz⟩ := hz
  obtain ⟨hw1, hw2, hw3⟩ := hw
  have hd := h.way hcs hp hno hw1 hw2
  have hpl : placeZ s.f s.F (keysP x s.f p) i nd = 0 := by
    unfold placeZ
    rw [if_neg (by rw [hd]; decide), if_neg, if_neg (by rw [h1]; simp)]
    intro e
    cases hF : s.F (keysP x s.f p) with
    | none => rw [hF] at e; cases e
    | some m =>
      rw [hF] at e
      have := h.file hcs hp hno hF
      simp at e
      rw [this] at e
      cases e
  have hps := Wh.path_size hp.path
  have hl := keysP_length x s.f p
  rcases hz with ⟨e, _⟩ | ⟨_, ⟨_, e⟩ | ⟨_, e⟩ | ⟨_, _, fr, hfr, e⟩⟩
  · exact absurd hpl e
  · exact absurd rfl e
  · omega
  · rw [e, if_neg]
    rcases hfr with ⟨_, rfl⟩ | ⟨_, i2, n2, hw2, rfl⟩
    · omega
    · have := hw2.1
      omega
end
end Go.Proofs.YtikegddlbelfaaaGreatDoor
