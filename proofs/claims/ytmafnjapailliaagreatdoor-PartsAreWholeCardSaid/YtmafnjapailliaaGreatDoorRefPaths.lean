/-
  The reference's names and paths; slices.ContainsFunc over strings; names.check; the laws' pathError.
-/
import Derived.Test.YtmafnjapailliaaGreatDoorPaths
namespace Go.Proofs.YtmafnjapailliaaGreatDoor
open Go.RowKit

set_option maxHeartbeats 1000000 in
theorem refIsName_any (s : ByteArray) (w : World) (hs : s.size ≤ 9223372036854775807) :
    Calls Tryz.prog 330 #[.string s] w fun e w' => e = .returned (.bool (Wh.isName s.data.toList)) ∧ Below w.heap.size w w' := by
  cases h0 : s.toList.isEmpty
  case true =>
    go_enter Tryz.func330, Tryz.ntmps330
    go_wp2_with fail
    go_ret
    exact ⟨ret_bool (by rw [Lib.toList_data] at h0; simp [Wh.isName, h0]), Below.refl _ _⟩
  by_cases h1 : (s.size : Int) ≤ 255
  case neg =>
    go_enter Tryz.func330, Tryz.ntmps330
    go_wp2_with fail
    go_ret
    exact ⟨ret_bool (by rw [Wh.isName_long (by rw [← Lib.size_eq]; omega)]), Below.refl _ _⟩
  have hn := Wh.isName_mid (l := s.data.toList) (by rw [← Lib.toList_data]; exact h0) (by rw [← Lib.size_eq]; omega)
  have HN := Lib.hid hn
  clear hn
  cases hc : Lib.containsAny s.data.toList [0, 47]
  · go_enter Tryz.func330, Tryz.ntmps330
    go_wp2_with (go_at_call 120; refine (containsAny_any s ⟨#[0, 47]⟩ _ (by omega) (by decide) (by decide)).mono ?_; rw [show (⟨#[0, 47]⟩ : ByteArray).data.toList = [0, 47] from rfl, hc]; rintro e w' ⟨rfl, hb⟩)
    all_goals go_ret
    all_goals refine ⟨ret_bool ?_, by first | exact Below.refl _ _ | assumption⟩
    all_goals rw [HN.out, hc]
    all_goals simp_all [Lib.toList_data]
    rfl
  · go_enter Tryz.func330, Tryz.ntmps330
    go_wp2_with (go_at_call 120; refine (containsAny_any s ⟨#[0, 47]⟩ _ (by omega) (by decide) (by decide)).mono ?_; rw [show (⟨#[0, 47]⟩ : ByteArray).data.toList = [0, 47] from rfl, hc]; rintro e w' ⟨rfl, hb⟩)
    all_goals go_ret
    all_goals refine ⟨ret_bool ?_, by first | exact Below.refl _ _ | assumption⟩
    all_goals rw [HN.out, hc]
    all_goals simp

/-- A function value that answers a predicate of strings, in every later world. -/
def PredS (F : FuncId) (p : ByteArray → Bool) (xs : List ByteArray) (w : World) : Prop :=
  ∀ x ∈ xs, ∀ W, Below w.heap.size w W → Calls Tryz.prog F #[.string x] W fun e w' => e = .returned (.bool (p x)) ∧ Below W.heap.size W w'

/-- The place of the first element that a predicate takes. -/
def idxBy (p : ByteArray → Bool) (xs : List ByteArray) : Int := match xs.findIdx? p with
  | some i => i
  | none => -1

theorem idxBy_pos (p : ByteArray → Bool) (xs : List ByteArray) : decide (0 ≤ idxBy p xs) = xs.any p := by
  unfold idxBy
  cases h : xs.findIdx? p with
  | none =>
    rw [List.findIdx?_eq_none_iff] at h
    have : xs.any p = false := by rw [List.any_eq_false]; intro x hx; simp [h x hx]
    simp [this]
  | some i =>
    obtain ⟨hi, hp, _⟩ := List.findIdx?_eq_some_iff_getElem.1 h
    have : xs.any p = true := List.any_eq_true.2 ⟨xs[i], List.getElem_mem hi, hp⟩
    simp [this]

set_option maxHeartbeats 1000000 in
theorem indexFunc_str (F : FuncId) (p : ByteArray → Bool) (a : Option Addr) (c : Nat) (xs : List ByteArray) (w : World) (hen : ∀ args w, (callFunc F args).run Tryz.prog w = .ok (.enter F args) w)
    (hl : xs.length ≤ 9223372036854775807) (hH : Holds w a (xs.map Value.string)) (hp : PredS F p xs w) :
    Calls Tryz.prog 23 #[.slice a xs.length c, .func (.func F) #[] #[]] w fun e w' => e = .returned (.int .i64 (idxBy p xs)) ∧ Below w.heap.size w w' := by
  have HH := Lib.hid hH
  have HP := Lib.hid hp
  clear hH hp
  go_enter Tryz.func23, Tryz.ntmps23
  go_wp2_with fail
  go_loopg [8] xs.length (fun g i wx => ∃ k : Nat, k + g = xs.length ∧ i = .int .i64 k ∧ Below w.heap.size w wx ∧ Hid (∀ (j : Nat) x, j < k → xs[j]? = some x → p x = false))
  case atStart => exact ⟨0, by omega, rfl, Below.refl _ _, Lib.hid (fun j x h => absurd h (Nat.not_lt_zero _))⟩
  case round =>
    obtain ⟨k, hk, rfl, hb, HN⟩ := hrel
    by_cases hlt : k < xs.length
    · obtain ⟨g, rfl⟩ : ∃ g, gk = g + 1 := ⟨gk - 1, by omega⟩
      obtain ⟨x, hx⟩ : ∃ x, xs[k]? = some x := ⟨_, List.getElem?_eq_getElem hlt⟩
      obtain ⟨ba, off, ha, hba, hca⟩ := (HH.out.under hb).at (k := k) (u := .string x) (by simp [hx])
      have Hx := Lib.hid hx
      clear hx
      subst ha
      have HC := Lib.hid (HP.out x (List.mem_of_getElem? Hx.out) wr hb)
      cases hpx : p x
      · rw [hpx] at HC
        go_wp2_with fail
        refine HC.out.mono ?_
        rintro e w' ⟨rfl, hb2⟩
        go_wp2_with fail
        go_roundg g
        case measure => omega
        case rel =>
          refine ⟨k + 1, by omega, by go_num, bTrans hb hb2, Lib.hid (fun j y hj hy => ?_)⟩
          rcases Nat.lt_or_ge j k with h | h
          · exact HN.out j y h hy
          · obtain rfl : j = k := by omega
            rw [Hx.out] at hy
            cases hy
            exact hpx
      · rw [hpx] at HC
        go_wp2_with fail
        refine HC.out.mono ?_
        rintro e w' ⟨rfl, hb2⟩
        go_wp2_with fail
        go_ret
        refine ⟨ret_int ?_, bTrans hb hb2⟩
        have : xs.findIdx? p = some k := by
          rw [List.findIdx?_eq_some_iff_getElem]
          refine ⟨hlt, ?_, fun j hj => ?_⟩
          · have := (List.getElem?_eq_some_iff.1 Hx.out).2
            rw [this]; exact hpx
          · have := HN.out j (xs[j]'(by omega)) hj (List.getElem?_eq_getElem _)
            simp [this]
        simp [idxBy, this]
    · go_wp2_with fail
      go_ret
      refine ⟨ret_int ?_, hb⟩
      have : xs.findIdx? p = none := by
        rw [List.findIdx?_eq_none_iff]
        intro x hx
        obtain ⟨j, hj⟩ := List.getElem?_of_mem hx
        have hjl := (List.getElem?_eq_some_iff.1 hj).1
        exact HN.out j x (by omega) hj
      simp [idxBy, this]

set_option maxHeartbeats 1000000 in
theorem containsFunc_str (F : FuncId) (p : ByteArray → Bool) (a : Option Addr) (c : Nat) (xs : List ByteArray) (w : World) (hen : ∀ args w, (callFunc F args).run Tryz.prog w = .ok (.enter F args) w)
    (hl : xs.length ≤ 9223372036854775807) (hH : Holds w a (xs.map Value.string)) (hp : PredS F p xs w) :
    Calls Tryz.prog 7 #[.slice a xs.length c, .func (.func F) #[] #[]] w fun e w' => e = .returned (.bool (xs.any p)) ∧ Below w.heap.size w w' := by
  have H := Lib.hid (indexFunc_str F p a c xs w hen hl hH hp)
  clear hH hp
  go_enter Tryz.func7, Tryz.ntmps7
  go_wp2_with (go_at_call 23; refine H.out.mono ?_; rintro e w' ⟨rfl, hb⟩)
  go_ret
  exact ⟨ret_bool (idxBy_pos p xs), hb⟩

theorem enters_isPath1 : ∀ args w, (callFunc 329 args).run Tryz.prog w = .ok (.enter 329 args) w := enters_of Tryz.func329 (by kernel_rfl) rfl
set_option maxHeartbeats 1000000 in
theorem isPath1_any (s : ByteArray) (w : World) (hs : s.size ≤ 9223372036854775807) :
    Calls Tryz.prog 329 #[.string s] w fun e w' => e = .returned (.bool (!Wh.isName s.data.toList)) ∧ Below w.heap.size w w' := by
  go_enter Tryz.func329, Tryz.ntmps329
  go_wp2_with (go_at_call 330; refine (refIsName_any s _ hs).mono ?_; rintro e w' ⟨rfl, hb⟩)
  go_ret
  exact ⟨rfl, hb⟩

theorem holds_new (w : World) (t : TypeId) (xs : List ByteArray) : Holds (w.alloc (.cells (xs.map Value.string).toArray t)) (some ⟨w.heap.size, 0, none⟩) (xs.map Value.string) := by
  refine .inr ⟨w.heap.size, 0, rfl, by simp, fun j u hu => ?_⟩
  rw [List.getElem?_map] at hu
  cases hj : xs[j]? with
  | none => rw [hj] at hu; simp at hu
  | some x =>
    rw [hj] at hu
    simp at hu
    subst hu
    rw [Nat.zero_add]
    exact cell_of_new w t xs j x hj

set_option maxHeartbeats 1000000 in
theorem refIsPath_any (s : ByteArray) (w : World) (hE : Env w) (hs : s.size ≤ 9223372036854775807) :
    Calls Tryz.prog 309 #[.string s] w fun e w' => e = .returned (.bool (Wh.isPath s.data.toList)) ∧ Below w.heap.size w w' := by
  have HE := Lib.hid hE
  clear hE
  cases h0 : s.toList.isEmpty
  case true =>
    go_enter Tryz.func309, Tryz.ntmps309
    go_wp2_with fail
    go_ret
    exact ⟨ret_bool (by rw [Lib.toList_data] at h0; simp [Wh.isPath, h0]), Below.refl _ _⟩
  by_cases h1 : (s.size : Int) ≤ 1024
  case neg =>
    go_enter Tryz.func309, Tryz.ntmps309
    go_wp2_with fail
    go_ret
    exact ⟨ret_bool (by rw [Wh.isPath_long (by rw [← Lib.toList_data]; exact h0) (by rw [← Lib.size_eq]; omega)]), Below.refl _ _⟩
  have hP := Lib.hid (Wh.isPath_split (s := s) (by rw [← Lib.toList_data]; exact h0) (by omega))
  have hpl := Wh.pieces_le 47 s
  have HZ := Lib.hid (fun x (hx : x ∈ Wh.pieces 47 s) => Wh.pieces_size hx)
  go_enter Tryz.func309, Tryz.ntmps309
  go_wp2_with fail
  refine (split_one 47 s _ HE.out (by omega)).mono ?_
  rintro e w' ⟨rfl, rfl⟩
  generalize Wh.pieces 47 s = xs at *
  have HH := Lib.hid (holds_new w 9 xs)
  have hb1 : Below w.heap.size w (w.alloc (.cells (xs.map Value.string).toArray 9)) := bAlloc (Below.refl _ _) _
  generalize w.alloc (.cells (xs.map Value.string).toArray 9) = w1 at *
  have HP : Hid (PredS 329 (fun x => !Wh.isName x.data.toList) xs w1) := Lib.hid (fun x hx W _ => isPath1_any x W (by have := HZ.out x hx; omega))
  go_wp2_with fail
  refine (containsFunc_str 329 _ _ _ xs _ enters_isPath1 (by omega) HH.out HP.out).mono ?_
  rintro e w' ⟨rfl, hb2⟩
  go_wp2_with fail
  go_ret
  refine ⟨ret_bool ?_, bTrans hb1 hb2⟩
  rw [hP.out, List.not_any_eq_all_not]
  simp

end Go.Proofs.YtmafnjapailliaaGreatDoor
