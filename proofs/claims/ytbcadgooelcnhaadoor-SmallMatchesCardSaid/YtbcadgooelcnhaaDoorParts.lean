/-
  strings.Join; names.split, Parts, Join, Above.
-/
import Derived.Test.YtbcadgooelcnhaaDoorRefPaths
namespace Go.Proofs.YtbcadgooelcnhaaDoor
open Go.RowKit

theorem map_string_at {xs : List ByteArray} {k : Nat} {x : ByteArray} (h : xs[k]? = some x) : (xs.map Value.string)[k]? = some (.string x) := by simp [h]

/-- strings.Join of a slice that holds texts. -/
theorem join_any (a : Option Addr) (c : Nat) (xs : List ByteArray) (sep : ByteArray) (w : World) (hH : Holds w a (xs.map Value.string)) (hc : xs.length ≤ c) (hN : xs.length ≤ 140737488355328)
    (hlen : (Lib.join (xs.map (·.data.toList)) sep.data.toList).length ≤ 140737488355328) :
    Calls Tryd.prog 38 #[.slice a xs.length c, .string sep] w fun e w' => e = .returned (.string ⟨(Lib.join (xs.map (·.data.toList)) sep.data.toList).toArray⟩) ∧ Below w.heap.size w w' := by
  rcases hH with h | ⟨b, off, rfl, hb, hcell⟩
  · obtain rfl : xs = [] := by simpa using h
    refine (Tryd.strings_Join_none a c sep w).mono ?_
    rintro e w' ⟨rfl, rfl⟩
    exact ⟨rfl, Below.refl _ _⟩
  · exact Tryd.strings_Join b off c xs sep w (fun j x hj => hcell j _ (map_string_at hj)) hb hN hc hlen

/-- A slice of texts comes back. -/
def StrsPost (xs : List ByteArray) (w : World) (e : Ending) (w' : World) : Prop :=
  ∃ a c, e = .returned (.slice a xs.length c) ∧ xs.length ≤ c ∧ Holds w' a (xs.map Value.string) ∧ Below w.heap.size w w'

set_option maxHeartbeats 1000000 in
theorem split_any (s : ByteArray) (w : World) (hE : Env w) (hs : s.size < 4294967281) :
    Calls Tryd.prog 85 #[.string s] w (StrsPost (Wh.namesOf s) w) := by
  have HE := Lib.hid hE
  clear hE
  cases h0 : s.toList.isEmpty
  · have e1 : Wh.namesOf s = Wh.pieces 47 s := Wh.namesOf_some (by rw [← Lib.toList_data]; exact h0)
    rw [e1]
    clear e1
    go_enter Tryd.func85, Tryd.ntmps85
    go_wp2_with fail
    refine (split_one 47 s _ HE.out hs).mono ?_
    rintro e w' ⟨rfl, rfl⟩
    have hh := Lib.hid (holds_new w 9 (Wh.pieces 47 s))
    go_wp2_with fail
    go_ret
    exact ⟨_, _, rfl, Nat.le_refl _, hh.out, bAlloc (Below.refl _ _) _⟩
  · have e1 : Wh.namesOf s = [] := Wh.namesOf_none (by rw [← Lib.toList_data]; exact h0)
    rw [e1]
    clear e1
    go_enter Tryd.func85, Tryd.ntmps85
    go_wp2_with fail
    go_ret
    exact ⟨none, 0, rfl, Nat.le_refl _, .inl rfl, Below.refl _ _⟩

/-- A slice of texts comes back, and no error. -/
def PartsPost (xs : List ByteArray) (w : World) (e : Ending) (w' : World) : Prop :=
  ∃ a c, e = .returned (.tuple #[.slice a xs.length c, .int .i64 0]) ∧ xs.length ≤ c ∧ Holds w' a (xs.map Value.string) ∧ Below w.heap.size w w'

set_option maxHeartbeats 1000000 in
theorem parts_good (s : ByteArray) (w : World) (hE : Env w) (hs : s.size ≤ 1024) (hp : Wh.pathErr s.data.toList = 0) :
    Calls Tryd.prog 45 #[.string s] w (PartsPost (Wh.namesOf s) w) := by
  have HC := check_any s w hE (by omega)
  rw [hp] at HC
  have HC := Lib.hid HC
  have HE := Lib.hid hE
  clear hE hp
  go_enter Tryd.func45, Tryd.ntmps45
  go_wp2_with fail
  refine HC.out.mono ?_
  rintro e w1 ⟨rfl, hb1⟩
  go_wp2_with fail
  refine (split_any s _ (HE.out.under hb1) (by omega)).mono ?_
  rintro e w2 ⟨a, c, rfl, hc, hH, hb2⟩
  have HH := Lib.hid hH
  clear hH
  go_wp2_with fail
  go_ret2
  exact ⟨_, _, rfl, hc, HH.out, bTrans hb1 hb2⟩

set_option maxHeartbeats 1000000 in
theorem parts_bad (s : ByteArray) (w : World) (hE : Env w) (hs : s.size ≤ 9223372036854775807) (hp : Wh.pathErr s.data.toList = 1) :
    Calls Tryd.prog 45 #[.string s] w fun e w' => e = .returned (.tuple #[.slice none 0 0, .int .i64 1]) ∧ Below w.heap.size w w' := by
  have HC := check_any s w hE hs
  rw [hp] at HC
  have HC := Lib.hid HC
  clear hE hp
  go_enter Tryd.func45, Tryd.ntmps45
  go_wp2_with fail
  refine HC.out.mono ?_
  rintro e w1 ⟨rfl, hb1⟩
  go_wp2_with fail
  go_ret2
  exact ⟨rfl, hb1⟩

set_option maxHeartbeats 1000000 in
theorem namesJoin_any (a : Option Addr) (c : Nat) (xs : List ByteArray) (w : World) (hH : Holds w a (xs.map Value.string)) (hc : xs.length ≤ c) (hN : xs.length ≤ 140737488355328) (hz : ∀ x ∈ xs, x.size ≤ 9223372036854775807)
    (hlen : xs.all (fun x => Wh.isName x.data.toList) = true → (Lib.join (xs.map (·.data.toList)) [47]).length ≤ 140737488355328) :
    Calls Tryd.prog 42 #[.slice a xs.length c] w fun e w' => e = .returned (.tuple #[.string (Wh.joinText xs), .int .i64 (Wh.joinErr xs)]) ∧ Below w.heap.size w w' := by
  have HH := Lib.hid hH
  have HZ := Lib.hid hz
  have HL := Lib.hid hlen
  clear hH hz hlen
  go_enter Tryd.func42, Tryd.ntmps42
  go_wp2_with fail
  go_loopg [9] xs.length (fun g i wx => ∃ k : Nat, k + g = xs.length ∧ i = .int .i64 k ∧ Below w.heap.size w wx ∧ Hid ((xs.take k).all (fun x => Wh.isName x.data.toList) = true))
  case atStart => exact ⟨0, by omega, rfl, Below.refl _ _, Lib.hid rfl⟩
  case round =>
    obtain ⟨k, hk, rfl, hb, HN⟩ := hrel
    by_cases hlt : k < xs.length
    · obtain ⟨g, rfl⟩ : ∃ g, gk = g + 1 := ⟨gk - 1, by omega⟩
      obtain ⟨x, hx⟩ : ∃ x, xs[k]? = some x := ⟨_, List.getElem?_eq_getElem hlt⟩
      obtain ⟨ba, off, ha, hba, hca⟩ := (HH.out.under hb).at (k := k) (u := .string x) (by simp [hx])
      have hxs := HZ.out x (List.mem_of_getElem? hx)
      have Hx := Lib.hid hx
      clear hx
      subst ha
      have hck := isName_any x wr hxs
      cases hpx : Wh.isName x.data.toList
      · rw [hpx] at hck
        have HC := Lib.hid hck
        clear hck
        have ha : xs.all (fun x => Wh.isName x.data.toList) = false := by
          rw [List.all_eq_false]
          exact ⟨x, List.mem_of_getElem? Hx.out, by simp [hpx]⟩
        have HF := Lib.hid (Wh.join_bad ha)
        clear ha
        go_wp2_with fail
        refine HC.out.mono ?_
        rintro e w' ⟨rfl, hb2⟩
        go_wp2_with fail
        go_ret2
        rw [HF.out.1, HF.out.2]
        exact ⟨rfl, bTrans hb hb2⟩
      · rw [hpx] at hck
        have HC := Lib.hid hck
        clear hck
        go_wp2_with fail
        refine HC.out.mono ?_
        rintro e w' ⟨rfl, hb2⟩
        go_wp2_with fail
        go_roundg g
        case measure => omega
        case rel => exact ⟨k + 1, by omega, by go_num, bTrans hb hb2, Lib.hid (by rw [List.take_add_one, Hx.out, List.all_append, HN.out]; simp [hpx])⟩
    · have hall := HN.out
      rw [List.take_of_length_le (by omega)] at hall
      have hle := HL.out hall
      have hj := join_any a c xs ⟨#[47]⟩ wr (HH.out.under hb) hc hN hle
      have e0 : (⟨#[47]⟩ : ByteArray).data.toList = [47] := rfl
      rw [e0] at hj
      have HJ := Lib.hid hj
      clear hj e0
      have HA := Lib.hid hall
      clear hall
      generalize hjl : Lib.join (xs.map (·.data.toList)) [47] = jl at *
      have hsz : (⟨jl.toArray⟩ : ByteArray).size = jl.length := rfl
      by_cases h1 : 1024 < jl.length
      · have HF := Lib.hid (Wh.join_long HA.out (by rw [hjl]; exact h1))
        clear hjl
        go_wp2_with fail
        refine HJ.out.mono ?_
        rintro e w' ⟨rfl, hb2⟩
        go_wp2_with fail
        go_ret2
        rw [HF.out.1, HF.out.2]
        exact ⟨rfl, bTrans hb hb2⟩
      · have HF := Lib.hid (Wh.join_good HA.out (by rw [hjl]; omega))
        rw [hjl] at HF
        clear hjl
        go_wp2_with fail
        refine HJ.out.mono ?_
        rintro e w' ⟨rfl, hb2⟩
        go_wp2_with fail
        go_ret2
        rw [HF.out.1, HF.out.2]
        exact ⟨rfl, bTrans hb hb2⟩
end Go.Proofs.YtbcadgooelcnhaaDoor
