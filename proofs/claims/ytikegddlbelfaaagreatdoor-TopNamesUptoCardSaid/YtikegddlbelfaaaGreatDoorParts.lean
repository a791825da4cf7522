/-
  strings.Join; names.split, Parts, Join, Above.
-/
import Derived.Test.YtikegddlbelfaaaGreatDoorRefPaths
namespace Go.Proofs.YtikegddlbelfaaaGreatDoor
open Go.RowKit

theorem map_string_at {xs : List ByteArray} {k : Nat} {x : ByteArray} (h : xs[k]? = some x) : (xs.map Value.string)[k]? = some (.string x) := by simp [h]

/-- strings.Join of a slice that holds texts. -/
theorem join_any (a : Option Addr) (c : Nat) (xs : List ByteArray) (sep : ByteArray) (w : World) (hH : Holds w a (xs.map Value.string)) (hc : xs.length ≤ c) (hN : xs.length ≤ 140737488355328)
    (hlen : (Lib.join (xs.map (·.data.toList)) sep.data.toList).length ≤ 140737488355328) :
    Calls Tryz.prog 41 #[.slice a xs.length c, .string sep] w fun e w' => e = .returned (.string ⟨(Lib.join (xs.map (·.data.toList)) sep.data.toList).toArray⟩) ∧ Below w.heap.size w w' := by
  rcases hH with h | ⟨b, off, rfl, hb, hcell⟩
  · obtain rfl : xs = [] := by simpa using h
    refine (Tryz.strings_Join_none a c sep w).mono ?_
    rintro e w' ⟨rfl, rfl⟩
    exact ⟨rfl, Below.refl _ _⟩
  · exact Tryz.strings_Join b off c xs sep w (fun j x hj => hcell j _ (map_string_at hj)) hb hN hc hlen

/-- A slice of texts comes back. -/
def StrsPost (xs : List ByteArray) (w : World) (e : Ending) (w' : World) : Prop :=
  ∃ a c, e = .returned (.slice a xs.length c) ∧ xs.length ≤ c ∧ Holds w' a (xs.map Value.string) ∧ Below w.heap.size w w'

set_option maxHeartbeats 1000000 in
theorem split_any (s : ByteArray) (w : World) (hE : Env w) (hs : s.size < 4294967281) :
    Calls Tryz.prog 39 #[.string s] w (StrsPost (Wh.namesOf s) w) := by
  have HE := Lib.hid hE
  clear hE
  cases h0 : s.toList.isEmpty
  · have e1 : Wh.namesOf s = Wh.pieces 47 s := Wh.namesOf_some (by rw [← Lib.toList_data]; exact h0)
    rw [e1]
    clear e1
    go_enter Tryz.func39, Tryz.ntmps39
    go_wp2_with fail
    refine (split_one 47 s _ HE.out hs).mono ?_
    rintro e w' ⟨rfl, rfl⟩
    have hh := Lib.hid (holds_new w 9 (Wh.pieces 47 s))
    go_wp2_with fail
    go_ret
    exact ⟨_, _, rfl, Nat.le_refl _, hh.out, bAlloc (Below.refl _ _) _⟩
  · have e1 : Wh.namesOf s = [] := Wh.namesOf_none (by rw [← Lib.toList_data]; exact h0)
    rw [e1]
    clear e1
    go_enter Tryz.func39, Tryz.ntmps39
    go_wp2_with fail
    go_ret
    exact ⟨none, 0, rfl, Nat.le_refl _, .inl rfl, Below.refl _ _⟩

/-- A slice of texts comes back, and no error. -/
def PartsPost (xs : List ByteArray) (w : World) (e : Ending) (w' : World) : Prop :=
  ∃ a c, e = .returned (.tuple #[.slice a xs.length c, .int .i64 0]) ∧ xs.length ≤ c ∧ Holds w' a (xs.map Value.string) ∧ Below w.heap.size w w'

set_option maxHeartbeats 1000000 in
theorem parts_good (s : ByteArray) (w : World) (hE : Env w) (hs : s.size ≤ 1024) (hp : Wh.pathErr s.data.toList = 0) :
    Calls Tryz.prog 82 #[.string s] w (PartsPost (Wh.namesOf s) w) := by
  have HC := check_any s w hE (by omega)
  rw [hp] at HC
  have HC := Lib.hid HC
  have HE := Lib.hid hE
  clear hE hp
  go_enter Tryz.func82, Tryz.ntmps82
  go_wp2_with fail
  refine HC.out.mono ?_
  rintro e w1 ⟨rfl, hb1⟩
  go_wp2_with fail
  refine (split_any s _ (HE.out.under hb1) (by omega)).mono ?_
  rintro e w2 ⟨a, c, rfl, hc, hH, hb2⟩
  have HH := Lib.hid hH
  clear hH
  go_wp2_with fail
  go_ret2
  exact ⟨_, _, rfl, hc, HH.out, bTrans hb1 hb2⟩

set_option maxHeartbeats 1000000 in
theorem parts_bad (s : ByteArray) (w : World) (hE : Env w) (hs : s.size ≤ 9223372036854775807) (hp : Wh.pathErr s.data.toList = 1) :
    Calls Tryz.prog 82 #[.string s] w fun e w' => e = .returned (.tuple #[.slice none 0 0, .int .i64 1]) ∧ Below w.heap.size w w' := by
  have HC := check_any s w hE hs
  rw [hp] at HC
  have HC := Lib.hid HC
  clear hE hp
  go_enter Tryz.func82, Tryz.ntmps82
  go_wp2_with fail
  refine HC.out.mono ?_
  rintro e w1 ⟨rfl, hb1⟩
  go_wp2_with fail
  go_ret2
  exact ⟨rfl, hb1⟩

end Go.Proofs.YtikegddlbelfaaaGreatDoor
