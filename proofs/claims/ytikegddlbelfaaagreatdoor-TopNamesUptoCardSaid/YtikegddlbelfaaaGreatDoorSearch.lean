/-
  slices.BinarySearch over strings.
-/
import Derived.Test.YtikegddlbelfaaaGreatDoorBytes
import Derived.Laws.ShiftsVarLaws
import Derived.Test.YtikegddlbelfaaaGreatDoorPlainSearch
namespace Go.Proofs.YtikegddlbelfaaaGreatDoor
open Go.RowKit

set_option maxHeartbeats 1000000 in
theorem less_str (a b : ByteArray) (w : World) :
    Calls Tryz.prog 104 #[.string a, .string b] w fun e w' => e = .returned (.bool (Op.bytesLess a.toList b.toList)) ∧ w' = w := by
  go_enter Tryz.func104, Tryz.ntmps104
  go_wp2
  go_ret
  exact ⟨rfl, rfl⟩

/-- A place comes back, and whether the text is there. -/
def SearchPost (b : Bool) (w : World) (e : Ending) (w' : World) : Prop := ∃ i : Int, e = .returned (.tuple #[.int .i64 i, .bool b]) ∧ w = w'

set_option maxHeartbeats 1000000 in
theorem isNaN_str (a : ByteArray) (w : World) :
    Calls Tryz.prog 105 #[.string a] w fun e w' => e = .returned (.bool false) ∧ w' = w := by
  go_enter Tryz.func105, Tryz.ntmps105
  go_wp2
  go_ret
  exact ⟨ret_bool (by simp), rfl⟩

theorem wrap_back (n : Int) (h0 : 0 ≤ n) (h1 : n < 18446744073709551616) : IntKind.u64.wrap (wrap64 n) = n := by
  rw [wrap64, IntKind.wrap_u64, Int.sub_emod, Int.emod_emod, ← Int.sub_emod, Int.add_sub_cancel]
  exact Int.emod_eq_of_lt h0 h1

set_option maxHeartbeats 2000000 in
set_option maxRecDepth 100000 in
theorem search_str (a : Option Addr) (c : Nat) (xs : List ByteArray) (x : ByteArray) (w : World) (hl : xs.length ≤ 9223372036854775807) (hH : Holds w a (xs.map Value.string)) (hs : Wh.Sorted xs) :
    Calls Tryz.prog 81 #[.slice a xs.length c, .string x] w (SearchPost (Wh.memB xs x) w) := by
  have HH := Lib.hid hH
  have HS := Lib.hid hs
  clear hH hs
  go_enter Tryz.func81, Tryz.ntmps81
  go_wp2_with fail
  go_loopg [7, 8] xs.length (fun g s7 s8 wx => ∃ i j : Nat, i ≤ j ∧ j ≤ xs.length ∧ j - i ≤ g ∧ s7 = .int .i64 i ∧ s8 = .int .i64 j ∧ wx = w ∧ Hid (Wh.Cut xs x i j))
  case atStart => exact ⟨0, xs.length, by omega, by omega, by omega, rfl, rfl, rfl, Lib.hid (Wh.cut_start xs x)⟩
  case round =>
    obtain ⟨i, j, hij, hj, hg, rfl, rfl, rfl, HC⟩ := hrel
    by_cases hlt : i < j
    · obtain ⟨g, rfl⟩ : ∃ g, gk = g + 1 := ⟨gk - 1, by omega⟩
      obtain ⟨h, hh⟩ : ∃ h : Nat, h = (i + j) / 2 := ⟨_, rfl⟩
      obtain ⟨y, hy⟩ : ∃ y, xs[h]? = some y := ⟨_, List.getElem?_eq_getElem (by omega)⟩
      obtain ⟨ba, off, ha, hba, hca⟩ := HH.out.at (k := h) (u := .string y) (by simp [hy])
      have Hy := Lib.hid hy
      clear hy
      subst ha
      have hl2 := fun W => less_str y x W
      rw [hh] at hca
      have hq := wrap_back ((i : Int) + (j : Int)) (by omega) (by omega)
      cases hb : Op.bytesLess y.toList x.toList
      · have HC2 := Lib.hid (Wh.cut_high HS.out HC.out Hy.out hb)
        rw [hb] at hl2
        have HL := Lib.hid hl2
        have HHH := Lib.hid hh
        clear hl2 hb hh
        go_wp2_with fail
        refine (HL.out _).mono ?_
        rintro e w' ⟨rfl, rfl⟩
        go_wp2_with fail
        go_roundg g
        case measure => omega
        case rel =>
          have hh := HHH.out
          exact ⟨i, h, by omega, by omega, by omega, rfl, by rw [show ((i : Int) + (j : Int)) / 2 = (h : Int) by omega], rfl, HC2⟩
      · have HC2 := Lib.hid (Wh.cut_low HS.out HC.out Hy.out hb)
        rw [hb] at hl2
        have HL := Lib.hid hl2
        have HHH := Lib.hid hh
        clear hl2 hb hh
        go_wp2_with fail
        refine (HL.out _).mono ?_
        rintro e w' ⟨rfl, rfl⟩
        go_wp2_with fail
        go_roundg g
        case measure => omega
        case rel =>
          have hh := HHH.out
          exact ⟨h + 1, j, by omega, by omega, by omega, by rw [show ((i : Int) + (j : Int)) / 2 + 1 = ((h + 1 : Nat) : Int) by omega], rfl, rfl, HC2⟩
    · obtain rfl : i = j := by omega
      have hend := Wh.cut_end HS.out HC.out
      by_cases hn : i < xs.length
      · obtain ⟨y, hy⟩ : ∃ y, xs[i]? = some y := ⟨_, List.getElem?_eq_getElem hn⟩
        obtain ⟨ba, off, ha, hba, hca⟩ := HH.out.at (k := i) (u := .string y) (by simp [hy])
        rw [hy] at hend
        have hend2 : Wh.memB xs x = (y.toList == x.toList) := hend
        clear hend hy
        subst ha
        cases he : (y.toList == x.toList)
        · rw [he] at hend2
          have HE := Lib.hid hend2
          clear hend2
          go_wp2_with (go_at_call 105; refine (isNaN_str _ _).mono ?_; rintro e w' ⟨rfl, rfl⟩)
          go_ret2
          rw [HE.out]
          exact ⟨_, rfl, rfl⟩
        · rw [he] at hend2
          have HE := Lib.hid hend2
          clear hend2
          go_wp2_with fail
          go_ret2
          rw [HE.out]
          exact ⟨_, rfl, rfl⟩
      · rw [List.getElem?_eq_none (by omega)] at hend
        have hend2 : Wh.memB xs x = false := hend
        have HE := Lib.hid hend2
        clear hend hend2
        go_wp2_with fail
        go_ret2
        rw [HE.out]
        exact ⟨_, rfl, rfl⟩
end Go.Proofs.YtikegddlbelfaaaGreatDoor
