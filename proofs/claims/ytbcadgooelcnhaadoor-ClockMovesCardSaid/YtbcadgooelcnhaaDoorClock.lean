/-
  store.Clock, and the law on it.
-/
import Derived.Test.YtbcadgooelcnhaaDoorPaths
namespace Go.Proofs.YtbcadgooelcnhaaDoor
open Go.RowKit

/-- What a clock shows that is made with a time. -/
def clamp (n : Int) : Int := min (max n 0) 4611686018427387904
/-- What it shows when a time has passed. -/
def tick (t n : Int) : Int := if 0 < n then min n (4611686018427387904 - t) + t else t

theorem clamp_bd (n : Int) : 0 ≤ clamp n ∧ clamp n ≤ 4611686018427387904 := by unfold clamp; omega
theorem tick_bd {t : Int} (n : Int) (h : 0 ≤ t ∧ t ≤ 4611686018427387904) : 0 ≤ tick t n ∧ tick t n ≤ 4611686018427387904 := by
  unfold tick; split <;> omega

set_option maxHeartbeats 1000000 in
theorem newClock_any (n : Int) (w : World) :
    Calls Tryd.prog 16 #[.int .i64 n] w fun e w' => e = .returned (.pointer (some ⟨w.heap.size, 0, none⟩)) ∧ w' = w.alloc (.cells #[.int .i64 (min (max n 0) 4611686018427387904)] 73) := by
  go_enter Tryd.func16, Tryd.ntmps16
  go_wp2
  go_ret
  exact ⟨rfl, rfl⟩

set_option maxHeartbeats 1000000 in
theorem now_any (b : Nat) (t : Int) (w : World) (hc : w.cell? ⟨b, 0, none⟩ = some (.int .i64 t)) :
    Calls Tryd.prog 17 #[.pointer (some ⟨b, 0, none⟩)] w fun e w' => e = .returned (.int .i64 t) ∧ w = w' := by
  go_enter Tryd.func17, Tryd.ntmps17
  go_wp2
  go_ret
  exact ⟨rfl, rfl⟩

/-- The world behind a clock's step: block b alone has changed, and holds the new time. -/
def Ticked (b : Nat) (t : Int) (w w' : World) : Prop := Below b w w' ∧ w'.heap.size = w.heap.size ∧ w'.cell? ⟨b, 0, none⟩ = some (.int .i64 t) ∧ w'.frozen? ⟨b, 0, none⟩ = false

set_option maxHeartbeats 1000000 in
theorem pass_any (b : Nat) (t n : Int) (w : World) (ht : 0 ≤ t ∧ t ≤ 4611686018427387904) (hn : n ≤ 9223372036854775807) (hc : w.cell? ⟨b, 0, none⟩ = some (.int .i64 t)) (hf : w.frozen? ⟨b, 0, none⟩ = false) :
    Calls Tryd.prog 18 #[.pointer (some ⟨b, 0, none⟩), .int .i64 n] w fun e w' => e = .returned (.tuple #[]) ∧ Ticked b (tick t n) w w' := by
  obtain ⟨ht1, ht2⟩ := ht
  by_cases h1 : 0 < n
  · by_cases h2 : t < 4611686018427387904
    · go_enter Tryd.func18, Tryd.ntmps18
      go_wp2
      go_region
      all_goals go_end0
      have e1 : t + min n (4611686018427387904 - t) = tick t n := by unfold tick; rw [if_pos h1]; omega
      rw [e1]
      refine ⟨rfl, (Below.setCell (p := ⟨b, 0, none⟩) (Below.refl b w) (Nat.le_refl _) _).drew, by simp [World.setCell, World.drew], ?_, ?_⟩
      · exact World.cell?_setCell_same _ _ _ hc
      · exact (World.frozen?_setCell ..).trans hf
    · go_enter Tryd.func18, Tryd.ntmps18
      go_wp2
      go_end0
      have : tick t n = t := by unfold tick; rw [if_pos h1]; omega
      rw [this]
      exact ⟨rfl, Below.refl _ _, rfl, hc, hf⟩
  · go_enter Tryd.func18, Tryd.ntmps18
    go_wp2
    go_end0
    have : tick t n = t := by unfold tick; rw [if_neg (by omega)]
    rw [this]
    exact ⟨rfl, Below.refl _ _, rfl, hc, hf⟩

set_option maxHeartbeats 1000000 in
theorem clockMoves_walk (n : Int) (a : Option Addr) (c : Nat) (zs : List Int) (w : World) (hE : Env w) (hn : -9223372036854775808 ≤ n ∧ n ≤ 9223372036854775807)
    (hz : ∀ z ∈ zs, -9223372036854775808 ≤ z ∧ z ≤ 9223372036854775807) (hl : zs.length ≤ 9223372036854775807) (hH : Holds w a (zs.map (Value.int .i64))) :
    Calls Tryd.prog 3 #[.int .i64 n, .slice a zs.length c] w fun e w' => e = .returned (.bool true) ∧ Below w.heap.size w w' := by
  have HE := Lib.hid hE
  have HH := Lib.hid hH
  have HZ := Lib.hid hz
  clear hE hH hz
  obtain ⟨hn1, hn2⟩ := hn
  go_enter Tryd.func3, Tryd.ntmps3
  go_wp2_with fail
  refine (landed_any w HE.out).mono ?_
  rintro e w1 ⟨rfl, hb⟩
  go_wp2_with fail
  refine (newClock_any n _).mono ?_
  rintro e w2 ⟨rfl, rfl⟩
  have hcl : (w1.alloc (.cells #[.int .i64 (min (max n 0) 4611686018427387904)] 73)).cell? ⟨w1.heap.size, 0, none⟩ = some (.int .i64 (min (max n 0) 4611686018427387904)) := by
    rw [World.cell?_alloc_at _ _ _ _ rfl]; rfl
  have hfr : (w1.alloc (.cells #[.int .i64 (min (max n 0) 4611686018427387904)] 73)).frozen? ⟨w1.heap.size, 0, none⟩ = false := World.frozen?_alloc_new ..
  have hb2 : Below w.heap.size w (w1.alloc (.cells #[.int .i64 (min (max n 0) 4611686018427387904)] 73)) := bAlloc hb _
  have hz2 : w1.heap.size < (w1.alloc (.cells #[.int .i64 (min (max n 0) 4611686018427387904)] 73)).heap.size := by simp
  have ht0 : 0 ≤ min (max n 0) 4611686018427387904 ∧ min (max n 0) 4611686018427387904 ≤ 4611686018427387904 := by omega
  generalize w1.alloc (.cells #[.int .i64 (min (max n 0) 4611686018427387904)] 73) = w2 at *
  go_wp2_with fail
  generalize min (max n 0) 4611686018427387904 = t0 at *
  refine (now_any _ t0 _ hcl).mono ?_
  rintro e w3 ⟨rfl, rfl⟩
  have hbs := hb.size
  generalize w1.heap.size = b at *
  clear hb
  go_wp2_with fail
  go_loopg [6, 26] zs.length (fun g s6 s26 wx => ∃ (k : Nat) (t : Int), k + g = zs.length ∧ s26 = .int .i64 k ∧ s6 = .int .i64 t ∧ 0 ≤ t ∧ t ≤ 4611686018427387904 ∧
    Below w.heap.size w wx ∧ b < wx.heap.size ∧ wx.cell? ⟨b, 0, none⟩ = some (.int .i64 t) ∧ wx.frozen? ⟨b, 0, none⟩ = false)
  case atStart => exact ⟨0, t0, by omega, rfl, rfl, ht0.1, ht0.2, hb2, hz2, hcl, hfr⟩
  case round =>
    clear hcl hfr hb2 hz2
    obtain ⟨k, t, hk, rfl, rfl, ht1, ht2, hb2, hz2, hcl, hfr⟩ := hrel
    by_cases hlt : k < zs.length
    · obtain ⟨g, rfl⟩ : ∃ g, gk = g + 1 := ⟨gk - 1, by omega⟩
      obtain ⟨z, hz⟩ : ∃ z, zs[k]? = some z := ⟨_, List.getElem?_eq_getElem hlt⟩
      obtain ⟨hz3, hz4⟩ := HZ.out z (List.mem_of_getElem? hz)
      obtain ⟨ba, off, ha, hba, hca⟩ := (HH.out.under hb2).at (k := k) (u := .int .i64 z) (by simp [hz])
      clear hz
      subst ha
      by_cases hp : 0 < z
      · have hpass := pass_any b t z wr ⟨ht1, ht2⟩ hz4 hcl hfr
        have etick : tick t z = min z (4611686018427387904 - t) + t := by unfold tick; rw [if_pos hp]
        have hbd := tick_bd z ⟨ht1, ht2⟩
        rw [etick] at hpass hbd
        have HP := Lib.hid hpass
        clear hpass etick hcl hfr
        go_wp2_with fail
        refine HP.out.mono ?_
        rintro e w4 ⟨rfl, q1, q2, q3, q4⟩
        generalize min z (4611686018427387904 - t) + t = t1 at *
        have hz5 : b < w4.heap.size := by omega
        clear q2
        go_wp2_with fail
        refine (now_any _ t1 _ q3).mono ?_
        rintro e w5 ⟨rfl, rfl⟩
        go_wp2_with fail
        go_roundg g
        case measure => omega
        case rel => exact ⟨k + 1, t1, by omega, by go_num, rfl, hbd.1, hbd.2, hb2.trans (q1.mono hbs), hz5, q3, q4⟩
      · have hpass := pass_any b t z wr ⟨ht1, ht2⟩ hz4 hcl hfr
        have etick : tick t z = t := by unfold tick; rw [if_neg hp]
        rw [etick] at hpass
        have HP := Lib.hid hpass
        clear hpass etick hcl hfr
        go_wp2_with fail
        refine HP.out.mono ?_
        rintro e w4 ⟨rfl, q1, q2, q3, q4⟩
        have hz5 : b < w4.heap.size := by omega
        clear q2
        go_wp2_with fail
        refine (now_any _ t _ q3).mono ?_
        rintro e w5 ⟨rfl, rfl⟩
        go_wp2_with fail
        go_roundg g
        case measure => omega
        case rel => exact ⟨k + 1, t, by omega, by go_num, rfl, ht1, ht2, hb2.trans (q1.mono hbs), hz5, q3, q4⟩
    · go_wp2_with fail
      go_ret
      exact ⟨rfl, hb2⟩
end Go.Proofs.YtbcadgooelcnhaaDoor
