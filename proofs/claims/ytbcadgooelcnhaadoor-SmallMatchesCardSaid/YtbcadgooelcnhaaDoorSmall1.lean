/-
  plan.Common, SameTime and the reference's, walked.
-/
import Derived.Test.YtbcadgooelcnhaaDoorFeat
namespace Go.Proofs.YtbcadgooelcnhaaDoor
open Go.RowKit

set_option maxHeartbeats 1000000 in
theorem leastKind_any (n : Nat) (w : World) (hn : n < 64) :
    Calls Tryd.prog 71 #[.int .i64 (n : Int)] w fun e w' => e = .returned (.int .i64 (Wh.leastN n : Int)) ∧ w = w' := by
  have HH := Lib.hid (fun k h0 hl h => Wh.leastN_hit (n := n) (k := k) hn h0 hl h)
  have HN := Lib.hid (fun k hk hl => Wh.leastN_none (n := n) (k := k) hk hl)
  have HT := Lib.hid (fun k => Wh.bit_test n k)
  generalize Wh.leastN n = L at *
  go_enter Tryd.func71, Tryd.ntmps71
  go_wp2_with fail
  go_loopg [3] 31 (fun g s3 wx => ∃ k : Nat, k + g = 32 ∧ 1 ≤ k ∧ s3 = .int .i64 k ∧ wx = w ∧ Hid (∀ j, 1 ≤ j → j < k → n.testBit j = false))
  case atStart => exact ⟨1, by omega, by omega, rfl, rfl, Lib.hid (fun j h1 h2 => absurd h1 (by omega))⟩
  case round =>
    obtain ⟨k, hk, hk1, rfl, hw, HL⟩ := hrel
    subst hw
    by_cases hlt : k < 32
    · obtain ⟨g, rfl⟩ : ∃ g, gk = g + 1 := ⟨gk - 1, by omega⟩
      have ht := HT.out k
      cases hb : n.testBit k
      · rw [hb] at ht
        have HL2 : Hid (∀ j, 1 ≤ j → j < k + 1 → n.testBit j = false) := Lib.hid (fun j h1 h2 => by
          rcases Nat.lt_or_ge j k with h | h
          · exact HL.out j h1 h
          · obtain rfl : j = k := by omega
            exact hb)
        clear hb
        go_wp2_with fail
        go_roundg g
        case measure => omega
        case rel => exact ⟨k + 1, by omega, by omega, by go_num, rfl, HL2⟩
      · rw [hb] at ht
        have HF := Lib.hid (HH.out k hk1 HL.out hb)
        clear hb
        go_wp2_with fail
        go_ret
        exact ⟨ret_int (by rw [HF.out]), rfl⟩
    · have HF := Lib.hid (HN.out k (by omega) HL.out)
      go_wp2_with fail
      go_ret
      exact ⟨ret_int (by rw [HF.out]; rfl), rfl⟩

/-- The kinds that both stores tell. -/
def both2 (f h : Wh.Feat) : Nat := f.sums.toNat &&& h.sums.toNat

set_option maxHeartbeats 1000000 in
set_option maxRecDepth 100000 in
theorem common_any (f h : Wh.Feat) (w : World) (hand : bits .and .i64 f.sums h.sums = ((both2 f h : Nat) : Int)) (hn : both2 f h < 64) :
    Calls Tryd.prog 26 #[featVal f, featVal h] w fun e w' => e = .returned (.int .i64 (Wh.leastN (both2 f h) : Int)) ∧ Below w.heap.size w w' := by
  have HK := Lib.hid (fun W => leastKind_any (both2 f h) W hn)
  have h1 := featBox_new w f
  have h2 := h1.under (bAlloc (Below.refl _ _) (featObj h))
  have h3 := featBox_new (w.alloc (featObj f)) h
  have hb : Below w.heap.size w ((w.alloc (featObj f)).alloc (featObj h)) := bAlloc (bAlloc (Below.refl _ _) _) _
  have hz : (w.alloc (featObj f)).heap.size = w.heap.size + 1 := by simp
  rw [hz] at h3
  clear h1 hz
  generalize both2 f h = n at *
  unfold featVal featObj at *
  go_enter Tryd.func26, Tryd.ntmps26
  go_upto_region 1 with fail
  generalize (w.alloc _).alloc _ = w2 at *
  obtain ⟨_, _, a2, _⟩ := h2
  obtain ⟨_, _, b2, _⟩ := h3
  go_wp2_with fail
  refine (HK.out _).mono ?_
  rintro e w' ⟨rfl, rfl⟩
  go_wp2_with fail
  go_ret
  exact ⟨rfl, hb⟩

set_option maxHeartbeats 1000000 in
set_option maxRecDepth 100000 in
theorem refCommon_any (f h : Wh.Feat) (w : World) (hand : bits .and .i64 f.sums h.sums = ((both2 f h : Nat) : Int)) (hn : both2 f h < 64) (h0 : (both2 f h).testBit 0 = false) :
    Calls Tryd.prog 27 #[featVal f, featVal h] w fun e w' => e = .returned (.int .i64 (Wh.leastN (both2 f h) : Int)) ∧ Below w.heap.size w w' := by
  have HH := Lib.hid (fun k h0 hl hh => Wh.leastN_hit (n := both2 f h) (k := k) hn h0 hl hh)
  have HN := Lib.hid (fun k hk hl => Wh.leastN_none (n := both2 f h) (k := k) hk hl)
  have HT := Lib.hid (fun k => Wh.bit_test (both2 f h) k)
  have H0 := Lib.hid h0
  have h1 := featBox_new w f
  have h2 := h1.under (bAlloc (Below.refl _ _) (featObj h))
  have h3 := featBox_new (w.alloc (featObj f)) h
  have hb : Below w.heap.size w ((w.alloc (featObj f)).alloc (featObj h)) := bAlloc (bAlloc (Below.refl _ _) _) _
  have hz : (w.alloc (featObj f)).heap.size = w.heap.size + 1 := by simp
  rw [hz] at h3
  clear h1 hz h0
  generalize both2 f h = n at *
  generalize Wh.leastN n = L at *
  unfold featVal featObj at *
  go_enter Tryd.func27, Tryd.ntmps27
  go_upto_region 1 with fail
  generalize (w.alloc _).alloc _ = w2 at *
  obtain ⟨_, _, a2, _⟩ := h2
  obtain ⟨_, _, b2, _⟩ := h3
  go_wp2_with fail
  go_loopg [6] 62 (fun g s6 wx => ∃ k : Nat, k + g = 62 ∧ s6 = .int .i64 k ∧ wx = w2 ∧ Hid (∀ j, j < k → n.testBit j = false))
  case atStart => exact ⟨0, by omega, rfl, rfl, Lib.hid (fun j h2 => absurd h2 (by omega))⟩
  case round =>
    obtain ⟨k, hk, rfl, hw, HL⟩ := hrel
    subst wr
    by_cases hlt : k < 62
    · obtain ⟨g, rfl⟩ : ∃ g, gk = g + 1 := ⟨gk - 1, by omega⟩
      have ht := HT.out k
      cases hbk : n.testBit k
      · rw [hbk] at ht
        have HL2 : Hid (∀ j, j < k + 1 → n.testBit j = false) := Lib.hid (fun j h2 => by
          rcases Nat.lt_or_ge j k with h | h
          · exact HL.out j h
          · obtain rfl : j = k := by omega
            exact hbk)
        clear hbk
        go_wp2_with fail
        go_roundg g
        case measure => omega
        case rel => exact ⟨k + 1, by omega, by go_num, rfl, HL2⟩
      · rw [hbk] at ht
        have hk1 : 1 ≤ k := by
          rcases Nat.eq_zero_or_pos k with h | h
          · rw [h, H0.out] at hbk
            cases hbk
          · exact h
        have HF := Lib.hid (HH.out k hk1 (fun j _ h => HL.out j h) hbk)
        clear hbk
        go_wp2_with fail
        go_ret
        exact ⟨ret_int (by rw [HF.out]), hb⟩
    · have HF := Lib.hid (HN.out k (by omega) (fun j _ h => HL.out j h))
      go_wp2_with fail
      go_ret
      exact ⟨ret_int (by rw [HF.out]; rfl), hb⟩

/-- Are two times the same, as far as both stores can tell? -/
def sameT (a b : Int) (f h : Wh.Feat) : Bool := decide ((if a < b then b - a else a - b) < max f.prec h.prec)

set_option maxHeartbeats 1000000 in
set_option maxRecDepth 100000 in
theorem sameTime_any (a b : Int) (f h : Wh.Feat) (w : World) (ha : 0 ≤ a) (ha2 : a ≤ 9223372036854775807) (hb : 0 ≤ b) (hb2 : b ≤ 9223372036854775807) :
    Calls Tryd.prog 28 #[.int .i64 a, .int .i64 b, featVal f, featVal h] w fun e w' => e = .returned (.bool (sameT a b f h)) ∧ Below w.heap.size w w' := by
  have hS : sameT a b f h = decide ((if a < b then b - a else a - b) < max f.prec h.prec) := rfl
  have HS := Lib.hid hS
  generalize sameT a b f h = B at *
  have h1 := featBox_new w f
  have h2 := h1.under (bAlloc (Below.refl _ _) (featObj h))
  have h3 := featBox_new (w.alloc (featObj f)) h
  have hbb : Below w.heap.size w ((w.alloc (featObj f)).alloc (featObj h)) := bAlloc (bAlloc (Below.refl _ _) _) _
  have hz : (w.alloc (featObj f)).heap.size = w.heap.size + 1 := by simp
  rw [hz] at h3
  clear h1 hz hS
  unfold featVal featObj at *
  by_cases hab : a < b
  · rw [if_pos hab] at HS
    go_enter Tryd.func28, Tryd.ntmps28
    go_upto_region 1 with fail
    generalize (w.alloc _).alloc _ = w2 at *
    obtain ⟨_, _, _, a3, _⟩ := h2
    obtain ⟨_, _, _, b3, _⟩ := h3
    have hd : (0 : Int) ≤ b - a := by omega
    go_wp2_with fail
    go_ret
    exact ⟨ret_bool (by rw [HS.out]), hbb⟩
  · rw [if_neg hab] at HS
    go_enter Tryd.func28, Tryd.ntmps28
    go_upto_region 1 with fail
    generalize (w.alloc _).alloc _ = w2 at *
    obtain ⟨_, _, _, a3, _⟩ := h2
    obtain ⟨_, _, _, b3, _⟩ := h3
    have hd : (0 : Int) ≤ a - b := by omega
    go_wp2_with fail
    go_ret
    exact ⟨ret_bool (by rw [HS.out]), hbb⟩

set_option maxHeartbeats 1000000 in
set_option maxRecDepth 100000 in
theorem refSameTime_any (a b : Int) (f h : Wh.Feat) (w : World) (ha : 0 ≤ a) (ha2 : a ≤ 9223372036854775807) (hb : 0 ≤ b) (hb2 : b ≤ 9223372036854775807) :
    Calls Tryd.prog 29 #[.int .i64 a, .int .i64 b, featVal f, featVal h] w fun e w' => e = .returned (.bool (sameT a b f h)) ∧ Below w.heap.size w w' := by
  have hS : sameT a b f h = decide ((if a < b then b - a else a - b) < max f.prec h.prec) := rfl
  have HS := Lib.hid hS
  generalize sameT a b f h = B at *
  have h1 := featBox_new w f
  have h2 := h1.under (bAlloc (Below.refl _ _) (featObj h))
  have h3 := featBox_new (w.alloc (featObj f)) h
  have hbb : Below w.heap.size w ((w.alloc (featObj f)).alloc (featObj h)) := bAlloc (bAlloc (Below.refl _ _) _) _
  have hz : (w.alloc (featObj f)).heap.size = w.heap.size + 1 := by simp
  rw [hz] at h3
  clear h1 hz hS
  unfold featVal featObj at *
  by_cases hab : a < b
  · rw [if_pos hab] at HS
    go_enter Tryd.func29, Tryd.ntmps29
    go_upto_region 1 with fail
    generalize (w.alloc _).alloc _ = w2 at *
    obtain ⟨_, _, _, a3, _⟩ := h2
    obtain ⟨_, _, _, b3, _⟩ := h3
    go_wp2_with fail
    go_ret
    exact ⟨ret_bool (by rw [HS.out]), hbb⟩
  · rw [if_neg hab] at HS
    go_enter Tryd.func29, Tryd.ntmps29
    go_upto_region 1 with fail
    generalize (w.alloc _).alloc _ = w2 at *
    obtain ⟨_, _, _, a3, _⟩ := h2
    obtain ⟨_, _, _, b3, _⟩ := h3
    go_wp2_with fail
    go_ret
    exact ⟨ret_bool (by rw [HS.out]), hbb⟩
end Go.Proofs.YtbcadgooelcnhaaDoor
