/-
  store.Truncate, and the law on it.
-/
import Derived.Test.YtbcadgooelcnhaaDoorPaths
namespace Go.Proofs.YtbcadgooelcnhaaDoor
open Go.RowKit

def TruncPost (t p : Int) (w : World) (e : Ending) (w' : World) : Prop :=
  ∃ n : Int, e = .returned (.int .i64 n) ∧ w = w' ∧ (p < 1 → n = t) ∧ (1 ≤ p → -4611686018427387904 ≤ t → n = t - t % p)

theorem tmod_bounds {t p : Int} (hp : 1 ≤ p) : -p < t.tmod p ∧ t.tmod p < p ∧ (t.tmod p < 0 → t < 0) ∧ (0 < t.tmod p → 0 < t) := by
  rcases Int.lt_or_le t 0 with h | h
  · have e : t.tmod p = -((-t).tmod p) := by rw [Int.neg_tmod, Int.neg_neg]
    have h1 := Int.tmod_nonneg p (a := -t) (by omega)
    have h2 := Int.tmod_lt_of_pos (-t) (b := p) (by omega)
    omega
  · have h1 := Int.tmod_nonneg p h
    have h2 := Int.tmod_lt_of_pos t (b := p) (by omega)
    refine ⟨by omega, h2, by omega, fun h3 => ?_⟩
    rcases Int.lt_or_eq_of_le h with h4 | h4
    · exact h4
    · rw [← h4] at h3; simp at h3

theorem emod_of {t p q r : Int} (h : p * q + r = t) (h0 : 0 ≤ r) (h1 : r < p) : t % p = r := by
  rw [← h, Int.add_comm, Int.add_mul_emod_self_left, Int.emod_eq_of_lt h0 h1]

theorem trunc_low {t p : Int} (hp : 1 ≤ p) (h : t.tmod p < 0) (h1 : -4611686018427387904 ≤ t) (_h2 : t ≤ 9223372036854775807) (_h3 : p ≤ 9223372036854775807) : wrap64 (t - wrap64 (t.tmod p + p)) = t - t % p := by
  obtain ⟨b1, b2, b3, b4⟩ := tmod_bounds (t := t) hp
  have e := Int.mul_tdiv_add_tmod t p
  have e2 : t % p = t.tmod p + p := emod_of (q := t.tdiv p - 1) (by rw [Int.mul_sub]; omega) (by omega) (by omega)
  have hq : t.tdiv p ≤ 0 := by
    have := Int.tdiv_nonneg (a := -t) (b := p) (by omega) (by omega)
    rw [Int.neg_tdiv] at this
    omega
  have h4 : -9223372036854775808 < t - (t.tmod p + p) := by
    rcases Int.lt_or_le t (-p) with h5 | h5
    · omega
    · have h6 : t.tdiv p = 0 ∨ t.tmod p = 0 := by
        rcases Int.lt_or_le (t.tdiv p) 0 with h7 | h7
        · have : p * t.tdiv p ≤ p * (-1) := Int.mul_le_mul_of_nonneg_left (by omega) (by omega)
          omega
        · exact .inl (by omega)
      rcases h6 with h6 | h6
      · rw [h6, Int.mul_zero] at e
        omega
      · omega
  rw [IntWalk.wrap64_in (t.tmod p + p) ⟨by omega, by omega⟩, IntWalk.wrap64_in _ ⟨by omega, by omega⟩, e2]

theorem trunc_high {t p : Int} (hp : 1 ≤ p) (h : 0 ≤ t.tmod p) (h1 : -4611686018427387904 ≤ t) (_h2 : t ≤ 9223372036854775807) (_h3 : p ≤ 9223372036854775807) : wrap64 (t - t.tmod p) = t - t % p := by
  obtain ⟨b1, b2, b3, b4⟩ := tmod_bounds (t := t) hp
  have e := Int.mul_tdiv_add_tmod t p
  have e2 : t % p = t.tmod p := emod_of (q := t.tdiv p) e (by omega) (by omega)
  have h5 : -9223372036854775808 ≤ t - t.tmod p := by
    rcases Int.lt_or_eq_of_le h with h6 | h6
    · have := b4 h6
      omega
    · omega
  rw [IntWalk.wrap64_in (t - t.tmod p) ⟨by omega, by omega⟩, e2]

set_option maxHeartbeats 1000000 in
theorem truncate_any (t p : Int) (w : World) (ht : -9223372036854775808 ≤ t ∧ t ≤ 9223372036854775807) (hp : -9223372036854775808 ≤ p ∧ p ≤ 9223372036854775807) :
    Calls Tryd.prog 19 #[.int .i64 t, .int .i64 p] w (TruncPost t p w) := by
  obtain ⟨ht1, ht2⟩ := ht
  obtain ⟨hp1, hp2⟩ := hp
  by_cases h1 : p < 1
  · go_enter Tryd.func19, Tryd.ntmps19
    go_wp2
    go_ret
    exact ⟨t, rfl, rfl, fun _ => rfl, fun h => by omega⟩
  have h1' : ¬ (p < 1) := h1
  have hpz : (p == 0) = false := beq_eq_false_iff_ne.2 (by omega)
  go_enter Tryd.func19, Tryd.ntmps19
  go_wp2
  · go_ret
    exact ⟨_, rfl, rfl, fun h => by omega, fun _ h4 => trunc_low (by omega) (by assumption) h4 ht2 hp2⟩
  · go_ret
    exact ⟨_, rfl, rfl, fun h => by omega, fun _ h4 => trunc_high (by omega) (by assumption) h4 ht2 hp2⟩

set_option maxHeartbeats 1000000 in
theorem timesAreTruncated_walk (t p : Int) (w : World) (hE : Env w) (ht : -9223372036854775808 ≤ t ∧ t ≤ 9223372036854775807) (hp : -9223372036854775808 ≤ p ∧ p ≤ 9223372036854775807) :
    Calls Tryd.prog 4 #[.int .i64 t, .int .i64 p] w fun e w' => e = .returned (.bool true) ∧ Below w.heap.size w w' := by
  have HE := Lib.hid hE
  clear hE
  have HT := Lib.hid ht
  have HP := Lib.hid hp
  obtain ⟨ht1, ht2⟩ := ht
  obtain ⟨hp1, hp2⟩ := hp
  by_cases h1 : p < 1
  · go_enter Tryd.func4, Tryd.ntmps4
    go_wp2_with fail
    refine (landed_any w HE.out).mono ?_
    rintro e w1 ⟨rfl, hb⟩
    go_wp2_with fail
    refine (truncate_any t p _ HT.out HP.out).mono ?_
    rintro e w2 ⟨n, rfl, rfl, e1, _⟩
    obtain rfl := e1 h1
    clear e1
    go_wp2_with fail
    go_ret
    exact ⟨ret_bool (by simp), hb⟩
  by_cases h2 : t < -4611686018427387904
  · go_enter Tryd.func4, Tryd.ntmps4
    go_wp2_with fail
    refine (landed_any w HE.out).mono ?_
    rintro e w1 ⟨rfl, hb⟩
    go_wp2_with fail
    refine (truncate_any t p _ HT.out HP.out).mono ?_
    rintro e w2 ⟨n, rfl, rfl, _, _⟩
    go_wp2_with fail
    go_ret
    exact ⟨rfl, hb⟩
  · go_enter Tryd.func4, Tryd.ntmps4
    go_wp2_with fail
    refine (landed_any w HE.out).mono ?_
    rintro e w1 ⟨rfl, hb⟩
    go_wp2_with fail
    refine (truncate_any t p _ HT.out HP.out).mono ?_
    rintro e w2 ⟨n, rfl, rfl, _, e2⟩
    have e3 := e2 (by omega) (by omega)
    have m1 := Int.emod_nonneg t (b := p) (by omega)
    have m2 := Int.emod_lt_of_pos t (b := p) (by omega)
    have hmod : (t - t % p).tmod p = 0 := by
      have h5 : t - t % p = p * (t / p) := by have := Int.mul_ediv_add_emod t p; omega
      rw [h5, Int.mul_tmod_right]
    have HM := Lib.hid hmod
    clear e2 hmod
    go_wp2_with fail
    go_ret
    exact ⟨ret_bool (by rw [HM.out]; rfl), hb⟩
end Go.Proofs.YtbcadgooelcnhaaDoor
