/-
  names.PrintAge and the reference's.
-/
import Derived.Test.YtjfnkkpmmebnfaaDoorAge2
import Derived.Test.YtjfnkkpmmebnfaaDoorSize5
namespace Go.Proofs.YtjfnkkpmmebnfaaDoor
open Go.RowKit

/-- What is written of an age, from a unit on. -/
def agePrint : Nat → Nat → Int → ByteArray → ByteArray
  | 0, _, _, out => out
  | g + 1, k, n, out => if (Wh.uSize k : Int) ≤ n then agePrint g (k + 1) (n % (Wh.uSize k : Int)) (out ++ (numS (n / (Wh.uSize k : Int)) ++ uB k)) else agePrint g (k + 1) n out

/-- What is written of an age. -/
def ageText (n : Int) : ByteArray := if n < 0 ∨ 4611686018427387904 < n then ⟨#[]⟩ else if n = 0 then ⟨#[48, 115]⟩ else agePrint 8 0 n ⟨#[]⟩

theorem uB_size (k : Nat) : (uB k).size ≤ 2 := by
  rw [Lib.size_eq, uB_data]
  unfold Wh.uWord
  split <;> decide

theorem text_add (a b : ByteArray) (h : a.size + b.size ≤ 1000) : ∀ W : World, (Op.stringOp .add a b).run Tryd.prog W = .ok (.string (a ++ b)) W := fun W => by
  rw [run_string_add_sum W a b (by omega)]

theorem ageText_some {n : Int} (h0 : 0 < n) (h1 : n ≤ 4611686018427387904) : ageText n = agePrint 8 0 n ⟨#[]⟩ := by
  unfold ageText
  rw [if_neg (by omega), if_neg (by omega)]

set_option maxHeartbeats 2000000 in
set_option maxRecDepth 100000 in
theorem printAge_some (n : Int) (w : World) (hT : EnvT w) (h0 : 0 < n) (h1 : n ≤ 4611686018427387904) : Calls Tryd.prog 38 #[.int .i64 n] w (PrintPost (agePrint 8 0 n ⟨#[]⟩) 0 w) := by
  obtain ⟨R, hR⟩ : ∃ R, agePrint 8 0 n ⟨#[]⟩ = R := ⟨_, rfl⟩
  rw [hR]
  have HR0 := Lib.hid hR
  have HT := Lib.hid hT
  have hz : ¬ n = 0 := by omega
  clear hR hT
  go_enter Tryd.func38, Tryd.ntmps38
  go_wp2_with (go_at_call 85; refine (ageUnits_any _).mono ?_; rintro e w1 ⟨ub, rfl, hU, hb1⟩; have HU := Lib.hid hU; clear hU)
  go_loopg [0, 4, 18] 8 (fun g s0 s4 s18 wx => ∃ (k : Nat) (N : Int) (out : ByteArray), k + g = 8 ∧ s0 = .int .i64 N ∧ s4 = .string out ∧ s18 = .int .i64 k ∧ 0 ≤ N ∧ N ≤ 4611686018427387904 ∧ out.size ≤ 40 * k ∧ Below w1.heap.size w1 wx ∧ Hid (agePrint g k N out = R))
  case atStart => exact ⟨0, n, ⟨#[]⟩, rfl, rfl, rfl, rfl, by omega, h1, by decide, Below.refl _ _, HR0⟩
  case round =>
    obtain ⟨k, N, out, hkg, rfl, rfl, rfl, hN0, hN1, hos, hbr, HQ⟩ := hrel
    by_cases hk : k < 8
    · obtain ⟨g, rfl⟩ : ∃ g, gk = g + 1 := ⟨gk - 1, by omega⟩
      have k0 : (0 : Int) ≤ (k : Int) := by omega
      have k1 : (k : Int) < 8 := by omega
      obtain ⟨u1, u2⟩ := Wh.uSize_pos k
      obtain ⟨hc0, hc1⟩ := (HU.out.under hbr).2 k hk
      have hB2 := uB_size k
      have HQ2 := HQ.out
      unfold agePrint at HQ2
      generalize uB k = B at *
      obtain ⟨U, hU⟩ : ∃ U : Int, (Wh.uSize k : Int) = U := ⟨_, rfl⟩
      rw [hU] at HQ2 hc1
      have U1 : 1 ≤ U := by omega
      have U2 : U ≤ 604800000000000 := by omega
      clear hU u1 u2 HQ HR0
      obtain ⟨V, hV⟩ : ∃ V : Int, N / U = V := ⟨_, rfl⟩
      obtain ⟨M, hM⟩ : ∃ M : Int, N % U = M := ⟨_, rfl⟩
      rw [hV, hM] at HQ2
      have V0 : 0 ≤ V := by rw [← hV]; exact Int.ediv_nonneg hN0 (by omega)
      have V1 : V ≤ 4611686018427387904 := by rw [← hV]; exact Int.le_trans (Int.ediv_le_self _ hN0) hN1
      have M0 : 0 ≤ M := by rw [← hM]; exact Int.emod_nonneg _ (by omega)
      have M1 : M ≤ 4611686018427387904 := by rw [← hM]; have := Int.emod_lt_of_pos N (by omega : 0 < U); omega
      have hVU : 0 < V ↔ U ≤ N := by
        rw [← hV]
        constructor
        · intro h
          have := (Int.le_ediv_iff_mul_le (by omega : 0 < U) (a := 1) (b := N)).1 (by omega)
          omega
        · intro h
          have := (Int.le_ediv_iff_mul_le (by omega : 0 < U) (a := 1) (b := N)).2 (by omega)
          omega
      by_cases hge : U ≤ N
      · rw [if_pos hge] at HQ2
        have HQ3 := Lib.hid HQ2
        have V2 : 0 < V := hVU.2 hge
        clear HQ2 hVU
        have hA := numS_size V (by omega) (by omega)
        have HI := Lib.hid (fun W (hb : Below w1.heap.size w1 W) => itoa_any V W (HT.out.under (bTrans hb1 hb)) (by omega) (by omega))
        generalize numS V = A at *
        have hadd1 := text_add A B (by omega)
        have hAB : (A ++ B).size ≤ 30 := by simp; omega
        generalize A ++ B = AB at *
        have hadd2 := text_add out AB (by omega)
        have hO2 : (out ++ AB).size ≤ 40 * (k + 1) := by simp; omega
        generalize out ++ AB = O2 at *
        clear hA hB2 hAB
        go_wp2_with fail
        have hbw2 : Below w1.heap.size w1 (wr.alloc (.cells #[.string B, .int .i64 U] 140)) := bAlloc hbr _
        have hq0 : (wr.alloc (.cells #[.string B, .int .i64 U] 140)).cell? ⟨wr.heap.size, 0, none⟩ = some (.string B) := by rw [World.cell?_alloc_at _ _ _ _ rfl]; rfl
        have hq1 : (wr.alloc (.cells #[.string B, .int .i64 U] 140)).cell? ⟨wr.heap.size, 1, none⟩ = some (.int .i64 U) := by rw [World.cell?_alloc_at _ _ _ _ rfl]; rfl
        have hqs : wr.heap.size < (wr.alloc (.cells #[.string B, .int .i64 U] 140)).heap.size := by simp
        generalize (wr.alloc (.cells #[.string B, .int .i64 U] 140)) = w2 at *
        generalize wr.heap.size = bn at *
        have HS : Hid (∀ W, Below w2.heap.size w2 W → W.cell? ⟨bn, 0, none⟩ = some (.string B) ∧ W.cell? ⟨bn, 1, none⟩ = some (.int .i64 U)) := Lib.hid (fun W hb => ⟨(hb.cell (p := ⟨bn, 0, none⟩) hqs).trans hq0, (hb.cell (p := ⟨bn, 1, none⟩) hqs).trans hq1⟩)
        have HI := Lib.hid (fun W (hb : Below w2.heap.size w2 W) => HI.out W (bTrans hbw2 hb))
        have hS : Below w2.heap.size w2 w2.drew := (Below.refl _ _).drew
        clear hq0 hq1 hc0 hc1
        refine wp_region_seq (Below w2.heap.size w2) [(0, true), (1, true), (3, true), (4, true), (2, false), (5, true), (6, true), (7, true)] (by as_aux_lemma => kernel_rfl) (by as_aux_lemma => kernel_rfl) (by decide) (by as_aux_lemma => kernel_rfl) hS ?_
        intro OPS HO
        refine seq_take (o := ⟨_, _, _, _, _, _⟩) (v := ?_) (by rw [HO.out]; rfl) (by rfl) ?_ ?_
        rotate_left 1
        · first | ((intro W _; go_simp) <;> with_reducible rfl) | (intro W hW; obtain ⟨hy0, hy1⟩ := HS.out W hW; (go_simp <;> with_reducible rfl))
        try simp only [Act.put, List.setIfInBounds_toArray, List.set_cons_zero, List.set_cons_succ]
        refine seq_take (o := ⟨_, _, _, _, _, _⟩) (v := ?_) (by rw [HO.out]; rfl) (by rfl) ?_ ?_
        rotate_left 1
        · first | ((intro W _; go_simp) <;> with_reducible rfl) | (intro W hW; obtain ⟨hy0, hy1⟩ := HS.out W hW; (go_simp <;> with_reducible rfl))
        try simp only [Act.put, List.setIfInBounds_toArray, List.set_cons_zero, List.set_cons_succ]
        refine seq_take (o := ⟨_, _, _, _, _, _⟩) (v := ?_) (by rw [HO.out]; rfl) (by rfl) ?_ ?_
        rotate_left 1
        · first | ((intro W _; go_simp) <;> with_reducible rfl) | (intro W hW; obtain ⟨hy0, hy1⟩ := HS.out W hW; (go_simp <;> with_reducible rfl))
        try simp only [Act.put, List.setIfInBounds_toArray, List.set_cons_zero, List.set_cons_succ]
        refine seq_take (o := ⟨_, _, _, _, _, _⟩) (v := ?_) (by rw [HO.out]; rfl) (by rfl) ?_ ?_
        rotate_left 1
        · first | ((intro W _; go_simp) <;> with_reducible rfl) | (intro W hW; obtain ⟨hy0, hy1⟩ := HS.out W hW; (go_simp <;> with_reducible rfl))
        try simp only [Act.put, List.setIfInBounds_toArray, List.set_cons_zero, List.set_cons_succ]
        refine seq_do (o := ⟨_, _, _, _, _, _⟩) (by rw [HO.out]; rfl) (by rfl) (fun K hK => ?_)
        go_wp2_with (go_at_call 74; refine (HI.out _ hS).mono ?_; rintro e w5 ⟨rfl, hb5⟩; replace hS := bTrans hS hb5; clear hb5)
        refine hK.out _ _ hS (fun _ => ?_)
        clear hK K
        try simp only [Act.put, List.setIfInBounds_toArray, List.set_cons_zero, List.set_cons_succ]
        refine seq_take (o := ⟨_, _, _, _, _, _⟩) (v := ?_) (by rw [HO.out]; rfl) (by rfl) ?_ ?_
        rotate_left 1
        · first | ((intro W _; go_simp) <;> with_reducible rfl) | (intro W hW; obtain ⟨hy0, hy1⟩ := HS.out W hW; (go_simp <;> with_reducible rfl))
        try simp only [Act.put, List.setIfInBounds_toArray, List.set_cons_zero, List.set_cons_succ]
        refine seq_take (o := ⟨_, _, _, _, _, _⟩) (v := ?_) (by rw [HO.out]; rfl) (by rfl) ?_ ?_
        rotate_left 1
        · first | ((intro W _; go_simp) <;> with_reducible rfl) | (intro W hW; obtain ⟨hy0, hy1⟩ := HS.out W hW; (go_simp <;> with_reducible rfl))
        try simp only [Act.put, List.setIfInBounds_toArray, List.set_cons_zero, List.set_cons_succ]
        refine seq_take (o := ⟨_, _, _, _, _, _⟩) (v := ?_) (by rw [HO.out]; rfl) (by rfl) ?_ ?_
        rotate_left 1
        · first | ((intro W _; go_simp) <;> with_reducible rfl) | (intro W hW; obtain ⟨hy0, hy1⟩ := HS.out W hW; (go_simp <;> with_reducible rfl))
        try simp only [Act.put, List.setIfInBounds_toArray, List.set_cons_zero, List.set_cons_succ]
        refine seq_done ?_
        clear HO OPS
        obtain ⟨hy0, hy1⟩ := HS.out _ hS
        go_wp2_with fail
        go_roundg g
        case measure => omega
        case rel => exact ⟨k + 1, M, O2, by omega, by rw [hM], rfl, by go_num, M0, M1, hO2, bTrans hbw2 hS, HQ3⟩
      · rw [if_neg hge] at HQ2
        have HQ3 := Lib.hid HQ2
        have V2 : ¬ 0 < V := fun h => hge (hVU.1 h)
        clear HQ2 hVU
        go_wp2_with fail
        go_roundg g
        case measure => omega
        case rel => exact ⟨k + 1, N, out, by omega, rfl, rfl, by go_num, hN0, hN1, by omega, bAlloc hbr _, HQ3⟩
    · obtain rfl : k = 8 := by omega
      obtain rfl : gk = 0 := by omega
      have HQ3 : Hid (out = R) := Lib.hid HQ.out
      go_wp2_with fail
      go_ret2
      rw [← HQ3.out]
      exact ⟨rfl, bTrans hb1 hbr⟩

set_option maxHeartbeats 1000000 in
set_option maxRecDepth 100000 in
theorem printAge_out (n : Int) (w : World) (h : n < 0 ∨ 4611686018427387904 < n) : Calls Tryd.prog 38 #[.int .i64 n] w (PrintPost ⟨#[]⟩ 7 w) := by
  rcases h with h | h
  · go_enter Tryd.func38, Tryd.ntmps38
    go_wp2_with fail
    go_ret2
    exact ⟨rfl, Below.refl _ _⟩
  · have h2 : ¬ n < 0 := by omega
    go_enter Tryd.func38, Tryd.ntmps38
    go_wp2_with fail
    go_ret2
    exact ⟨rfl, Below.refl _ _⟩

set_option maxHeartbeats 1000000 in
set_option maxRecDepth 100000 in
theorem printAge_zero (w : World) : Calls Tryd.prog 38 #[.int .i64 0] w (PrintPost ⟨#[48, 115]⟩ 0 w) := by
  go_enter Tryd.func38, Tryd.ntmps38
  go_wp2_with fail
  go_ret2
  exact ⟨rfl, Below.refl _ _⟩

theorem printAge_any (n : Int) (w : World) (hT : EnvT w) : Calls Tryd.prog 38 #[.int .i64 n] w (PrintPost (ageText n) (if n < 0 ∨ 4611686018427387904 < n then 7 else 0) w) := by
  unfold ageText
  by_cases ho : n < 0 ∨ 4611686018427387904 < n
  · rw [if_pos ho, if_pos ho]
    exact printAge_out n w ho
  rw [if_neg ho, if_neg ho]
  by_cases hz : n = 0
  · rw [if_pos hz, hz]
    exact printAge_zero w
  rw [if_neg hz]
  exact printAge_some n w hT (by omega) (by omega)

set_option maxHeartbeats 2000000 in
set_option maxRecDepth 100000 in
theorem refPrintAge_some (n : Int) (w : World) (hT : EnvT w) (h0 : 0 < n) (h1 : n ≤ 4611686018427387904) : Calls Tryd.prog 39 #[.int .i64 n] w (PrintPost (agePrint 8 0 n ⟨#[]⟩) 0 w) := by
  obtain ⟨R, hR⟩ : ∃ R, agePrint 8 0 n ⟨#[]⟩ = R := ⟨_, rfl⟩
  rw [hR]
  have HR0 := Lib.hid hR
  have HT := Lib.hid hT
  have hz : ¬ n = 0 := by omega
  clear hR hT
  go_enter Tryd.func39, Tryd.ntmps39
  go_wp2_with (go_at_call 90; refine (ages_any _).mono ?_; rintro e w1 ⟨ub, uc, rfl, hU, hb1⟩; have HU := Lib.hid hU; clear hU)
  go_loopg [0, 6, 23] 8 (fun g s0 s4 s18 wx => ∃ (k : Nat) (N : Int) (out : ByteArray), k + g = 8 ∧ s0 = .int .i64 N ∧ s4 = .string out ∧ s18 = .int .i64 k ∧ 0 ≤ N ∧ N ≤ 4611686018427387904 ∧ out.size ≤ 40 * k ∧ Below w1.heap.size w1 wx ∧ Hid (agePrint g k N out = R))
  case atStart => exact ⟨0, n, ⟨#[]⟩, rfl, rfl, rfl, rfl, by omega, h1, by decide, Below.refl _ _, HR0⟩
  case round =>
    obtain ⟨k, N, out, hkg, rfl, rfl, rfl, hN0, hN1, hos, hbr, HQ⟩ := hrel
    by_cases hk : k < 8
    · obtain ⟨g, rfl⟩ : ∃ g, gk = g + 1 := ⟨gk - 1, by omega⟩
      have k0 : (0 : Int) ≤ (k : Int) := by omega
      have k1 : (k : Int) < 8 := by omega
      obtain ⟨u1, u2⟩ := Wh.uSize_pos k
      obtain ⟨hc0, hc1⟩ := (HU.out.under hbr).2.2 k hk
      rw [Nat.zero_add] at hc0
      have hB2 := uB_size k
      have HQ2 := HQ.out
      unfold agePrint at HQ2
      generalize uB k = B at *
      obtain ⟨U, hU⟩ : ∃ U : Int, (Wh.uSize k : Int) = U := ⟨_, rfl⟩
      rw [hU] at HQ2 hc1
      have U1 : 1 ≤ U := by omega
      have U2 : U ≤ 604800000000000 := by omega
      clear hU u1 u2 HQ HR0
      obtain ⟨V, hV⟩ : ∃ V : Int, N / U = V := ⟨_, rfl⟩
      obtain ⟨M, hM⟩ : ∃ M : Int, N % U = M := ⟨_, rfl⟩
      rw [hV, hM] at HQ2
      have V0 : 0 ≤ V := by rw [← hV]; exact Int.ediv_nonneg hN0 (by omega)
      have V1 : V ≤ 4611686018427387904 := by rw [← hV]; exact Int.le_trans (Int.ediv_le_self _ hN0) hN1
      have M0 : 0 ≤ M := by rw [← hM]; exact Int.emod_nonneg _ (by omega)
      have M1 : M ≤ 4611686018427387904 := by rw [← hM]; have := Int.emod_lt_of_pos N (by omega : 0 < U); omega
      have hVU : 0 < V ↔ U ≤ N := by
        rw [← hV]
        constructor
        · intro h
          have := (Int.le_ediv_iff_mul_le (by omega : 0 < U) (a := 1) (b := N)).1 (by omega)
          omega
        · intro h
          have := (Int.le_ediv_iff_mul_le (by omega : 0 < U) (a := 1) (b := N)).2 (by omega)
          omega
      by_cases hge : U ≤ N
      · rw [if_pos hge] at HQ2
        have HQ3 := Lib.hid HQ2
        have V2 : 0 < V := hVU.2 hge
        clear HQ2 hVU
        have hA := numS_size V (by omega) (by omega)
        have HI := Lib.hid (fun W (hb : Below w1.heap.size w1 W) => itoa_any V W (HT.out.under (bTrans hb1 hb)) (by omega) (by omega))
        generalize numS V = A at *
        have hadd1 := text_add A B (by omega)
        have hAB : (A ++ B).size ≤ 30 := by simp; omega
        generalize A ++ B = AB at *
        have hadd2 := text_add out AB (by omega)
        have hO2 : (out ++ AB).size ≤ 40 * (k + 1) := by simp; omega
        generalize out ++ AB = O2 at *
        clear hA hB2 hAB
        go_wp2_with fail
        have hUz : ¬ U = 0 := by omega
        have hvt : IntKind.i64.wrap (N.tdiv U) = V := by rw [Int.tdiv_eq_ediv_of_nonneg hN0, hV]; exact IntWalk.i64_in _ (by omega)
        have hub : ub < wr.heap.size := Nat.lt_of_lt_of_le HU.out.1 hbr.size
        obtain ⟨w2, hw2⟩ : ∃ w2 : World, w2 = wr := ⟨_, rfl⟩
        subst hw2
        have HS : Hid (∀ W, Below w2.heap.size w2 W → W.cell? ⟨ub, k, none⟩ = some (.string B) ∧ True) := Lib.hid (fun W hb => ⟨(hb.cell (p := ⟨ub, k, none⟩) hub).trans hc0, trivial⟩)
        have HI := Lib.hid (fun W (hb : Below w2.heap.size w2 W) => HI.out W (bTrans hbr hb))
        have hS : Below w2.heap.size w2 w2.drew := (Below.refl _ _).drew
        clear hc0 hc1
        refine wp_region_seq (Below w2.heap.size w2) [(0, true), (1, true), (2, true), (3, true), (5, true), (6, true), (7, true), (8, true), (4, false), (9, true), (10, true), (11, true)] (by as_aux_lemma => kernel_rfl) (by as_aux_lemma => kernel_rfl) (by decide) (by as_aux_lemma => kernel_rfl) hS ?_
        intro OPS HO
        refine seq_take (o := ⟨_, _, _, _, _, _⟩) (v := ?_) (by rw [HO.out]; rfl) (by rfl) ?_ ?_
        rotate_left 1
        · first | ((intro W _; go_simp) <;> with_reducible rfl) | (intro W hW; obtain ⟨hy0, hy1⟩ := HS.out W hW; (go_simp <;> with_reducible rfl))
        try simp only [Act.put, List.setIfInBounds_toArray, List.set_cons_zero, List.set_cons_succ]
        refine seq_take (o := ⟨_, _, _, _, _, _⟩) (v := ?_) (by rw [HO.out]; rfl) (by rfl) ?_ ?_
        rotate_left 1
        · first | ((intro W _; go_simp) <;> with_reducible rfl) | (intro W hW; obtain ⟨hy0, hy1⟩ := HS.out W hW; (go_simp <;> with_reducible rfl))
        try simp only [Act.put, List.setIfInBounds_toArray, List.set_cons_zero, List.set_cons_succ]
        refine seq_take (o := ⟨_, _, _, _, _, _⟩) (v := ?_) (by rw [HO.out]; rfl) (by rfl) ?_ ?_
        rotate_left 1
        · first | ((intro W _; go_simp) <;> with_reducible rfl) | (intro W hW; obtain ⟨hy0, hy1⟩ := HS.out W hW; (go_simp <;> with_reducible rfl))
        try simp only [Act.put, List.setIfInBounds_toArray, List.set_cons_zero, List.set_cons_succ]
        refine seq_take (o := ⟨_, _, _, _, _, _⟩) (v := ?_) (by rw [HO.out]; rfl) (by rfl) ?_ ?_
        rotate_left 1
        · first | ((intro W _; go_simp) <;> with_reducible rfl) | (intro W hW; obtain ⟨hy0, hy1⟩ := HS.out W hW; (go_simp <;> with_reducible rfl))
        try simp only [Act.put, List.setIfInBounds_toArray, List.set_cons_zero, List.set_cons_succ]
        refine seq_take (o := ⟨_, _, _, _, _, _⟩) (v := ?_) (by rw [HO.out]; rfl) (by rfl) ?_ ?_
        rotate_left 1
        · first | ((intro W _; go_simp) <;> with_reducible rfl) | (intro W hW; obtain ⟨hy0, hy1⟩ := HS.out W hW; (go_simp <;> with_reducible rfl))
        try simp only [Act.put, List.setIfInBounds_toArray, List.set_cons_zero, List.set_cons_succ]
        refine seq_take (o := ⟨_, _, _, _, _, _⟩) (v := ?_) (by rw [HO.out]; rfl) (by rfl) ?_ ?_
        rotate_left 1
        · first | ((intro W _; go_simp) <;> with_reducible rfl) | (intro W hW; obtain ⟨hy0, hy1⟩ := HS.out W hW; (go_simp <;> with_reducible rfl))
        try simp only [Act.put, List.setIfInBounds_toArray, List.set_cons_zero, List.set_cons_succ]
        refine seq_take (o := ⟨_, _, _, _, _, _⟩) (v := ?_) (by rw [HO.out]; rfl) (by rfl) ?_ ?_
        rotate_left 1
        · first | ((intro W _; go_simp) <;> with_reducible rfl) | (intro W hW; obtain ⟨hy0, hy1⟩ := HS.out W hW; (go_simp <;> with_reducible rfl))
        try simp only [Act.put, List.setIfInBounds_toArray, List.set_cons_zero, List.set_cons_succ]
        refine seq_take (o := ⟨_, _, _, _, _, _⟩) (v := ?_) (by rw [HO.out]; rfl) (by rfl) ?_ ?_
        rotate_left 1
        · first | ((intro W _; go_simp) <;> with_reducible rfl) | (intro W hW; obtain ⟨hy0, hy1⟩ := HS.out W hW; (go_simp <;> with_reducible rfl))
        try simp only [Act.put, List.setIfInBounds_toArray, List.set_cons_zero, List.set_cons_succ]
        refine seq_do (o := ⟨_, _, _, _, _, _⟩) (by rw [HO.out]; rfl) (by rfl) (fun K hK => ?_)
        go_wp2_with (go_at_call 74; refine (HI.out _ hS).mono ?_; rintro e w5 ⟨rfl, hb5⟩; replace hS := bTrans hS hb5; clear hb5)
        refine hK.out _ _ hS (fun _ => ?_)
        clear hK K
        try simp only [Act.put, List.setIfInBounds_toArray, List.set_cons_zero, List.set_cons_succ]
        refine seq_take (o := ⟨_, _, _, _, _, _⟩) (v := ?_) (by rw [HO.out]; rfl) (by rfl) ?_ ?_
        rotate_left 1
        · first | ((intro W _; go_simp) <;> with_reducible rfl) | (intro W hW; obtain ⟨hy0, hy1⟩ := HS.out W hW; (go_simp <;> with_reducible rfl))
        try simp only [Act.put, List.setIfInBounds_toArray, List.set_cons_zero, List.set_cons_succ]
        refine seq_take (o := ⟨_, _, _, _, _, _⟩) (v := ?_) (by rw [HO.out]; rfl) (by rfl) ?_ ?_
        rotate_left 1
        · first | ((intro W _; go_simp) <;> with_reducible rfl) | (intro W hW; obtain ⟨hy0, hy1⟩ := HS.out W hW; (go_simp <;> with_reducible rfl))
        try simp only [Act.put, List.setIfInBounds_toArray, List.set_cons_zero, List.set_cons_succ]
        refine seq_take (o := ⟨_, _, _, _, _, _⟩) (v := ?_) (by rw [HO.out]; rfl) (by rfl) ?_ ?_
        rotate_left 1
        · first | ((intro W _; go_simp) <;> with_reducible rfl) | (intro W hW; obtain ⟨hy0, hy1⟩ := HS.out W hW; (go_simp <;> with_reducible rfl))
        try simp only [Act.put, List.setIfInBounds_toArray, List.set_cons_zero, List.set_cons_succ]
        refine seq_done ?_
        clear HO OPS
        skip
        go_wp2_with fail
        go_roundg g
        case measure => omega
        case rel => exact ⟨k + 1, M, O2, by omega, by rw [hM], rfl, by go_num, M0, M1, hO2, bTrans hbr hS, HQ3⟩
      · rw [if_neg hge] at HQ2
        have HQ3 := Lib.hid HQ2
        have V2 : ¬ 0 < V := fun h => hge (hVU.1 h)
        clear HQ2 hVU
        go_wp2_with fail
        go_roundg g
        case measure => omega
        case rel => exact ⟨k + 1, N, out, by omega, rfl, rfl, by go_num, hN0, hN1, by omega, hbr, HQ3⟩
    · obtain rfl : k = 8 := by omega
      obtain rfl : gk = 0 := by omega
      have HQ3 : Hid (out = R) := Lib.hid HQ.out
      go_wp2_with fail
      go_ret2
      rw [← HQ3.out]
      exact ⟨rfl, bTrans hb1 hbr⟩

set_option maxHeartbeats 1000000 in
set_option maxRecDepth 100000 in
theorem refPrintAge_out (n : Int) (w : World) (h : n < 0 ∨ 4611686018427387904 < n) : Calls Tryd.prog 39 #[.int .i64 n] w (PrintPost ⟨#[]⟩ 7 w) := by
  rcases h with h | h
  · go_enter Tryd.func39, Tryd.ntmps39
    go_wp2_with fail
    go_ret2
    exact ⟨rfl, Below.refl _ _⟩
  · have h2 : ¬ n < 0 := by omega
    go_enter Tryd.func39, Tryd.ntmps39
    go_wp2_with fail
    go_ret2
    exact ⟨rfl, Below.refl _ _⟩

set_option maxHeartbeats 1000000 in
set_option maxRecDepth 100000 in
theorem refPrintAge_zero (w : World) : Calls Tryd.prog 39 #[.int .i64 0] w (PrintPost ⟨#[48, 115]⟩ 0 w) := by
  go_enter Tryd.func39, Tryd.ntmps39
  go_wp2_with fail
  go_ret2
  exact ⟨rfl, Below.refl _ _⟩

theorem refPrintAge_any (n : Int) (w : World) (hT : EnvT w) : Calls Tryd.prog 39 #[.int .i64 n] w (PrintPost (ageText n) (if n < 0 ∨ 4611686018427387904 < n then 7 else 0) w) := by
  unfold ageText
  by_cases ho : n < 0 ∨ 4611686018427387904 < n
  · rw [if_pos ho, if_pos ho]
    exact refPrintAge_out n w ho
  rw [if_neg ho, if_neg ho]
  by_cases hz : n = 0
  · rw [if_pos hz, hz]
    exact refPrintAge_zero w
  rw [if_neg hz]
  exact refPrintAge_some n w hT (by omega) (by omega)

end Go.Proofs.YtjfnkkpmmebnfaaDoor
