/-
  names.PrintSize and the reference's.
-/
import Derived.Test.YtjfnkkpmmebnfaaDoorSize4
import Derived.Test.YtjfnkkpmmebnfaaDoorSeq
import Derived.Lib.AppendIntMem
import Derived.Lib.ItoaLen
namespace Go.Proofs.YtjfnkkpmmebnfaaDoor
open Go.RowKit

/-- The library's table of powers is as it is laid. -/
def EnvT (w : World) : Prop := Lib.TabIs Tryd.prog w "internal/strconv.uint64pow10" .u64 Lib.pow10Tab
theorem EnvT.under {w w' : World} (h : EnvT w) (hb : Below w.heap.size w w') : EnvT w' := Lib.tabBelow_of_tabIs h w' hb

/-- A number, written. -/
def numS (n : Int) : ByteArray := ⟨(Lib.itoa n).toArray⟩

theorem itoa_any (n : Int) (w : World) (hT : EnvT w) (h0 : -9223372036854775808 ≤ n) (h1 : n ≤ 9223372036854775807) :
    Calls Tryd.prog 74 #[.int .i64 n] w fun e w' => e = .returned (.string (numS n)) ∧ Below w.heap.size w w' := by
  refine (Tryd.strconv_Itoa n h0 h1 w hT).mono ?_
  rintro e w' ⟨rfl, k, os, rfl⟩
  exact ⟨rfl, Lib.below_grow _ _ (Nat.le_refl _) _ _⟩

theorem numS_size (n : Int) (h0 : -9223372036854775808 ≤ n) (h1 : n ≤ 9223372036854775807) : (numS n).size ≤ 21 := by
  rw [Lib.size_eq]
  exact Lib.itoa_length_le n h0 h1

theorem numS_add (n : Int) (c : ByteArray) (hc : c.size ≤ 100) (h0 : -9223372036854775808 ≤ n) (h1 : n ≤ 9223372036854775807) :
    ∀ W : World, (Op.stringOp .add (numS n) c).run Tryd.prog W = .ok (.string (numS n ++ c)) W := fun W => by
  have := numS_size n h0 h1
  rw [run_string_add_sum W (numS n) c (by omega)]

/-- What PrintSize returns. -/
def PrintPost (t : ByteArray) (e0 : Int) (w : World) (e : Ending) (w' : World) : Prop := e = .returned (.tuple #[.string t, .int .i64 e0]) ∧ Below w.heap.size w w'

/-- What is written of a size. -/
def printT (n : Int) : ByteArray := if n < 0 ∨ 4611686018427387904 < n then ⟨#[]⟩ else if n = 0 then numS n else if (n % 1099511627776 == 0) = true then numS (n / 1099511627776) ++ ⟨#[84]⟩ else if (n % 1073741824 == 0) = true then numS (n / 1073741824) ++ ⟨#[71]⟩ else if (n % 1048576 == 0) = true then numS (n / 1048576) ++ ⟨#[77]⟩ else if (n % 1024 == 0) = true then numS (n / 1024) ++ ⟨#[107]⟩ else numS n

set_option maxHeartbeats 2000000 in
set_option maxRecDepth 100000 in
theorem printSize_40 (n : Int) (w : World) (hT : EnvT w) (h0 : 0 < n) (h1 : n ≤ 4611686018427387904) (q40 : (n % 1099511627776 == 0) = true) :
    Calls Tryd.prog 42 #[.int .i64 n] w (PrintPost (numS (n / 1099511627776) ++ ⟨#[84]⟩) 0 w) := by
  have HI := Lib.hid (fun W (hb : Below w.heap.size w W) => itoa_any (n / 1099511627776) W (hT.under hb) (by omega) (by omega))
  have hadd := numS_add (n / 1099511627776) ⟨#[84]⟩ (by decide) (by omega) (by omega)
  generalize numS (n / 1099511627776) = A at *
  generalize A ++ ⟨#[84]⟩ = AS at *
  clear hT
  have hw1 : IntKind.i64.wrap 1 = 1 := by decide
  have hex : (⟨#[84, 71, 77, 107]⟩ : ByteArray).extract 0 1 = ⟨#[84]⟩ := by decide
  go_enter Tryd.func42, Tryd.ntmps42
  go_wp2_with fail
  refine wp_loop_rounds 5 ?_
  rw [rounds_succ]
  go_wp2_with fail
  have hS : Below w.heap.size w w.drew := (Below.refl _ _).drew
  refine wp_region_seq (Below w.heap.size w) [(0, true), (1, true), (2, true), (4, true), (5, true), (6, true), (7, true), (8, true), (3, false), (9, true), (10, true), (11, true)] (by kernel_rfl) (by kernel_rfl) (by decide) (by kernel_rfl) hS ?_
  intro OPS HO
  refine seq_take (o := ⟨_, _, _, _, _, _⟩) (v := ?_) (by rw [HO.out]; rfl) (by rfl) ?_ ?_
  rotate_left 1
  · (intro W _; go_simp) <;> with_reducible rfl
  try simp only [Act.put, List.setIfInBounds_toArray, List.set_cons_zero, List.set_cons_succ]
  refine seq_take (o := ⟨_, _, _, _, _, _⟩) (v := ?_) (by rw [HO.out]; rfl) (by rfl) ?_ ?_
  rotate_left 1
  · (intro W _; go_simp) <;> with_reducible rfl
  try simp only [Act.put, List.setIfInBounds_toArray, List.set_cons_zero, List.set_cons_succ]
  refine seq_take (o := ⟨_, _, _, _, _, _⟩) (v := ?_) (by rw [HO.out]; rfl) (by rfl) ?_ ?_
  rotate_left 1
  · (intro W _; go_simp) <;> with_reducible rfl
  try simp only [Act.put, List.setIfInBounds_toArray, List.set_cons_zero, List.set_cons_succ]
  refine seq_take (o := ⟨_, _, _, _, _, _⟩) (v := ?_) (by rw [HO.out]; rfl) (by rfl) ?_ ?_
  rotate_left 1
  · (intro W _; go_simp) <;> with_reducible rfl
  try simp only [Act.put, List.setIfInBounds_toArray, List.set_cons_zero, List.set_cons_succ]
  refine seq_take (o := ⟨_, _, _, _, _, _⟩) (v := ?_) (by rw [HO.out]; rfl) (by rfl) ?_ ?_
  rotate_left 1
  · (intro W _; go_simp) <;> with_reducible rfl
  try simp only [Act.put, List.setIfInBounds_toArray, List.set_cons_zero, List.set_cons_succ]
  refine seq_take (o := ⟨_, _, _, _, _, _⟩) (v := ?_) (by rw [HO.out]; rfl) (by rfl) ?_ ?_
  rotate_left 1
  · (intro W _; go_simp) <;> with_reducible rfl
  try simp only [Act.put, List.setIfInBounds_toArray, List.set_cons_zero, List.set_cons_succ]
  refine seq_take (o := ⟨_, _, _, _, _, _⟩) (v := ?_) (by rw [HO.out]; rfl) (by rfl) ?_ ?_
  rotate_left 1
  · (intro W _; go_simp) <;> with_reducible rfl
  try simp only [Act.put, List.setIfInBounds_toArray, List.set_cons_zero, List.set_cons_succ]
  refine seq_take (o := ⟨_, _, _, _, _, _⟩) (v := ?_) (by rw [HO.out]; rfl) (by rfl) ?_ ?_
  rotate_left 1
  · (intro W _; go_simp) <;> with_reducible rfl
  try simp only [Act.put, List.setIfInBounds_toArray, List.set_cons_zero, List.set_cons_succ]
  refine seq_do (o := ⟨_, _, _, _, _, _⟩) (by rw [HO.out]; rfl) (by rfl) (fun K hK => ?_)
  go_wp2_with (go_at_call 74; refine (HI.out _ hS).mono ?_; rintro e w1 ⟨rfl, hb1⟩; replace hS := bTrans hS hb1; clear hb1)
  refine hK.out _ _ hS (fun _ => ?_)
  clear hK K
  try simp only [Act.put, List.setIfInBounds_toArray, List.set_cons_zero, List.set_cons_succ]
  refine seq_take (o := ⟨_, _, _, _, _, _⟩) (v := ?_) (by rw [HO.out]; rfl) (by rfl) ?_ ?_
  rotate_left 1
  · (intro W _; go_simp) <;> with_reducible rfl
  try simp only [Act.put, List.setIfInBounds_toArray, List.set_cons_zero, List.set_cons_succ]
  refine seq_take (o := ⟨_, _, _, _, _, _⟩) (v := ?_) (by rw [HO.out]; rfl) (by rfl) ?_ ?_
  rotate_left 1
  · (intro W _; go_simp) <;> with_reducible rfl
  try simp only [Act.put, List.setIfInBounds_toArray, List.set_cons_zero, List.set_cons_succ]
  refine seq_take (o := ⟨_, _, _, _, _, _⟩) (v := ?_) (by rw [HO.out]; rfl) (by rfl) ?_ ?_
  rotate_left 1
  · (intro W _; go_simp) <;> with_reducible rfl
  try simp only [Act.put, List.setIfInBounds_toArray, List.set_cons_zero, List.set_cons_succ]
  refine seq_done ?_
  clear HO OPS
  go_wp2_with fail
  go_ret2
  exact ⟨rfl, hS⟩

set_option maxHeartbeats 2000000 in
set_option maxRecDepth 100000 in
theorem printSize_30 (n : Int) (w : World) (hT : EnvT w) (h0 : 0 < n) (h1 : n ≤ 4611686018427387904) (q40 : (n % 1099511627776 == 0) = false) (q30 : (n % 1073741824 == 0) = true) :
    Calls Tryd.prog 42 #[.int .i64 n] w (PrintPost (numS (n / 1073741824) ++ ⟨#[71]⟩) 0 w) := by
  have HI := Lib.hid (fun W (hb : Below w.heap.size w W) => itoa_any (n / 1073741824) W (hT.under hb) (by omega) (by omega))
  have hadd := numS_add (n / 1073741824) ⟨#[71]⟩ (by decide) (by omega) (by omega)
  generalize numS (n / 1073741824) = A at *
  generalize A ++ ⟨#[71]⟩ = AS at *
  clear hT
  have hw1 : IntKind.i64.wrap 2 = 2 := by decide
  have hex : (⟨#[84, 71, 77, 107]⟩ : ByteArray).extract 1 2 = ⟨#[71]⟩ := by decide
  go_enter Tryd.func42, Tryd.ntmps42
  go_wp2_with fail
  refine wp_loop_rounds 5 ?_
  rw [rounds_succ]
  go_wp2_with fail
  rw [rounds_succ]
  go_wp2_with fail
  have hS : Below w.heap.size w w.drew := (Below.refl _ _).drew
  refine wp_region_seq (Below w.heap.size w) [(0, true), (1, true), (2, true), (4, true), (5, true), (6, true), (7, true), (8, true), (3, false), (9, true), (10, true), (11, true)] (by kernel_rfl) (by kernel_rfl) (by decide) (by kernel_rfl) hS ?_
  intro OPS HO
  refine seq_take (o := ⟨_, _, _, _, _, _⟩) (v := ?_) (by rw [HO.out]; rfl) (by rfl) ?_ ?_
  rotate_left 1
  · (intro W _; go_simp) <;> with_reducible rfl
  try simp only [Act.put, List.setIfInBounds_toArray, List.set_cons_zero, List.set_cons_succ]
  refine seq_take (o := ⟨_, _, _, _, _, _⟩) (v := ?_) (by rw [HO.out]; rfl) (by rfl) ?_ ?_
  rotate_left 1
  · (intro W _; go_simp) <;> with_reducible rfl
  try simp only [Act.put, List.setIfInBounds_toArray, List.set_cons_zero, List.set_cons_succ]
  refine seq_take (o := ⟨_, _, _, _, _, _⟩) (v := ?_) (by rw [HO.out]; rfl) (by rfl) ?_ ?_
  rotate_left 1
  · (intro W _; go_simp) <;> with_reducible rfl
  try simp only [Act.put, List.setIfInBounds_toArray, List.set_cons_zero, List.set_cons_succ]
  refine seq_take (o := ⟨_, _, _, _, _, _⟩) (v := ?_) (by rw [HO.out]; rfl) (by rfl) ?_ ?_
  rotate_left 1
  · (intro W _; go_simp) <;> with_reducible rfl
  try simp only [Act.put, List.setIfInBounds_toArray, List.set_cons_zero, List.set_cons_succ]
  refine seq_take (o := ⟨_, _, _, _, _, _⟩) (v := ?_) (by rw [HO.out]; rfl) (by rfl) ?_ ?_
  rotate_left 1
  · (intro W _; go_simp) <;> with_reducible rfl
  try simp only [Act.put, List.setIfInBounds_toArray, List.set_cons_zero, List.set_cons_succ]
  refine seq_take (o := ⟨_, _, _, _, _, _⟩) (v := ?_) (by rw [HO.out]; rfl) (by rfl) ?_ ?_
  rotate_left 1
  · (intro W _; go_simp) <;> with_reducible rfl
  try simp only [Act.put, List.setIfInBounds_toArray, List.set_cons_zero, List.set_cons_succ]
  refine seq_take (o := ⟨_, _, _, _, _, _⟩) (v := ?_) (by rw [HO.out]; rfl) (by rfl) ?_ ?_
  rotate_left 1
  · (intro W _; go_simp) <;> with_reducible rfl
  try simp only [Act.put, List.setIfInBounds_toArray, List.set_cons_zero, List.set_cons_succ]
  refine seq_take (o := ⟨_, _, _, _, _, _⟩) (v := ?_) (by rw [HO.out]; rfl) (by rfl) ?_ ?_
  rotate_left 1
  · (intro W _; go_simp) <;> with_reducible rfl
  try simp only [Act.put, List.setIfInBounds_toArray, List.set_cons_zero, List.set_cons_succ]
  refine seq_do (o := ⟨_, _, _, _, _, _⟩) (by rw [HO.out]; rfl) (by rfl) (fun K hK => ?_)
  go_wp2_with (go_at_call 74; refine (HI.out _ hS).mono ?_; rintro e w1 ⟨rfl, hb1⟩; replace hS := bTrans hS hb1; clear hb1)
  refine hK.out _ _ hS (fun _ => ?_)
  clear hK K
  try simp only [Act.put, List.setIfInBounds_toArray, List.set_cons_zero, List.set_cons_succ]
  refine seq_take (o := ⟨_, _, _, _, _, _⟩) (v := ?_) (by rw [HO.out]; rfl) (by rfl) ?_ ?_
  rotate_left 1
  · (intro W _; go_simp) <;> with_reducible rfl
  try simp only [Act.put, List.setIfInBounds_toArray, List.set_cons_zero, List.set_cons_succ]
  refine seq_take (o := ⟨_, _, _, _, _, _⟩) (v := ?_) (by rw [HO.out]; rfl) (by rfl) ?_ ?_
  rotate_left 1
  · (intro W _; go_simp) <;> with_reducible rfl
  try simp only [Act.put, List.setIfInBounds_toArray, List.set_cons_zero, List.set_cons_succ]
  refine seq_take (o := ⟨_, _, _, _, _, _⟩) (v := ?_) (by rw [HO.out]; rfl) (by rfl) ?_ ?_
  rotate_left 1
  · (intro W _; go_simp) <;> with_reducible rfl
  try simp only [Act.put, List.setIfInBounds_toArray, List.set_cons_zero, List.set_cons_succ]
  refine seq_done ?_
  clear HO OPS
  go_wp2_with fail
  go_ret2
  exact ⟨rfl, hS⟩

set_option maxHeartbeats 2000000 in
set_option maxRecDepth 100000 in
theorem printSize_20 (n : Int) (w : World) (hT : EnvT w) (h0 : 0 < n) (h1 : n ≤ 4611686018427387904) (q40 : (n % 1099511627776 == 0) = false) (q30 : (n % 1073741824 == 0) = false) (q20 : (n % 1048576 == 0) = true) :
    Calls Tryd.prog 42 #[.int .i64 n] w (PrintPost (numS (n / 1048576) ++ ⟨#[77]⟩) 0 w) := by
  have HI := Lib.hid (fun W (hb : Below w.heap.size w W) => itoa_any (n / 1048576) W (hT.under hb) (by omega) (by omega))
  have hadd := numS_add (n / 1048576) ⟨#[77]⟩ (by decide) (by omega) (by omega)
  generalize numS (n / 1048576) = A at *
  generalize A ++ ⟨#[77]⟩ = AS at *
  clear hT
  have hw1 : IntKind.i64.wrap 3 = 3 := by decide
  have hex : (⟨#[84, 71, 77, 107]⟩ : ByteArray).extract 2 3 = ⟨#[77]⟩ := by decide
  go_enter Tryd.func42, Tryd.ntmps42
  go_wp2_with fail
  refine wp_loop_rounds 5 ?_
  rw [rounds_succ]
  go_wp2_with fail
  rw [rounds_succ]
  go_wp2_with fail
  rw [rounds_succ]
  go_wp2_with fail
  have hS : Below w.heap.size w w.drew := (Below.refl _ _).drew
  refine wp_region_seq (Below w.heap.size w) [(0, true), (1, true), (2, true), (4, true), (5, true), (6, true), (7, true), (8, true), (3, false), (9, true), (10, true), (11, true)] (by kernel_rfl) (by kernel_rfl) (by decide) (by kernel_rfl) hS ?_
  intro OPS HO
  refine seq_take (o := ⟨_, _, _, _, _, _⟩) (v := ?_) (by rw [HO.out]; rfl) (by rfl) ?_ ?_
  rotate_left 1
  · (intro W _; go_simp) <;> with_reducible rfl
  try simp only [Act.put, List.setIfInBounds_toArray, List.set_cons_zero, List.set_cons_succ]
  refine seq_take (o := ⟨_, _, _, _, _, _⟩) (v := ?_) (by rw [HO.out]; rfl) (by rfl) ?_ ?_
  rotate_left 1
  · (intro W _; go_simp) <;> with_reducible rfl
  try simp only [Act.put, List.setIfInBounds_toArray, List.set_cons_zero, List.set_cons_succ]
  refine seq_take (o := ⟨_, _, _, _, _, _⟩) (v := ?_) (by rw [HO.out]; rfl) (by rfl) ?_ ?_
  rotate_left 1
  · (intro W _; go_simp) <;> with_reducible rfl
  try simp only [Act.put, List.setIfInBounds_toArray, List.set_cons_zero, List.set_cons_succ]
  refine seq_take (o := ⟨_, _, _, _, _, _⟩) (v := ?_) (by rw [HO.out]; rfl) (by rfl) ?_ ?_
  rotate_left 1
  · (intro W _; go_simp) <;> with_reducible rfl
  try simp only [Act.put, List.setIfInBounds_toArray, List.set_cons_zero, List.set_cons_succ]
  refine seq_take (o := ⟨_, _, _, _, _, _⟩) (v := ?_) (by rw [HO.out]; rfl) (by rfl) ?_ ?_
  rotate_left 1
  · (intro W _; go_simp) <;> with_reducible rfl
  try simp only [Act.put, List.setIfInBounds_toArray, List.set_cons_zero, List.set_cons_succ]
  refine seq_take (o := ⟨_, _, _, _, _, _⟩) (v := ?_) (by rw [HO.out]; rfl) (by rfl) ?_ ?_
  rotate_left 1
  · (intro W _; go_simp) <;> with_reducible rfl
  try simp only [Act.put, List.setIfInBounds_toArray, List.set_cons_zero, List.set_cons_succ]
  refine seq_take (o := ⟨_, _, _, _, _, _⟩) (v := ?_) (by rw [HO.out]; rfl) (by rfl) ?_ ?_
  rotate_left 1
  · (intro W _; go_simp) <;> with_reducible rfl
  try simp only [Act.put, List.setIfInBounds_toArray, List.set_cons_zero, List.set_cons_succ]
  refine seq_take (o := ⟨_, _, _, _, _, _⟩) (v := ?_) (by rw [HO.out]; rfl) (by rfl) ?_ ?_
  rotate_left 1
  · (intro W _; go_simp) <;> with_reducible rfl
  try simp only [Act.put, List.setIfInBounds_toArray, List.set_cons_zero, List.set_cons_succ]
  refine seq_do (o := ⟨_, _, _, _, _, _⟩) (by rw [HO.out]; rfl) (by rfl) (fun K hK => ?_)
  go_wp2_with (go_at_call 74; refine (HI.out _ hS).mono ?_; rintro e w1 ⟨rfl, hb1⟩; replace hS := bTrans hS hb1; clear hb1)
  refine hK.out _ _ hS (fun _ => ?_)
  clear hK K
  try simp only [Act.put, List.setIfInBounds_toArray, List.set_cons_zero, List.set_cons_succ]
  refine seq_take (o := ⟨_, _, _, _, _, _⟩) (v := ?_) (by rw [HO.out]; rfl) (by rfl) ?_ ?_
  rotate_left 1
  · (intro W _; go_simp) <;> with_reducible rfl
  try simp only [Act.put, List.setIfInBounds_toArray, List.set_cons_zero, List.set_cons_succ]
  refine seq_take (o := ⟨_, _, _, _, _, _⟩) (v := ?_) (by rw [HO.out]; rfl) (by rfl) ?_ ?_
  rotate_left 1
  · (intro W _; go_simp) <;> with_reducible rfl
  try simp only [Act.put, List.setIfInBounds_toArray, List.set_cons_zero, List.set_cons_succ]
  refine seq_take (o := ⟨_, _, _, _, _, _⟩) (v := ?_) (by rw [HO.out]; rfl) (by rfl) ?_ ?_
  rotate_left 1
  · (intro W _; go_simp) <;> with_reducible rfl
  try simp only [Act.put, List.setIfInBounds_toArray, List.set_cons_zero, List.set_cons_succ]
  refine seq_done ?_
  clear HO OPS
  go_wp2_with fail
  go_ret2
  exact ⟨rfl, hS⟩

set_option maxHeartbeats 2000000 in
set_option maxRecDepth 100000 in
theorem printSize_10 (n : Int) (w : World) (hT : EnvT w) (h0 : 0 < n) (h1 : n ≤ 4611686018427387904) (q40 : (n % 1099511627776 == 0) = false) (q30 : (n % 1073741824 == 0) = false) (q20 : (n % 1048576 == 0) = false) (q10 : (n % 1024 == 0) = true) :
    Calls Tryd.prog 42 #[.int .i64 n] w (PrintPost (numS (n / 1024) ++ ⟨#[107]⟩) 0 w) := by
  have HI := Lib.hid (fun W (hb : Below w.heap.size w W) => itoa_any (n / 1024) W (hT.under hb) (by omega) (by omega))
  have hadd := numS_add (n / 1024) ⟨#[107]⟩ (by decide) (by omega) (by omega)
  generalize numS (n / 1024) = A at *
  generalize A ++ ⟨#[107]⟩ = AS at *
  clear hT
  have hw1 : IntKind.i64.wrap 4 = 4 := by decide
  have hex : (⟨#[84, 71, 77, 107]⟩ : ByteArray).extract 3 4 = ⟨#[107]⟩ := by decide
  go_enter Tryd.func42, Tryd.ntmps42
  go_wp2_with fail
  refine wp_loop_rounds 5 ?_
  rw [rounds_succ]
  go_wp2_with fail
  rw [rounds_succ]
  go_wp2_with fail
  rw [rounds_succ]
  go_wp2_with fail
  rw [rounds_succ]
  go_wp2_with fail
  have hS : Below w.heap.size w w.drew := (Below.refl _ _).drew
  refine wp_region_seq (Below w.heap.size w) [(0, true), (1, true), (2, true), (4, true), (5, true), (6, true), (7, true), (8, true), (3, false), (9, true), (10, true), (11, true)] (by kernel_rfl) (by kernel_rfl) (by decide) (by kernel_rfl) hS ?_
  intro OPS HO
  refine seq_take (o := ⟨_, _, _, _, _, _⟩) (v := ?_) (by rw [HO.out]; rfl) (by rfl) ?_ ?_
  rotate_left 1
  · (intro W _; go_simp) <;> with_reducible rfl
  try simp only [Act.put, List.setIfInBounds_toArray, List.set_cons_zero, List.set_cons_succ]
  refine seq_take (o := ⟨_, _, _, _, _, _⟩) (v := ?_) (by rw [HO.out]; rfl) (by rfl) ?_ ?_
  rotate_left 1
  · (intro W _; go_simp) <;> with_reducible rfl
  try simp only [Act.put, List.setIfInBounds_toArray, List.set_cons_zero, List.set_cons_succ]
  refine seq_take (o := ⟨_, _, _, _, _, _⟩) (v := ?_) (by rw [HO.out]; rfl) (by rfl) ?_ ?_
  rotate_left 1
  · (intro W _; go_simp) <;> with_reducible rfl
  try simp only [Act.put, List.setIfInBounds_toArray, List.set_cons_zero, List.set_cons_succ]
  refine seq_take (o := ⟨_, _, _, _, _, _⟩) (v := ?_) (by rw [HO.out]; rfl) (by rfl) ?_ ?_
  rotate_left 1
  · (intro W _; go_simp) <;> with_reducible rfl
  try simp only [Act.put, List.setIfInBounds_toArray, List.set_cons_zero, List.set_cons_succ]
  refine seq_take (o := ⟨_, _, _, _, _, _⟩) (v := ?_) (by rw [HO.out]; rfl) (by rfl) ?_ ?_
  rotate_left 1
  · (intro W _; go_simp) <;> with_reducible rfl
  try simp only [Act.put, List.setIfInBounds_toArray, List.set_cons_zero, List.set_cons_succ]
  refine seq_take (o := ⟨_, _, _, _, _, _⟩) (v := ?_) (by rw [HO.out]; rfl) (by rfl) ?_ ?_
  rotate_left 1
  · (intro W _; go_simp) <;> with_reducible rfl
  try simp only [Act.put, List.setIfInBounds_toArray, List.set_cons_zero, List.set_cons_succ]
  refine seq_take (o := ⟨_, _, _, _, _, _⟩) (v := ?_) (by rw [HO.out]; rfl) (by rfl) ?_ ?_
  rotate_left 1
  · (intro W _; go_simp) <;> with_reducible rfl
  try simp only [Act.put, List.setIfInBounds_toArray, List.set_cons_zero, List.set_cons_succ]
  refine seq_take (o := ⟨_, _, _, _, _, _⟩) (v := ?_) (by rw [HO.out]; rfl) (by rfl) ?_ ?_
  rotate_left 1
  · (intro W _; go_simp) <;> with_reducible rfl
  try simp only [Act.put, List.setIfInBounds_toArray, List.set_cons_zero, List.set_cons_succ]
  refine seq_do (o := ⟨_, _, _, _, _, _⟩) (by rw [HO.out]; rfl) (by rfl) (fun K hK => ?_)
  go_wp2_with (go_at_call 74; refine (HI.out _ hS).mono ?_; rintro e w1 ⟨rfl, hb1⟩; replace hS := bTrans hS hb1; clear hb1)
  refine hK.out _ _ hS (fun _ => ?_)
  clear hK K
  try simp only [Act.put, List.setIfInBounds_toArray, List.set_cons_zero, List.set_cons_succ]
  refine seq_take (o := ⟨_, _, _, _, _, _⟩) (v := ?_) (by rw [HO.out]; rfl) (by rfl) ?_ ?_
  rotate_left 1
  · (intro W _; go_simp) <;> with_reducible rfl
  try simp only [Act.put, List.setIfInBounds_toArray, List.set_cons_zero, List.set_cons_succ]
  refine seq_take (o := ⟨_, _, _, _, _, _⟩) (v := ?_) (by rw [HO.out]; rfl) (by rfl) ?_ ?_
  rotate_left 1
  · (intro W _; go_simp) <;> with_reducible rfl
  try simp only [Act.put, List.setIfInBounds_toArray, List.set_cons_zero, List.set_cons_succ]
  refine seq_take (o := ⟨_, _, _, _, _, _⟩) (v := ?_) (by rw [HO.out]; rfl) (by rfl) ?_ ?_
  rotate_left 1
  · (intro W _; go_simp) <;> with_reducible rfl
  try simp only [Act.put, List.setIfInBounds_toArray, List.set_cons_zero, List.set_cons_succ]
  refine seq_done ?_
  clear HO OPS
  go_wp2_with fail
  go_ret2
  exact ⟨rfl, hS⟩

set_option maxHeartbeats 2000000 in
set_option maxRecDepth 100000 in
theorem printSize_none (n : Int) (w : World) (hT : EnvT w) (h0 : 0 < n) (h1 : n ≤ 4611686018427387904) (q40 : (n % 1099511627776 == 0) = false) (q30 : (n % 1073741824 == 0) = false) (q20 : (n % 1048576 == 0) = false) (q10 : (n % 1024 == 0) = false) :
    Calls Tryd.prog 42 #[.int .i64 n] w (PrintPost (numS n) 0 w) := by
  have HI := Lib.hid (fun W (hb : Below w.heap.size w W) => itoa_any n W (hT.under hb) (by omega) (by omega))
  generalize numS n = A at *
  clear hT
  go_enter Tryd.func42, Tryd.ntmps42
  go_wp2_with fail
  refine wp_loop_rounds 5 ?_
  rw [rounds_succ]
  go_wp2_with fail
  rw [rounds_succ]
  go_wp2_with fail
  rw [rounds_succ]
  go_wp2_with fail
  rw [rounds_succ]
  go_wp2_with fail
  rw [rounds_succ]
  go_wp2_with (go_at_call 74; refine (HI.out _ (Below.refl _ _)).mono ?_; rintro e w1 ⟨rfl, hb1⟩)
  go_ret2
  exact ⟨rfl, hb1⟩

set_option maxHeartbeats 2000000 in
set_option maxRecDepth 100000 in
theorem printSize_zero (n : Int) (w : World) (hT : EnvT w) (h0 : n = 0) :
    Calls Tryd.prog 42 #[.int .i64 n] w (PrintPost (numS n) 0 w) := by
  subst h0
  have HI := Lib.hid (fun W (hb : Below w.heap.size w W) => itoa_any 0 W (hT.under hb) (by omega) (by omega))
  generalize numS 0 = A at *
  clear hT
  go_enter Tryd.func42, Tryd.ntmps42
  go_wp2_with fail
  refine wp_loop_rounds 5 ?_
  rw [rounds_succ]
  go_wp2_with fail
  rw [rounds_succ]
  go_wp2_with fail
  rw [rounds_succ]
  go_wp2_with fail
  rw [rounds_succ]
  go_wp2_with fail
  rw [rounds_succ]
  go_wp2_with (go_at_call 74; refine (HI.out _ (Below.refl _ _)).mono ?_; rintro e w1 ⟨rfl, hb1⟩)
  go_ret2
  exact ⟨rfl, hb1⟩

set_option maxHeartbeats 2000000 in
set_option maxRecDepth 100000 in
theorem printSize_out (n : Int) (w : World) (h : n < 0 ∨ 4611686018427387904 < n) : Calls Tryd.prog 42 #[.int .i64 n] w (PrintPost ⟨#[]⟩ 7 w) := by
  rcases h with h | h
  · go_enter Tryd.func42, Tryd.ntmps42
    go_wp2_with fail
    go_ret2
    exact ⟨rfl, Below.refl _ _⟩
  · have h2 : ¬ n < 0 := by omega
    go_enter Tryd.func42, Tryd.ntmps42
    go_wp2_with fail
    go_ret2
    exact ⟨rfl, Below.refl _ _⟩

theorem printSize_any (n : Int) (w : World) (hT : EnvT w) : Calls Tryd.prog 42 #[.int .i64 n] w (PrintPost (printT n) (if n < 0 ∨ 4611686018427387904 < n then 7 else 0) w) := by
  unfold printT
  by_cases ho : n < 0 ∨ 4611686018427387904 < n
  · rw [if_pos ho, if_pos ho]
    exact printSize_out n w ho
  rw [if_neg ho, if_neg ho]
  have h1 : n ≤ 4611686018427387904 := by omega
  by_cases hz : n = 0
  · rw [if_pos hz]
    exact printSize_zero n w hT hz
  rw [if_neg hz]
  have h0 : 0 < n := by omega
  cases q40 : (n % 1099511627776 == 0)
  case true =>
    rw [if_pos rfl]
    exact printSize_40 n w hT h0 h1 q40
  rw [if_neg (by simp)]
  cases q30 : (n % 1073741824 == 0)
  case true =>
    rw [if_pos rfl]
    exact printSize_30 n w hT h0 h1 q40 q30
  rw [if_neg (by simp)]
  cases q20 : (n % 1048576 == 0)
  case true =>
    rw [if_pos rfl]
    exact printSize_20 n w hT h0 h1 q40 q30 q20
  rw [if_neg (by simp)]
  cases q10 : (n % 1024 == 0)
  case true =>
    rw [if_pos rfl]
    exact printSize_10 n w hT h0 h1 q40 q30 q20 q10
  rw [if_neg (by simp)]
  exact printSize_none n w hT h0 h1 q40 q30 q20 q10

set_option maxHeartbeats 2000000 in
set_option maxRecDepth 100000 in
theorem refPrintSize_40 (n : Int) (w : World) (hT : EnvT w) (h0 : 0 < n) (h1 : n ≤ 4611686018427387904) (q40 : (n % 1099511627776 == 0) = true) :
    Calls Tryd.prog 43 #[.int .i64 n] w (PrintPost (numS (n / 1099511627776) ++ ⟨#[84]⟩) 0 w) := by
  have HI := Lib.hid (fun W (hb : Below w.heap.size w W) => itoa_any (n / 1099511627776) W (hT.under hb) (by omega) (by omega))
  have hadd := numS_add (n / 1099511627776) ⟨#[84]⟩ (by decide) (by omega) (by omega)
  generalize numS (n / 1099511627776) = A at *
  generalize A ++ ⟨#[84]⟩ = AS at *
  clear hT
  have hw1 : IntKind.i64.wrap 5 = 5 := by decide
  have hex : (⟨#[98, 107, 77, 71, 84]⟩ : ByteArray).extract 4 5 = ⟨#[84]⟩ := by decide
  go_enter Tryd.func43, Tryd.ntmps43
  go_wp2_with fail
  refine wp_loop_rounds 5 ?_
  rw [rounds_succ]
  go_wp2_with fail
  have hS : Below w.heap.size w w.drew := (Below.refl _ _).drew
  refine wp_region_seq (Below w.heap.size w) [(0, true), (1, true), (2, true), (4, true), (5, true), (6, true), (7, true), (3, false), (8, true), (9, true), (10, true)] (by kernel_rfl) (by kernel_rfl) (by decide) (by kernel_rfl) hS ?_
  intro OPS HO
  refine seq_take (o := ⟨_, _, _, _, _, _⟩) (v := ?_) (by rw [HO.out]; rfl) (by rfl) ?_ ?_
  rotate_left 1
  · (intro W _; go_simp) <;> with_reducible rfl
  try simp only [Act.put, List.setIfInBounds_toArray, List.set_cons_zero, List.set_cons_succ]
  refine seq_take (o := ⟨_, _, _, _, _, _⟩) (v := ?_) (by rw [HO.out]; rfl) (by rfl) ?_ ?_
  rotate_left 1
  · (intro W _; go_simp) <;> with_reducible rfl
  try simp only [Act.put, List.setIfInBounds_toArray, List.set_cons_zero, List.set_cons_succ]
  refine seq_take (o := ⟨_, _, _, _, _, _⟩) (v := ?_) (by rw [HO.out]; rfl) (by rfl) ?_ ?_
  rotate_left 1
  · (intro W _; go_simp) <;> with_reducible rfl
  try simp only [Act.put, List.setIfInBounds_toArray, List.set_cons_zero, List.set_cons_succ]
  refine seq_take (o := ⟨_, _, _, _, _, _⟩) (v := ?_) (by rw [HO.out]; rfl) (by rfl) ?_ ?_
  rotate_left 1
  · (intro W _; go_simp) <;> with_reducible rfl
  try simp only [Act.put, List.setIfInBounds_toArray, List.set_cons_zero, List.set_cons_succ]
  refine seq_take (o := ⟨_, _, _, _, _, _⟩) (v := ?_) (by rw [HO.out]; rfl) (by rfl) ?_ ?_
  rotate_left 1
  · (intro W _; go_simp) <;> with_reducible rfl
  try simp only [Act.put, List.setIfInBounds_toArray, List.set_cons_zero, List.set_cons_succ]
  refine seq_take (o := ⟨_, _, _, _, _, _⟩) (v := ?_) (by rw [HO.out]; rfl) (by rfl) ?_ ?_
  rotate_left 1
  · (intro W _; go_simp) <;> with_reducible rfl
  try simp only [Act.put, List.setIfInBounds_toArray, List.set_cons_zero, List.set_cons_succ]
  refine seq_take (o := ⟨_, _, _, _, _, _⟩) (v := ?_) (by rw [HO.out]; rfl) (by rfl) ?_ ?_
  rotate_left 1
  · (intro W _; go_simp) <;> with_reducible rfl
  try simp only [Act.put, List.setIfInBounds_toArray, List.set_cons_zero, List.set_cons_succ]
  refine seq_do (o := ⟨_, _, _, _, _, _⟩) (by rw [HO.out]; rfl) (by rfl) (fun K hK => ?_)
  go_wp2_with (go_at_call 74; refine (HI.out _ hS).mono ?_; rintro e w1 ⟨rfl, hb1⟩; replace hS := bTrans hS hb1; clear hb1)
  refine hK.out _ _ hS (fun _ => ?_)
  clear hK K
  try simp only [Act.put, List.setIfInBounds_toArray, List.set_cons_zero, List.set_cons_succ]
  refine seq_take (o := ⟨_, _, _, _, _, _⟩) (v := ?_) (by rw [HO.out]; rfl) (by rfl) ?_ ?_
  rotate_left 1
  · (intro W _; go_simp) <;> with_reducible rfl
  try simp only [Act.put, List.setIfInBounds_toArray, List.set_cons_zero, List.set_cons_succ]
  refine seq_take (o := ⟨_, _, _, _, _, _⟩) (v := ?_) (by rw [HO.out]; rfl) (by rfl) ?_ ?_
  rotate_left 1
  · (intro W _; go_simp) <;> with_reducible rfl
  try simp only [Act.put, List.setIfInBounds_toArray, List.set_cons_zero, List.set_cons_succ]
  refine seq_take (o := ⟨_, _, _, _, _, _⟩) (v := ?_) (by rw [HO.out]; rfl) (by rfl) ?_ ?_
  rotate_left 1
  · (intro W _; go_simp) <;> with_reducible rfl
  try simp only [Act.put, List.setIfInBounds_toArray, List.set_cons_zero, List.set_cons_succ]
  refine seq_done ?_
  clear HO OPS
  go_wp2_with fail
  go_ret2
  exact ⟨rfl, hS⟩

set_option maxHeartbeats 2000000 in
set_option maxRecDepth 100000 in
theorem refPrintSize_30 (n : Int) (w : World) (hT : EnvT w) (h0 : 0 < n) (h1 : n ≤ 4611686018427387904) (q40 : (n % 1099511627776 == 0) = false) (q30 : (n % 1073741824 == 0) = true) :
    Calls Tryd.prog 43 #[.int .i64 n] w (PrintPost (numS (n / 1073741824) ++ ⟨#[71]⟩) 0 w) := by
  have HI := Lib.hid (fun W (hb : Below w.heap.size w W) => itoa_any (n / 1073741824) W (hT.under hb) (by omega) (by omega))
  have hadd := numS_add (n / 1073741824) ⟨#[71]⟩ (by decide) (by omega) (by omega)
  generalize numS (n / 1073741824) = A at *
  generalize A ++ ⟨#[71]⟩ = AS at *
  clear hT
  have hw1 : IntKind.i64.wrap 4 = 4 := by decide
  have hex : (⟨#[98, 107, 77, 71, 84]⟩ : ByteArray).extract 3 4 = ⟨#[71]⟩ := by decide
  go_enter Tryd.func43, Tryd.ntmps43
  go_wp2_with fail
  refine wp_loop_rounds 5 ?_
  rw [rounds_succ]
  go_wp2_with fail
  rw [rounds_succ]
  go_wp2_with fail
  have hS : Below w.heap.size w w.drew := (Below.refl _ _).drew
  refine wp_region_seq (Below w.heap.size w) [(0, true), (1, true), (2, true), (4, true), (5, true), (6, true), (7, true), (3, false), (8, true), (9, true), (10, true)] (by kernel_rfl) (by kernel_rfl) (by decide) (by kernel_rfl) hS ?_
  intro OPS HO
  refine seq_take (o := ⟨_, _, _, _, _, _⟩) (v := ?_) (by rw [HO.out]; rfl) (by rfl) ?_ ?_
  rotate_left 1
  · (intro W _; go_simp) <;> with_reducible rfl
  try simp only [Act.put, List.setIfInBounds_toArray, List.set_cons_zero, List.set_cons_succ]
  refine seq_take (o := ⟨_, _, _, _, _, _⟩) (v := ?_) (by rw [HO.out]; rfl) (by rfl) ?_ ?_
  rotate_left 1
  · (intro W _; go_simp) <;> with_reducible rfl
  try simp only [Act.put, List.setIfInBounds_toArray, List.set_cons_zero, List.set_cons_succ]
  refine seq_take (o := ⟨_, _, _, _, _, _⟩) (v := ?_) (by rw [HO.out]; rfl) (by rfl) ?_ ?_
  rotate_left 1
  · (intro W _; go_simp) <;> with_reducible rfl
  try simp only [Act.put, List.setIfInBounds_toArray, List.set_cons_zero, List.set_cons_succ]
  refine seq_take (o := ⟨_, _, _, _, _, _⟩) (v := ?_) (by rw [HO.out]; rfl) (by rfl) ?_ ?_
  rotate_left 1
  · (intro W _; go_simp) <;> with_reducible rfl
  try simp only [Act.put, List.setIfInBounds_toArray, List.set_cons_zero, List.set_cons_succ]
  refine seq_take (o := ⟨_, _, _, _, _, _⟩) (v := ?_) (by rw [HO.out]; rfl) (by rfl) ?_ ?_
  rotate_left 1
  · (intro W _; go_simp) <;> with_reducible rfl
  try simp only [Act.put, List.setIfInBounds_toArray, List.set_cons_zero, List.set_cons_succ]
  refine seq_take (o := ⟨_, _, _, _, _, _⟩) (v := ?_) (by rw [HO.out]; rfl) (by rfl) ?_ ?_
  rotate_left 1
  · (intro W _; go_simp) <;> with_reducible rfl
  try simp only [Act.put, List.setIfInBounds_toArray, List.set_cons_zero, List.set_cons_succ]
  refine seq_take (o := ⟨_, _, _, _, _, _⟩) (v := ?_) (by rw [HO.out]; rfl) (by rfl) ?_ ?_
  rotate_left 1
  · (intro W _; go_simp) <;> with_reducible rfl
  try simp only [Act.put, List.setIfInBounds_toArray, List.set_cons_zero, List.set_cons_succ]
  refine seq_do (o := ⟨_, _, _, _, _, _⟩) (by rw [HO.out]; rfl) (by rfl) (fun K hK => ?_)
  go_wp2_with (go_at_call 74; refine (HI.out _ hS).mono ?_; rintro e w1 ⟨rfl, hb1⟩; replace hS := bTrans hS hb1; clear hb1)
  refine hK.out _ _ hS (fun _ => ?_)
  clear hK K
  try simp only [Act.put, List.setIfInBounds_toArray, List.set_cons_zero, List.set_cons_succ]
  refine seq_take (o := ⟨_, _, _, _, _, _⟩) (v := ?_) (by rw [HO.out]; rfl) (by rfl) ?_ ?_
  rotate_left 1
  · (intro W _; go_simp) <;> with_reducible rfl
  try simp only [Act.put, List.setIfInBounds_toArray, List.set_cons_zero, List.set_cons_succ]
  refine seq_take (o := ⟨_, _, _, _, _, _⟩) (v := ?_) (by rw [HO.out]; rfl) (by rfl) ?_ ?_
  rotate_left 1
  · (intro W _; go_simp) <;> with_reducible rfl
  try simp only [Act.put, List.setIfInBounds_toArray, List.set_cons_zero, List.set_cons_succ]
  refine seq_take (o := ⟨_, _, _, _, _, _⟩) (v := ?_) (by rw [HO.out]; rfl) (by rfl) ?_ ?_
  rotate_left 1
  · (intro W _; go_simp) <;> with_reducible rfl
  try simp only [Act.put, List.setIfInBounds_toArray, List.set_cons_zero, List.set_cons_succ]
  refine seq_done ?_
  clear HO OPS
  go_wp2_with fail
  go_ret2
  exact ⟨rfl, hS⟩

set_option maxHeartbeats 2000000 in
set_option maxRecDepth 100000 in
theorem refPrintSize_20 (n : Int) (w : World) (hT : EnvT w) (h0 : 0 < n) (h1 : n ≤ 4611686018427387904) (q40 : (n % 1099511627776 == 0) = false) (q30 : (n % 1073741824 == 0) = false) (q20 : (n % 1048576 == 0) = true) :
    Calls Tryd.prog 43 #[.int .i64 n] w (PrintPost (numS (n / 1048576) ++ ⟨#[77]⟩) 0 w) := by
  have HI := Lib.hid (fun W (hb : Below w.heap.size w W) => itoa_any (n / 1048576) W (hT.under hb) (by omega) (by omega))
  have hadd := numS_add (n / 1048576) ⟨#[77]⟩ (by decide) (by omega) (by omega)
  generalize numS (n / 1048576) = A at *
  generalize A ++ ⟨#[77]⟩ = AS at *
  clear hT
  have hw1 : IntKind.i64.wrap 3 = 3 := by decide
  have hex : (⟨#[98, 107, 77, 71, 84]⟩ : ByteArray).extract 2 3 = ⟨#[77]⟩ := by decide
  go_enter Tryd.func43, Tryd.ntmps43
  go_wp2_with fail
  refine wp_loop_rounds 5 ?_
  rw [rounds_succ]
  go_wp2_with fail
  rw [rounds_succ]
  go_wp2_with fail
  rw [rounds_succ]
  go_wp2_with fail
  have hS : Below w.heap.size w w.drew := (Below.refl _ _).drew
  refine wp_region_seq (Below w.heap.size w) [(0, true), (1, true), (2, true), (4, true), (5, true), (6, true), (7, true), (3, false), (8, true), (9, true), (10, true)] (by kernel_rfl) (by kernel_rfl) (by decide) (by kernel_rfl) hS ?_
  intro OPS HO
  refine seq_take (o := ⟨_, _, _, _, _, _⟩) (v := ?_) (by rw [HO.out]; rfl) (by rfl) ?_ ?_
  rotate_left 1
  · (intro W _; go_simp) <;> with_reducible rfl
  try simp only [Act.put, List.setIfInBounds_toArray, List.set_cons_zero, List.set_cons_succ]
  refine seq_take (o := ⟨_, _, _, _, _, _⟩) (v := ?_) (by rw [HO.out]; rfl) (by rfl) ?_ ?_
  rotate_left 1
  · (intro W _; go_simp) <;> with_reducible rfl
  try simp only [Act.put, List.setIfInBounds_toArray, List.set_cons_zero, List.set_cons_succ]
  refine seq_take (o := ⟨_, _, _, _, _, _⟩) (v := ?_) (by rw [HO.out]; rfl) (by rfl) ?_ ?_
  rotate_left 1
  · (intro W _; go_simp) <;> with_reducible rfl
  try simp only [Act.put, List.setIfInBounds_toArray, List.set_cons_zero, List.set_cons_succ]
  refine seq_take (o := ⟨_, _, _, _, _, _⟩) (v := ?_) (by rw [HO.out]; rfl) (by rfl) ?_ ?_
  rotate_left 1
  · (intro W _; go_simp) <;> with_reducible rfl
  try simp only [Act.put, List.setIfInBounds_toArray, List.set_cons_zero, List.set_cons_succ]
  refine seq_take (o := ⟨_, _, _, _, _, _⟩) (v := ?_) (by rw [HO.out]; rfl) (by rfl) ?_ ?_
  rotate_left 1
  · (intro W _; go_simp) <;> with_reducible rfl
  try simp only [Act.put, List.setIfInBounds_toArray, List.set_cons_zero, List.set_cons_succ]
  refine seq_take (o := ⟨_, _, _, _, _, _⟩) (v := ?_) (by rw [HO.out]; rfl) (by rfl) ?_ ?_
  rotate_left 1
  · (intro W _; go_simp) <;> with_reducible rfl
  try simp only [Act.put, List.setIfInBounds_toArray, List.set_cons_zero, List.set_cons_succ]
  refine seq_take (o := ⟨_, _, _, _, _, _⟩) (v := ?_) (by rw [HO.out]; rfl) (by rfl) ?_ ?_
  rotate_left 1
  · (intro W _; go_simp) <;> with_reducible rfl
  try simp only [Act.put, List.setIfInBounds_toArray, List.set_cons_zero, List.set_cons_succ]
  refine seq_do (o := ⟨_, _, _, _, _, _⟩) (by rw [HO.out]; rfl) (by rfl) (fun K hK => ?_)
  go_wp2_with (go_at_call 74; refine (HI.out _ hS).mono ?_; rintro e w1 ⟨rfl, hb1⟩; replace hS := bTrans hS hb1; clear hb1)
  refine hK.out _ _ hS (fun _ => ?_)
  clear hK K
  try simp only [Act.put, List.setIfInBounds_toArray, List.set_cons_zero, List.set_cons_succ]
  refine seq_take (o := ⟨_, _, _, _, _, _⟩) (v := ?_) (by rw [HO.out]; rfl) (by rfl) ?_ ?_
  rotate_left 1
  · (intro W _; go_simp) <;> with_reducible rfl
  try simp only [Act.put, List.setIfInBounds_toArray, List.set_cons_zero, List.set_cons_succ]
  refine seq_take (o := ⟨_, _, _, _, _, _⟩) (v := ?_) (by rw [HO.out]; rfl) (by rfl) ?_ ?_
  rotate_left 1
  · (intro W _; go_simp) <;> with_reducible rfl
  try simp only [Act.put, List.setIfInBounds_toArray, List.set_cons_zero, List.set_cons_succ]
  refine seq_take (o := ⟨_, _, _, _, _, _⟩) (v := ?_) (by rw [HO.out]; rfl) (by rfl) ?_ ?_
  rotate_left 1
  · (intro W _; go_simp) <;> with_reducible rfl
  try simp only [Act.put, List.setIfInBounds_toArray, List.set_cons_zero, List.set_cons_succ]
  refine seq_done ?_
  clear HO OPS
  go_wp2_with fail
  go_ret2
  exact ⟨rfl, hS⟩

set_option maxHeartbeats 2000000 in
set_option maxRecDepth 100000 in
theorem refPrintSize_10 (n : Int) (w : World) (hT : EnvT w) (h0 : 0 < n) (h1 : n ≤ 4611686018427387904) (q40 : (n % 1099511627776 == 0) = false) (q30 : (n % 1073741824 == 0) = false) (q20 : (n % 1048576 == 0) = false) (q10 : (n % 1024 == 0) = true) :
    Calls Tryd.prog 43 #[.int .i64 n] w (PrintPost (numS (n / 1024) ++ ⟨#[107]⟩) 0 w) := by
  have HI := Lib.hid (fun W (hb : Below w.heap.size w W) => itoa_any (n / 1024) W (hT.under hb) (by omega) (by omega))
  have hadd := numS_add (n / 1024) ⟨#[107]⟩ (by decide) (by omega) (by omega)
  generalize numS (n / 1024) = A at *
  generalize A ++ ⟨#[107]⟩ = AS at *
  clear hT
  have hw1 : IntKind.i64.wrap 2 = 2 := by decide
  have hex : (⟨#[98, 107, 77, 71, 84]⟩ : ByteArray).extract 1 2 = ⟨#[107]⟩ := by decide
  go_enter Tryd.func43, Tryd.ntmps43
  go_wp2_with fail
  refine wp_loop_rounds 5 ?_
  rw [rounds_succ]
  go_wp2_with fail
  rw [rounds_succ]
  go_wp2_with fail
  rw [rounds_succ]
  go_wp2_with fail
  rw [rounds_succ]
  go_wp2_with fail
  have hS : Below w.heap.size w w.drew := (Below.refl _ _).drew
  refine wp_region_seq (Below w.heap.size w) [(0, true), (1, true), (2, true), (4, true), (5, true), (6, true), (7, true), (3, false), (8, true), (9, true), (10, true)] (by kernel_rfl) (by kernel_rfl) (by decide) (by kernel_rfl) hS ?_
  intro OPS HO
  refine seq_take (o := ⟨_, _, _, _, _, _⟩) (v := ?_) (by rw [HO.out]; rfl) (by rfl) ?_ ?_
  rotate_left 1
  · (intro W _; go_simp) <;> with_reducible rfl
  try simp only [Act.put, List.setIfInBounds_toArray, List.set_cons_zero, List.set_cons_succ]
  refine seq_take (o := ⟨_, _, _, _, _, _⟩) (v := ?_) (by rw [HO.out]; rfl) (by rfl) ?_ ?_
  rotate_left 1
  · (intro W _; go_simp) <;> with_reducible rfl
  try simp only [Act.put, List.setIfInBounds_toArray, List.set_cons_zero, List.set_cons_succ]
  refine seq_take (o := ⟨_, _, _, _, _, _⟩) (v := ?_) (by rw [HO.out]; rfl) (by rfl) ?_ ?_
  rotate_left 1
  · (intro W _; go_simp) <;> with_reducible rfl
  try simp only [Act.put, List.setIfInBounds_toArray, List.set_cons_zero, List.set_cons_succ]
  refine seq_take (o := ⟨_, _, _, _, _, _⟩) (v := ?_) (by rw [HO.out]; rfl) (by rfl) ?_ ?_
  rotate_left 1
  · (intro W _; go_simp) <;> with_reducible rfl
  try simp only [Act.put, List.setIfInBounds_toArray, List.set_cons_zero, List.set_cons_succ]
  refine seq_take (o := ⟨_, _, _, _, _, _⟩) (v := ?_) (by rw [HO.out]; rfl) (by rfl) ?_ ?_
  rotate_left 1
  · (intro W _; go_simp) <;> with_reducible rfl
  try simp only [Act.put, List.setIfInBounds_toArray, List.set_cons_zero, List.set_cons_succ]
  refine seq_take (o := ⟨_, _, _, _, _, _⟩) (v := ?_) (by rw [HO.out]; rfl) (by rfl) ?_ ?_
  rotate_left 1
  · (intro W _; go_simp) <;> with_reducible rfl
  try simp only [Act.put, List.setIfInBounds_toArray, List.set_cons_zero, List.set_cons_succ]
  refine seq_take (o := ⟨_, _, _, _, _, _⟩) (v := ?_) (by rw [HO.out]; rfl) (by rfl) ?_ ?_
  rotate_left 1
  · (intro W _; go_simp) <;> with_reducible rfl
  try simp only [Act.put, List.setIfInBounds_toArray, List.set_cons_zero, List.set_cons_succ]
  refine seq_do (o := ⟨_, _, _, _, _, _⟩) (by rw [HO.out]; rfl) (by rfl) (fun K hK => ?_)
  go_wp2_with (go_at_call 74; refine (HI.out _ hS).mono ?_; rintro e w1 ⟨rfl, hb1⟩; replace hS := bTrans hS hb1; clear hb1)
  refine hK.out _ _ hS (fun _ => ?_)
  clear hK K
  try simp only [Act.put, List.setIfInBounds_toArray, List.set_cons_zero, List.set_cons_succ]
  refine seq_take (o := ⟨_, _, _, _, _, _⟩) (v := ?_) (by rw [HO.out]; rfl) (by rfl) ?_ ?_
  rotate_left 1
  · (intro W _; go_simp) <;> with_reducible rfl
  try simp only [Act.put, List.setIfInBounds_toArray, List.set_cons_zero, List.set_cons_succ]
  refine seq_take (o := ⟨_, _, _, _, _, _⟩) (v := ?_) (by rw [HO.out]; rfl) (by rfl) ?_ ?_
  rotate_left 1
  · (intro W _; go_simp) <;> with_reducible rfl
  try simp only [Act.put, List.setIfInBounds_toArray, List.set_cons_zero, List.set_cons_succ]
  refine seq_take (o := ⟨_, _, _, _, _, _⟩) (v := ?_) (by rw [HO.out]; rfl) (by rfl) ?_ ?_
  rotate_left 1
  · (intro W _; go_simp) <;> with_reducible rfl
  try simp only [Act.put, List.setIfInBounds_toArray, List.set_cons_zero, List.set_cons_succ]
  refine seq_done ?_
  clear HO OPS
  go_wp2_with fail
  go_ret2
  exact ⟨rfl, hS⟩

set_option maxHeartbeats 2000000 in
set_option maxRecDepth 100000 in
theorem refPrintSize_none (n : Int) (w : World) (hT : EnvT w) (h0 : 0 < n) (h1 : n ≤ 4611686018427387904) (q40 : (n % 1099511627776 == 0) = false) (q30 : (n % 1073741824 == 0) = false) (q20 : (n % 1048576 == 0) = false) (q10 : (n % 1024 == 0) = false) :
    Calls Tryd.prog 43 #[.int .i64 n] w (PrintPost (numS n) 0 w) := by
  have HI := Lib.hid (fun W (hb : Below w.heap.size w W) => itoa_any n W (hT.under hb) (by omega) (by omega))
  generalize numS n = A at *
  clear hT
  go_enter Tryd.func43, Tryd.ntmps43
  go_wp2_with fail
  refine wp_loop_rounds 5 ?_
  rw [rounds_succ]
  go_wp2_with fail
  rw [rounds_succ]
  go_wp2_with fail
  rw [rounds_succ]
  go_wp2_with fail
  rw [rounds_succ]
  go_wp2_with fail
  rw [rounds_succ]
  go_wp2_with (go_at_call 74; refine (HI.out _ (Below.refl _ _)).mono ?_; rintro e w1 ⟨rfl, hb1⟩)
  go_ret2
  exact ⟨rfl, hb1⟩

set_option maxHeartbeats 2000000 in
set_option maxRecDepth 100000 in
theorem refPrintSize_zero (n : Int) (w : World) (hT : EnvT w) (h0 : n = 0) :
    Calls Tryd.prog 43 #[.int .i64 n] w (PrintPost (numS n) 0 w) := by
  subst h0
  have HI := Lib.hid (fun W (hb : Below w.heap.size w W) => itoa_any 0 W (hT.under hb) (by omega) (by omega))
  generalize numS 0 = A at *
  clear hT
  go_enter Tryd.func43, Tryd.ntmps43
  go_wp2_with fail
  refine wp_loop_rounds 5 ?_
  rw [rounds_succ]
  go_wp2_with (go_at_call 74; refine (HI.out _ (Below.refl _ _)).mono ?_; rintro e w1 ⟨rfl, hb1⟩)
  go_ret2
  exact ⟨rfl, hb1⟩

set_option maxHeartbeats 2000000 in
set_option maxRecDepth 100000 in
theorem refPrintSize_out (n : Int) (w : World) (h : n < 0 ∨ 4611686018427387904 < n) : Calls Tryd.prog 43 #[.int .i64 n] w (PrintPost ⟨#[]⟩ 7 w) := by
  rcases h with h | h
  · go_enter Tryd.func43, Tryd.ntmps43
    go_wp2_with fail
    go_ret2
    exact ⟨rfl, Below.refl _ _⟩
  · have h2 : ¬ n < 0 := by omega
    go_enter Tryd.func43, Tryd.ntmps43
    go_wp2_with fail
    go_ret2
    exact ⟨rfl, Below.refl _ _⟩

theorem refPrintSize_any (n : Int) (w : World) (hT : EnvT w) : Calls Tryd.prog 43 #[.int .i64 n] w (PrintPost (printT n) (if n < 0 ∨ 4611686018427387904 < n then 7 else 0) w) := by
  unfold printT
  by_cases ho : n < 0 ∨ 4611686018427387904 < n
  · rw [if_pos ho, if_pos ho]
    exact refPrintSize_out n w ho
  rw [if_neg ho, if_neg ho]
  have h1 : n ≤ 4611686018427387904 := by omega
  by_cases hz : n = 0
  · rw [if_pos hz]
    exact refPrintSize_zero n w hT hz
  rw [if_neg hz]
  have h0 : 0 < n := by omega
  cases q40 : (n % 1099511627776 == 0)
  case true =>
    rw [if_pos rfl]
    exact refPrintSize_40 n w hT h0 h1 q40
  rw [if_neg (by simp)]
  cases q30 : (n % 1073741824 == 0)
  case true =>
    rw [if_pos rfl]
    exact refPrintSize_30 n w hT h0 h1 q40 q30
  rw [if_neg (by simp)]
  cases q20 : (n % 1048576 == 0)
  case true =>
    rw [if_pos rfl]
    exact refPrintSize_20 n w hT h0 h1 q40 q30 q20
  rw [if_neg (by simp)]
  cases q10 : (n % 1024 == 0)
  case true =>
    rw [if_pos rfl]
    exact refPrintSize_10 n w hT h0 h1 q40 q30 q20 q10
  rw [if_neg (by simp)]
  exact refPrintSize_none n w hT h0 h1 q40 q30 q20 q10
end Go.Proofs.YtjfnkkpmmebnfaaDoor
