/-
  store.New: the region that makes the store.
-/
import Derived.Test.YtjfnkkpmmebnfaaDoorPlan
import Derived.Test.YtjfnkkpmmebnfaaDoorStoreFeat
import Derived.Test.YtjfnkkpmmebnfaaDoorInv
namespace Go.Proofs.YtjfnkkpmmebnfaaDoor
open Go.RowKit

/-- A new store: its block, of which two cells may be written. -/
def NewBox (B : Nat) (w : World) (v : Value) : Prop := ∃ b, v = .pointer (some ⟨b, 0, none⟩) ∧ B ≤ b ∧ ∃ arr : Array Value, w.heap[b]? = some (.cells arr 103 (0, 0)) ∧ 16 ≤ arr.size

theorem NewBox.alloc {B : Nat} {w : World} {v : Value} (h : NewBox B w v) (o : Obj) : NewBox B (w.alloc o) v := by
  obtain ⟨b, h1, h2, arr, h3, h4⟩ := h
  have hlt := (Array.getElem?_eq_some_iff.1 h3).1
  exact ⟨b, h1, h2, arr, (Below.heap_alloc w o b hlt).trans h3, h4⟩

/-- What New returns: a store if and only if nothing is wrong. -/
def NewPost (E : Int) (w : World) (e : Ending) (w' : World) : Prop := ∃ p : Option Addr, e = .returned (.tuple #[.pointer p, .int .i64 E]) ∧ (!p.isNone) = (E == 0) ∧ Below w.heap.size w w'

def isMap (v : Value) : Prop := ∃ m, v = .map m
def isAgg' (v : Value) : Prop := ∃ m, v = .agg m
def isPtr (v : Value) : Prop := ∃ m, v = .pointer m
def isSlice (v : Value) : Prop := ∃ x n c, v = .slice x n c
def isBig (v : Value) : Prop := ∃ m : Array Value, v = .agg m ∧ 16 ≤ m.size

/-- What holds whatever has come up. -/
def NewInv (f : Wh.Feat) (ad : Addr) (s : Value) (b0 : Nat) (w2 : World) (L : Nat → Prop) (a' : Act) (w' : World) : Prop :=
  ∃ v9 v18 v19 v20 v21 v22 v23 v24 v25 v26 v27, a' = ⟨#[featVal f, .pointer (some ad), s, .pointer (some ⟨b0, 0, none⟩), undef, undef, .pointer none, .int .i64 0, .int .i64 0, v9, undef, featVal f, .int .i64 0, .int .i64 0, .bool false, undef, .pointer (some ad), .bool false,
      v18, v19, v20, v21, v22, v23, v24, v25, v26, v27, undef, undef, undef, undef, undef, undef, undef], []⟩ ∧ Below w2.heap.size w2 w' ∧
    (L 0 → v18 = featVal f) ∧ (L 1 → v19 = .pointer (some ad)) ∧ (L 2 → isMap v20) ∧ (L 3 → isAgg' v21) ∧ (L 4 → isPtr v22) ∧ (L 5 → isSlice v23) ∧ (L 6 → isMap v24) ∧ (L 7 → isMap v25) ∧ (L 8 → isBig v26) ∧ (L 9 → NewBox w2.heap.size w' v27) ∧ (L 10 → NewBox w2.heap.size w' v9)

set_option maxHeartbeats 2000000 in
set_option maxRecDepth 100000 in
theorem new_made (f : Wh.Feat) (hf : FeatOk f) (ad : Addr) (xs : List Wh.Fault) (a : Option Addr) (c : Nat) (w : World) (hlc : xs.length ≤ c) (hH : HoldsR w a 4 (xs.map faultCells)) (h0 : Wh.featErr f = 0) :
    Calls Tryd.prog 18 #[featVal f, .pointer (some ad), .slice a xs.length c] w (NewPost (Wh.faultsErr xs) w) := by
  have hb1 : Below w.heap.size w (w.alloc (featObj f)) := bAlloc (Below.refl _ _) _
  have HB := Lib.hid (featBox_new w f)
  have HC := Lib.hid (fun W => stCheckFeat_any f hf W)
  rw [h0] at HC
  clear h0 hf
  have HH := Lib.hid hH
  clear hH
  unfold featVal
  go_enter Tryd.func18, Tryd.ntmps18
  go_upto_region 1 with fail
  unfold featObj at *
  generalize w.alloc (.cells #[.int .i64 f.has, .int .i64 f.sums, .int .i64 f.prec, .int .i64 f.maxName, .int .i64 f.maxPath, .int .i64 f.maxSize, .int .i64 f.page, .int .i64 f.partSize, .string f.forbid] 23) = w1 at *
  obtain ⟨k0, k1, k2, k3, k4, k5, k6, k7, k8, k9⟩ := HB.out
  go_wp2_with (go_at_call 15; refine (HC.out _).mono ?_; rintro e w2 ⟨rfl, hb2⟩)
  have HB2 := Lib.hid (HB.out.under hb2)
  clear k0 k1 k2 k3 k4 k5 k6 k7 k8 k9 HB HC
  have hmk := make14
  have hmm := @run_makeMap Tryd.prog
  go_cut [9] (fun s9 wx => NewBox w2.heap.size wx s9 ∧ Below w2.heap.size w2 wx)
  case first =>
    refine wp_region_inv (NewInv f ad (.slice a xs.length c) w.heap.size w2) (by kernel_rfl) (by kernel_rfl) ?_ ?_ ?_
    · exact ⟨_, _, _, _, _, _, _, _, _, _, _, rfl, (Below.refl _ _).drew, fun h => h.elim, fun h => h.elim, fun h => h.elim, fun h => h.elim, fun h => h.elim, fun h => h.elim, fun h => h.elim, fun h => h.elim, fun h => h.elim, fun h => h.elim, fun h => h.elim⟩
    · intro i o ho L a' w' hI hd K hK
      rcases i with _ | _ | _ | _ | _ | _ | _ | _ | _ | _ | _ | i
      · obtain rfl : o = ⟨_, _, _, _, _, _⟩ := (Option.some.inj ho).symm
        obtain ⟨v9, v18, v19, v20, v21, v22, v23, v24, v25, v26, v27, rfl, hb, q0, q1, q2, q3, q4, q5, q6, q7, q8, q9, q10⟩ := hI
        rw [if_pos (by rfl)]
        obtain ⟨k0, k1, k2, k3, k4, k5, k6, k7, k8, k9⟩ := HB2.out.under hb
        have Q0 := Lib.hid q0
        have Q1 := Lib.hid q1
        have Q2 := Lib.hid q2
        have Q3 := Lib.hid q3
        have Q4 := Lib.hid q4
        have Q5 := Lib.hid q5
        have Q6 := Lib.hid q6
        have Q7 := Lib.hid q7
        have Q8 := Lib.hid q8
        have Q9 := Lib.hid q9
        have Q10 := Lib.hid q10
        clear q0 q1 q2 q3 q4 q5 q6 q7 q8 q9 q10 hd
        go_wp2_with fail
        exact hK.out _ _ (fun L' hL => ⟨_, _, _, _, _, _, _, _, _, _, _, rfl, hb, fun _ => rfl, fun h => Q1.out ((hL 1 h).resolve_left (by decide)), fun h => Q2.out ((hL 2 h).resolve_left (by decide)), fun h => Q3.out ((hL 3 h).resolve_left (by decide)), fun h => Q4.out ((hL 4 h).resolve_left (by decide)), fun h => Q5.out ((hL 5 h).resolve_left (by decide)), fun h => Q6.out ((hL 6 h).resolve_left (by decide)), fun h => Q7.out ((hL 7 h).resolve_left (by decide)), fun h => Q8.out ((hL 8 h).resolve_left (by decide)), fun h => Q9.out ((hL 9 h).resolve_left (by decide)), fun h => Q10.out ((hL 10 h).resolve_left (by decide))⟩)
      · obtain rfl : o = ⟨_, _, _, _, _, _⟩ := (Option.some.inj ho).symm
        obtain ⟨v9, v18, v19, v20, v21, v22, v23, v24, v25, v26, v27, rfl, hb, q0, q1, q2, q3, q4, q5, q6, q7, q8, q9, q10⟩ := hI
        rw [if_pos (by rfl)]
        have Q0 := Lib.hid q0
        have Q1 := Lib.hid q1
        have Q2 := Lib.hid q2
        have Q3 := Lib.hid q3
        have Q4 := Lib.hid q4
        have Q5 := Lib.hid q5
        have Q6 := Lib.hid q6
        have Q7 := Lib.hid q7
        have Q8 := Lib.hid q8
        have Q9 := Lib.hid q9
        have Q10 := Lib.hid q10
        clear q0 q1 q2 q3 q4 q5 q6 q7 q8 q9 q10 hd
        go_wp2_with fail
        exact hK.out _ _ (fun L' hL => ⟨_, _, _, _, _, _, _, _, _, _, _, rfl, hb, fun h => Q0.out ((hL 0 h).resolve_left (by decide)), fun _ => rfl, fun h => Q2.out ((hL 2 h).resolve_left (by decide)), fun h => Q3.out ((hL 3 h).resolve_left (by decide)), fun h => Q4.out ((hL 4 h).resolve_left (by decide)), fun h => Q5.out ((hL 5 h).resolve_left (by decide)), fun h => Q6.out ((hL 6 h).resolve_left (by decide)), fun h => Q7.out ((hL 7 h).resolve_left (by decide)), fun h => Q8.out ((hL 8 h).resolve_left (by decide)), fun h => Q9.out ((hL 9 h).resolve_left (by decide)), fun h => Q10.out ((hL 10 h).resolve_left (by decide))⟩)
      · obtain rfl : o = ⟨_, _, _, _, _, _⟩ := (Option.some.inj ho).symm
        obtain ⟨v9, v18, v19, v20, v21, v22, v23, v24, v25, v26, v27, rfl, hb, q0, q1, q2, q3, q4, q5, q6, q7, q8, q9, q10⟩ := hI
        rw [if_pos (by rfl)]
        have Q0 := Lib.hid q0
        have Q1 := Lib.hid q1
        have Q2 := Lib.hid q2
        have Q3 := Lib.hid q3
        have Q4 := Lib.hid q4
        have Q5 := Lib.hid q5
        have Q6 := Lib.hid q6
        have Q7 := Lib.hid q7
        have Q8 := Lib.hid q8
        have Q9 := Lib.hid q9
        have Q10 := Lib.hid q10
        clear q0 q1 q2 q3 q4 q5 q6 q7 q8 q9 q10 hd
        go_wp2_with fail
        exact hK.out _ _ (fun L' hL => ⟨_, _, _, _, _, _, _, _, _, _, _, rfl, bAlloc hb _, fun h => Q0.out ((hL 0 h).resolve_left (by decide)), fun h => Q1.out ((hL 1 h).resolve_left (by decide)), fun _ => ⟨_, rfl⟩, fun h => Q3.out ((hL 3 h).resolve_left (by decide)), fun h => Q4.out ((hL 4 h).resolve_left (by decide)), fun h => Q5.out ((hL 5 h).resolve_left (by decide)), fun h => Q6.out ((hL 6 h).resolve_left (by decide)), fun h => Q7.out ((hL 7 h).resolve_left (by decide)), fun h => Q8.out ((hL 8 h).resolve_left (by decide)), fun h => (Q9.out ((hL 9 h).resolve_left (by decide))).alloc _, fun h => (Q10.out ((hL 10 h).resolve_left (by decide))).alloc _⟩)
      · obtain rfl : o = ⟨_, _, _, _, _, _⟩ := (Option.some.inj ho).symm
        obtain ⟨v9, v18, v19, v20, v21, v22, v23, v24, v25, v26, v27, rfl, hb, q0, q1, q2, q3, q4, q5, q6, q7, q8, q9, q10⟩ := hI
        simp [Region.binds] at hd
        have d2 := hd
        obtain ⟨m20, rfl⟩ := q2 d2
        rw [if_pos (by rfl)]
        have Q0 := Lib.hid q0
        have Q1 := Lib.hid q1
        have Q2 := Lib.hid q2
        have Q3 := Lib.hid q3
        have Q4 := Lib.hid q4
        have Q5 := Lib.hid q5
        have Q6 := Lib.hid q6
        have Q7 := Lib.hid q7
        have Q8 := Lib.hid q8
        have Q9 := Lib.hid q9
        have Q10 := Lib.hid q10
        clear q0 q1 q2 q3 q4 q5 q6 q7 q8 q9 q10 hd
        go_wp2_with fail
        exact hK.out _ _ (fun L' hL => ⟨_, _, _, _, _, _, _, _, _, _, _, rfl, hb, fun h => Q0.out ((hL 0 h).resolve_left (by decide)), fun h => Q1.out ((hL 1 h).resolve_left (by decide)), fun h => Q2.out ((hL 2 h).resolve_left (by decide)), fun _ => ⟨_, rfl⟩, fun h => Q4.out ((hL 4 h).resolve_left (by decide)), fun h => Q5.out ((hL 5 h).resolve_left (by decide)), fun h => Q6.out ((hL 6 h).resolve_left (by decide)), fun h => Q7.out ((hL 7 h).resolve_left (by decide)), fun h => Q8.out ((hL 8 h).resolve_left (by decide)), fun h => Q9.out ((hL 9 h).resolve_left (by decide)), fun h => Q10.out ((hL 10 h).resolve_left (by decide))⟩)
      · obtain rfl : o = ⟨_, _, _, _, _, _⟩ := (Option.some.inj ho).symm
        obtain ⟨v9, v18, v19, v20, v21, v22, v23, v24, v25, v26, v27, rfl, hb, q0, q1, q2, q3, q4, q5, q6, q7, q8, q9, q10⟩ := hI
        simp [Region.binds] at hd
        have d3 := hd
        obtain ⟨m21, rfl⟩ := q3 d3
        rw [if_pos (by rfl)]
        have Q0 := Lib.hid q0
        have Q1 := Lib.hid q1
        have Q2 := Lib.hid q2
        have Q3 := Lib.hid q3
        have Q4 := Lib.hid q4
        have Q5 := Lib.hid q5
        have Q6 := Lib.hid q6
        have Q7 := Lib.hid q7
        have Q8 := Lib.hid q8
        have Q9 := Lib.hid q9
        have Q10 := Lib.hid q10
        clear q0 q1 q2 q3 q4 q5 q6 q7 q8 q9 q10 hd
        go_wp2_with fail
        exact hK.out _ _ (fun L' hL => ⟨_, _, _, _, _, _, _, _, _, _, _, rfl, bAlloc hb _, fun h => Q0.out ((hL 0 h).resolve_left (by decide)), fun h => Q1.out ((hL 1 h).resolve_left (by decide)), fun h => Q2.out ((hL 2 h).resolve_left (by decide)), fun h => Q3.out ((hL 3 h).resolve_left (by decide)), fun _ => ⟨_, rfl⟩, fun h => Q5.out ((hL 5 h).resolve_left (by decide)), fun h => Q6.out ((hL 6 h).resolve_left (by decide)), fun h => Q7.out ((hL 7 h).resolve_left (by decide)), fun h => Q8.out ((hL 8 h).resolve_left (by decide)), fun h => (Q9.out ((hL 9 h).resolve_left (by decide))).alloc _, fun h => (Q10.out ((hL 10 h).resolve_left (by decide))).alloc _⟩)
      · obtain rfl : o = ⟨_, _, _, _, _, _⟩ := (Option.some.inj ho).symm
        obtain ⟨v9, v18, v19, v20, v21, v22, v23, v24, v25, v26, v27, rfl, hb, q0, q1, q2, q3, q4, q5, q6, q7, q8, q9, q10⟩ := hI
        rw [if_pos (by rfl)]
        have Q0 := Lib.hid q0
        have Q1 := Lib.hid q1
        have Q2 := Lib.hid q2
        have Q3 := Lib.hid q3
        have Q4 := Lib.hid q4
        have Q5 := Lib.hid q5
        have Q6 := Lib.hid q6
        have Q7 := Lib.hid q7
        have Q8 := Lib.hid q8
        have Q9 := Lib.hid q9
        have Q10 := Lib.hid q10
        clear q0 q1 q2 q3 q4 q5 q6 q7 q8 q9 q10 hd
        go_wp2_with fail
        exact hK.out _ _ (fun L' hL => ⟨_, _, _, _, _, _, _, _, _, _, _, rfl, bAlloc hb _, fun h => Q0.out ((hL 0 h).resolve_left (by decide)), fun h => Q1.out ((hL 1 h).resolve_left (by decide)), fun h => Q2.out ((hL 2 h).resolve_left (by decide)), fun h => Q3.out ((hL 3 h).resolve_left (by decide)), fun h => Q4.out ((hL 4 h).resolve_left (by decide)), fun _ => ⟨_, _, _, rfl⟩, fun h => Q6.out ((hL 6 h).resolve_left (by decide)), fun h => Q7.out ((hL 7 h).resolve_left (by decide)), fun h => Q8.out ((hL 8 h).resolve_left (by decide)), fun h => (Q9.out ((hL 9 h).resolve_left (by decide))).alloc _, fun h => (Q10.out ((hL 10 h).resolve_left (by decide))).alloc _⟩)
      · obtain rfl : o = ⟨_, _, _, _, _, _⟩ := (Option.some.inj ho).symm
        obtain ⟨v9, v18, v19, v20, v21, v22, v23, v24, v25, v26, v27, rfl, hb, q0, q1, q2, q3, q4, q5, q6, q7, q8, q9, q10⟩ := hI
        rw [if_pos (by rfl)]
        have Q0 := Lib.hid q0
        have Q1 := Lib.hid q1
        have Q2 := Lib.hid q2
        have Q3 := Lib.hid q3
        have Q4 := Lib.hid q4
        have Q5 := Lib.hid q5
        have Q6 := Lib.hid q6
        have Q7 := Lib.hid q7
        have Q8 := Lib.hid q8
        have Q9 := Lib.hid q9
        have Q10 := Lib.hid q10
        clear q0 q1 q2 q3 q4 q5 q6 q7 q8 q9 q10 hd
        go_wp2_with fail
        exact hK.out _ _ (fun L' hL => ⟨_, _, _, _, _, _, _, _, _, _, _, rfl, bAlloc hb _, fun h => Q0.out ((hL 0 h).resolve_left (by decide)), fun h => Q1.out ((hL 1 h).resolve_left (by decide)), fun h => Q2.out ((hL 2 h).resolve_left (by decide)), fun h => Q3.out ((hL 3 h).resolve_left (by decide)), fun h => Q4.out ((hL 4 h).resolve_left (by decide)), fun h => Q5.out ((hL 5 h).resolve_left (by decide)), fun _ => ⟨_, rfl⟩, fun h => Q7.out ((hL 7 h).resolve_left (by decide)), fun h => Q8.out ((hL 8 h).resolve_left (by decide)), fun h => (Q9.out ((hL 9 h).resolve_left (by decide))).alloc _, fun h => (Q10.out ((hL 10 h).resolve_left (by decide))).alloc _⟩)
      · obtain rfl : o = ⟨_, _, _, _, _, _⟩ := (Option.some.inj ho).symm
        obtain ⟨v9, v18, v19, v20, v21, v22, v23, v24, v25, v26, v27, rfl, hb, q0, q1, q2, q3, q4, q5, q6, q7, q8, q9, q10⟩ := hI
        rw [if_pos (by rfl)]
        have Q0 := Lib.hid q0
        have Q1 := Lib.hid q1
        have Q2 := Lib.hid q2
        have Q3 := Lib.hid q3
        have Q4 := Lib.hid q4
        have Q5 := Lib.hid q5
        have Q6 := Lib.hid q6
        have Q7 := Lib.hid q7
        have Q8 := Lib.hid q8
        have Q9 := Lib.hid q9
        have Q10 := Lib.hid q10
        clear q0 q1 q2 q3 q4 q5 q6 q7 q8 q9 q10 hd
        go_wp2_with fail
        exact hK.out _ _ (fun L' hL => ⟨_, _, _, _, _, _, _, _, _, _, _, rfl, bAlloc hb _, fun h => Q0.out ((hL 0 h).resolve_left (by decide)), fun h => Q1.out ((hL 1 h).resolve_left (by decide)), fun h => Q2.out ((hL 2 h).resolve_left (by decide)), fun h => Q3.out ((hL 3 h).resolve_left (by decide)), fun h => Q4.out ((hL 4 h).resolve_left (by decide)), fun h => Q5.out ((hL 5 h).resolve_left (by decide)), fun h => Q6.out ((hL 6 h).resolve_left (by decide)), fun _ => ⟨_, rfl⟩, fun h => Q8.out ((hL 8 h).resolve_left (by decide)), fun h => (Q9.out ((hL 9 h).resolve_left (by decide))).alloc _, fun h => (Q10.out ((hL 10 h).resolve_left (by decide))).alloc _⟩)
      · obtain rfl : o = ⟨_, _, _, _, _, _⟩ := (Option.some.inj ho).symm
        obtain ⟨v9, v18, v19, v20, v21, v22, v23, v24, v25, v26, v27, rfl, hb, q0, q1, q2, q3, q4, q5, q6, q7, q8, q9, q10⟩ := hI
        simp [Region.binds] at hd
        obtain ⟨d0, d1, d4, d5, d6, d7⟩ := hd
        obtain rfl := q0 d0
        obtain rfl := q1 d1
        obtain ⟨m22, rfl⟩ := q4 d4
        obtain ⟨x23, n23, c23, rfl⟩ := q5 d5
        obtain ⟨m24, rfl⟩ := q6 d6
        obtain ⟨m25, rfl⟩ := q7 d7
        rw [if_pos (by rfl)]
        have Q0 := Lib.hid q0
        have Q1 := Lib.hid q1
        have Q2 := Lib.hid q2
        have Q3 := Lib.hid q3
        have Q4 := Lib.hid q4
        have Q5 := Lib.hid q5
        have Q6 := Lib.hid q6
        have Q7 := Lib.hid q7
        have Q8 := Lib.hid q8
        have Q9 := Lib.hid q9
        have Q10 := Lib.hid q10
        clear q0 q1 q2 q3 q4 q5 q6 q7 q8 q9 q10
        unfold featVal
        go_wp2_with fail
        exact hK.out _ _ (fun L' hL => ⟨_, _, _, _, _, _, _, _, _, _, _, rfl, hb, fun _ => rfl, fun _ => rfl, fun h => Q2.out ((hL 2 h).resolve_left (by decide)), fun h => Q3.out ((hL 3 h).resolve_left (by decide)), fun h => Q4.out ((hL 4 h).resolve_left (by decide)), fun h => Q5.out ((hL 5 h).resolve_left (by decide)), fun h => Q6.out ((hL 6 h).resolve_left (by decide)), fun h => Q7.out ((hL 7 h).resolve_left (by decide)), fun _ => ⟨_, rfl, by simp⟩, fun h => Q9.out ((hL 9 h).resolve_left (by decide)), fun h => Q10.out ((hL 10 h).resolve_left (by decide))⟩)
      · obtain rfl : o = ⟨_, _, _, _, _, _⟩ := (Option.some.inj ho).symm
        obtain ⟨v9, v18, v19, v20, v21, v22, v23, v24, v25, v26, v27, rfl, hb, q0, q1, q2, q3, q4, q5, q6, q7, q8, q9, q10⟩ := hI
        simp [Region.binds] at hd
        have d8 := hd
        obtain ⟨m26, rfl, hm26⟩ := q8 d8
        rw [if_pos (by rfl)]
        have Q0 := Lib.hid q0
        have Q1 := Lib.hid q1
        have Q2 := Lib.hid q2
        have Q3 := Lib.hid q3
        have Q4 := Lib.hid q4
        have Q5 := Lib.hid q5
        have Q6 := Lib.hid q6
        have Q7 := Lib.hid q7
        have Q8 := Lib.hid q8
        have Q9 := Lib.hid q9
        have Q10 := Lib.hid q10
        clear q0 q1 q2 q3 q4 q5 q6 q7 q8 q9 q10 hd
        go_wp2_with fail
        exact hK.out _ _ (fun L' hL => ⟨_, _, _, _, _, _, _, _, _, _, _, rfl, bAlloc hb _, fun h => Q0.out ((hL 0 h).resolve_left (by decide)), fun h => Q1.out ((hL 1 h).resolve_left (by decide)), fun h => Q2.out ((hL 2 h).resolve_left (by decide)), fun h => Q3.out ((hL 3 h).resolve_left (by decide)), fun h => Q4.out ((hL 4 h).resolve_left (by decide)), fun h => Q5.out ((hL 5 h).resolve_left (by decide)), fun h => Q6.out ((hL 6 h).resolve_left (by decide)), fun h => Q7.out ((hL 7 h).resolve_left (by decide)), fun h => Q8.out ((hL 8 h).resolve_left (by decide)), fun _ => ⟨_, rfl, hb.size, _, heap_alloc_new _ _, hm26⟩, fun h => (Q10.out ((hL 10 h).resolve_left (by decide))).alloc _⟩)
      · obtain rfl : o = ⟨_, _, _, _, _, _⟩ := (Option.some.inj ho).symm
        obtain ⟨v9, v18, v19, v20, v21, v22, v23, v24, v25, v26, v27, rfl, hb, q0, q1, q2, q3, q4, q5, q6, q7, q8, q9, q10⟩ := hI
        simp [Region.binds] at hd
        have d9 := hd.1
        have hbox := q9 d9
        rw [if_pos (by rfl)]
        have Q0 := Lib.hid q0
        have Q1 := Lib.hid q1
        have Q2 := Lib.hid q2
        have Q3 := Lib.hid q3
        have Q4 := Lib.hid q4
        have Q5 := Lib.hid q5
        have Q6 := Lib.hid q6
        have Q7 := Lib.hid q7
        have Q8 := Lib.hid q8
        have Q9 := Lib.hid q9
        have Q10 := Lib.hid q10
        clear q0 q1 q2 q3 q4 q5 q6 q7 q8 q9 q10 hd
        go_wp2_with fail
        exact hK.out _ _ (fun L' hL => ⟨_, _, _, _, _, _, _, _, _, _, _, rfl, hb, fun h => Q0.out ((hL 0 h).resolve_left (by decide)), fun h => Q1.out ((hL 1 h).resolve_left (by decide)), fun h => Q2.out ((hL 2 h).resolve_left (by decide)), fun h => Q3.out ((hL 3 h).resolve_left (by decide)), fun h => Q4.out ((hL 4 h).resolve_left (by decide)), fun h => Q5.out ((hL 5 h).resolve_left (by decide)), fun h => Q6.out ((hL 6 h).resolve_left (by decide)), fun h => Q7.out ((hL 7 h).resolve_left (by decide)), fun h => Q8.out ((hL 8 h).resolve_left (by decide)), fun h => Q9.out ((hL 9 h).resolve_left (by decide)), fun _ => hbox⟩)
      · simp at ho
    · rintro L a' w' ⟨v9, v18, v19, v20, v21, v22, v23, v24, v25, v26, v27, rfl, hb, q0, q1, q2, q3, q4, q5, q6, q7, q8, q9, q10⟩ hall
      have h10 := Lib.hid (q10 (hall 10 (by simp)))
      clear q0 q1 q2 q3 q4 q5 q6 q7 q8 q9 q10 hall
      dsimp only [featVal]
      go_wp2_with fail
      go_meet
      exact ⟨h10.out, hb⟩
  case rest =>
    obtain ⟨⟨b, rfl, hb0, arr, harr, hsz⟩, hb3⟩ := hcut
    have hbl := (Array.getElem?_eq_some_iff.1 harr).1
    have c14 := cell_of_row wc b 14 arr _ _ harr
    have c15 := cell_of_row wc b 15 arr _ _ harr
    rw [Array.getElem?_eq_getElem (by omega)] at c14 c15
    have z14 : wc.frozen? ⟨b, 14, none⟩ = false := by simp [World.frozen?, harr]
    have z15 : wc.frozen? ⟨b, 15, none⟩ = false := by simp [World.frozen?, harr]
    have hb12 := bTrans hb1 hb2
    have HP := Lib.hid (plan_any xs a c wc b w2.heap.size _ _ hlc (HH.out.under (bTrans hb12 hb3)) hb0 hbl c14 c15 z14 z15)
    clear c14 c15 z14 z15 harr HH HB2
    generalize Wh.faultsErr xs = E at *
    go_wp2_with fail
    refine HP.out.mono ?_
    rintro e w5 ⟨rfl, hb5⟩
    have hb6 : Below w.heap.size w w5 := (bTrans hb12 hb3).trans (hb5.mono hb12.size)
    clear hb5
    by_cases hE : E = 0
    · subst hE
      go_wp2_with fail
      go_ret2
      exact ⟨_, rfl, rfl, hb6⟩
    · have q : (E != 0) = true := by simp [hE]
      have HN := Lib.hid hE
      clear hE
      go_wp2_with fail
      go_ret2
      exact ⟨none, rfl, by simp [HN.out], hb6⟩

set_option maxHeartbeats 2000000 in
set_option maxRecDepth 100000 in
theorem new_bad (f : Wh.Feat) (hf : FeatOk f) (pc : Option Addr) (s : Value) (w : World) (h0 : ¬ Wh.featErr f = 0) :
    Calls Tryd.prog 18 #[featVal f, .pointer pc, s] w (NewPost (Wh.featErr f) w) := by
  have hb1 : Below w.heap.size w (w.alloc (featObj f)) := bAlloc (Below.refl _ _) _
  have HB := Lib.hid (featBox_new w f)
  have HC := Lib.hid (fun W => stCheckFeat_any f hf W)
  have q : (Wh.featErr f != 0) = true := by simp [h0]
  have HN := Lib.hid h0
  clear h0 hf
  generalize Wh.featErr f = E at *
  unfold featVal
  go_enter Tryd.func18, Tryd.ntmps18
  go_upto_region 1 with fail
  unfold featObj at *
  generalize w.alloc (.cells #[.int .i64 f.has, .int .i64 f.sums, .int .i64 f.prec, .int .i64 f.maxName, .int .i64 f.maxPath, .int .i64 f.maxSize, .int .i64 f.page, .int .i64 f.partSize, .string f.forbid] 23) = w1 at *
  obtain ⟨k0, k1, k2, k3, k4, k5, k6, k7, k8, k9⟩ := HB.out
  go_wp2_with (go_at_call 15; refine (HC.out _).mono ?_; rintro e w2 ⟨rfl, hb2⟩)
  go_ret2
  exact ⟨none, rfl, by simp [HN.out], bTrans hb1 hb2⟩

set_option maxHeartbeats 2000000 in
set_option maxRecDepth 100000 in
theorem new_still (f : Wh.Feat) (hf : FeatOk f) (s : Value) (w : World) (h0 : Wh.featErr f = 0) :
    Calls Tryd.prog 18 #[featVal f, .pointer none, s] w (NewPost 6 w) := by
  have hb1 : Below w.heap.size w (w.alloc (featObj f)) := bAlloc (Below.refl _ _) _
  have HB := Lib.hid (featBox_new w f)
  have HC := Lib.hid (fun W => stCheckFeat_any f hf W)
  rw [h0] at HC
  clear h0 hf
  unfold featVal
  go_enter Tryd.func18, Tryd.ntmps18
  go_upto_region 1 with fail
  unfold featObj at *
  generalize w.alloc (.cells #[.int .i64 f.has, .int .i64 f.sums, .int .i64 f.prec, .int .i64 f.maxName, .int .i64 f.maxPath, .int .i64 f.maxSize, .int .i64 f.page, .int .i64 f.partSize, .string f.forbid] 23) = w1 at *
  obtain ⟨k0, k1, k2, k3, k4, k5, k6, k7, k8, k9⟩ := HB.out
  go_wp2_with (go_at_call 15; refine (HC.out _).mono ?_; rintro e w2 ⟨rfl, hb2⟩)
  go_ret2
  exact ⟨none, rfl, rfl, bTrans hb1 hb2⟩
end Go.Proofs.YtjfnkkpmmebnfaaDoor
