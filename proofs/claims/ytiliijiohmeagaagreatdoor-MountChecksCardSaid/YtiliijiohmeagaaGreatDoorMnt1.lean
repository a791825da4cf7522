/-
  store.New without faults: the store, and that it holds its features.
-/
import Derived.Test.YtiliijiohmeagaaGreatDoorPlan
import Derived.Test.YtiliijiohmeagaaGreatDoorStoreFeat
import Derived.Test.YtiliijiohmeagaaGreatDoorInv
namespace Go.Proofs.YtiliijiohmeagaaGreatDoor
open Go.RowKit

/-- The first nine cells: the features. -/
def MemHead (f : Wh.Feat) (arr : Array Value) : Prop := arr[0]? = some (.int .i64 f.has) ∧ arr[1]? = some (.int .i64 f.sums) ∧ arr[2]? = some (.int .i64 f.prec) ∧ arr[3]? = some (.int .i64 f.maxName) ∧ arr[4]? = some (.int .i64 f.maxPath) ∧ arr[5]? = some (.int .i64 f.maxSize) ∧ arr[6]? = some (.int .i64 f.page) ∧ arr[7]? = some (.int .i64 f.partSize) ∧ arr[8]? = some (.string f.forbid)

/-- A new store: its block, of which two cells may be written. -/
def NewBox (f : Wh.Feat) (B : Nat) (w : World) (v : Value) : Prop := ∃ b, v = .pointer (some ⟨b, 0, none⟩) ∧ B ≤ b ∧ ∃ arr : Array Value, w.heap[b]? = some (.cells arr 187 (0, 0)) ∧ 16 ≤ arr.size ∧ MemHead f arr

theorem NewBox.alloc {f : Wh.Feat} {B : Nat} {w : World} {v : Value} (h : NewBox f B w v) (o : Obj) : NewBox f B (w.alloc o) v := by
  obtain ⟨b, h1, h2, arr, h3, h4⟩ := h
  have hlt := (Array.getElem?_eq_some_iff.1 h3).1
  exact ⟨b, h1, h2, arr, (Below.heap_alloc w o b hlt).trans h3, h4⟩

/-- What New returns: a store that holds its features. -/
def NewPost (f : Wh.Feat) (w : World) (e : Ending) (w' : World) : Prop := ∃ b, e = .returned (.tuple #[.pointer (some ⟨b, 0, none⟩), .int .i64 0]) ∧ w.heap.size ≤ b ∧ b < w'.heap.size ∧ FeatBox w' b f ∧ Below w.heap.size w w'

def isMap (v : Value) : Prop := ∃ m, v = .map m
def isAgg' (v : Value) : Prop := ∃ m, v = .agg m
def isPtr (v : Value) : Prop := ∃ m, v = .pointer m
def isSlice (v : Value) : Prop := ∃ x n c, v = .slice x n c
def isBig (f : Wh.Feat) (v : Value) : Prop := ∃ m : Array Value, v = .agg m ∧ 16 ≤ m.size ∧ MemHead f m

/-- What holds whatever has come up. -/
def NewInv (f : Wh.Feat) (ad : Addr) (s : Value) (b0 : Nat) (w2 : World) (L : Nat → Prop) (a' : Act) (w' : World) : Prop :=
  ∃ v9 v18 v19 v20 v21 v22 v23 v24 v25 v26 v27, a' = ⟨#[featVal f, .pointer (some ad), s, .pointer (some ⟨b0, 0, none⟩), undef, undef, .pointer none, .int .i64 0, .int .i64 0, v9, undef, featVal f, .int .i64 0, .int .i64 0, .bool false, undef, .pointer (some ad), .bool false,
      v18, v19, v20, v21, v22, v23, v24, v25, v26, v27, undef, undef, undef, undef, undef, undef, undef], []⟩ ∧ Below w2.heap.size w2 w' ∧
    (L 0 → v18 = featVal f) ∧ (L 1 → v19 = .pointer (some ad)) ∧ (L 2 → isMap v20) ∧ (L 3 → isAgg' v21) ∧ (L 4 → isPtr v22) ∧ (L 5 → isSlice v23) ∧ (L 6 → isMap v24) ∧ (L 7 → isMap v25) ∧ (L 8 → isBig f v26) ∧ (L 9 → NewBox f w2.heap.size w' v27) ∧ (L 10 → NewBox f w2.heap.size w' v9)

set_option maxHeartbeats 2000000 in
set_option maxRecDepth 100000 in
theorem plan_nil (w : World) (b B : Nat) (v14 v15 : Value) (hB : B ≤ b) (hbw : b < w.heap.size)
    (h14 : w.cell? ⟨b, 14, none⟩ = some v14) (h15 : w.cell? ⟨b, 15, none⟩ = some v15) (f14 : w.frozen? ⟨b, 14, none⟩ = false) (f15 : w.frozen? ⟨b, 15, none⟩ = false) (hBw : B ≤ w.heap.size) :
    Calls Tryz.prog 71 #[.pointer (some ⟨b, 0, none⟩), .slice none 0 0] w fun e w' => e = .returned (.int .i64 0) ∧ Below B w w' ∧ ∀ k, k < 14 → w'.cell? ⟨b, k, none⟩ = w.cell? ⟨b, k, none⟩ := by
  have HM := Lib.hid (fun W (hW : Below w.heap.size w W) => And.intro ((hW.cell (p := ⟨b, 14, none⟩) hbw).trans h14) (And.intro ((hW.cell (p := ⟨b, 15, none⟩) hbw).trans h15) (And.intro ((hW.frozen (p := ⟨b, 14, none⟩) hbw).trans f14) ((hW.frozen (p := ⟨b, 15, none⟩) hbw).trans f15))))
  have HMk := Lib.hid (fun W (hW : Below w.heap.size w W) (k : Nat) => (hW.cell (p := ⟨b, k, none⟩) hbw))
  clear h14 h15 f14 f15
  go_enter Tryz.func71, Tryz.ntmps71
  go_wp2_with fail
  go_loopg [12] 0 (fun g i wx => i = .int .i64 0 ∧ wx = w)
  case atStart => exact ⟨rfl, rfl⟩
  case round =>
    obtain ⟨rfl, rfl⟩ := hrel
    have HCl := Lib.hid (cloneFaults_any [] none 0 wr (by simp) (.inl rfl))
    dsimp only [List.length_nil] at HCl
    go_wp2_with fail
    refine HCl.out.mono ?_
    rintro e w5 ⟨⟨a5, n5, c5, rfl⟩, hb6⟩
    obtain ⟨m14, m15, g14, g15⟩ := HM.out w5 hb6
    have hne : w5.heap.size ≠ b := by have := hb6.size; omega
    have hlt5 : b < w5.heap.size := by have := hb6.size; omega
    have hb7 : Below B wr (w5.setCell ⟨b, 15, none⟩ (.slice a5 n5 c5)) := (hb6.mono hBw).setCell hB _
    have m14' : (w5.setCell ⟨b, 15, none⟩ (.slice a5 n5 c5)).cell? ⟨b, 14, none⟩ = some v14 := by rw [World.cell?_setCell_other _ _ _ _ (by simp)]; exact m14
    have g14' : (w5.setCell ⟨b, 15, none⟩ (.slice a5 n5 c5)).frozen? ⟨b, 14, none⟩ = false := by simp [g14]
    have hk7 : ∀ k, k < 14 → (w5.setCell ⟨b, 15, none⟩ (.slice a5 n5 c5)).cell? ⟨b, k, none⟩ = wr.cell? ⟨b, k, none⟩ := by
      intro k hk
      rw [World.cell?_setCell_other _ _ _ _ (by simp <;> omega)]
      exact HMk.out _ hb6 k
    have HK7 := Lib.hid hk7
    clear hk7
    have hs6 : (w5.setCell ⟨b, 15, none⟩ (.slice a5 n5 c5)).heap.size = w5.heap.size := by simp
    have hmk := make14
    go_upto_region 16 with fail
    clear m14 m15 g14 g15
    generalize w5.setCell ⟨b, 15, none⟩ (.slice a5 n5 c5) = w6 at *
    rw [← hs6] at hne hlt5
    clear hs6
    have hne2 : (⟨w6.heap.size, 0, none⟩ : Addr) ≠ ⟨b, 14, none⟩ := by simp
    have m14 : (w6.alloc zeros14).cell? ⟨b, 14, none⟩ = some v14 := by rw [World.cell?_alloc_lt _ _ _ hlt5]; exact m14'
    have g14 : (w6.alloc zeros14).frozen? ⟨b, 14, none⟩ = false := by rw [World.frozen?_alloc_past _ _ _ hlt5]; exact g14'
    go_wp2_with fail
    go_ret
    refine ⟨rfl, (hb7.setCell (p := ⟨b, 14, none⟩) hB _).alloc (by simp; omega) _, fun k hk => ?_⟩
    rw [World.cell?_alloc_lt _ _ _ (by simpa using hlt5), World.cell?_setCell_other _ _ _ _ (by simp <;> omega)]
    exact HK7.out k hk

set_option maxHeartbeats 2000000 in
set_option maxRecDepth 100000 in
theorem new_nil (f : Wh.Feat) (hf : FeatOk f) (ad : Addr) (w : World) (h0 : Wh.featErr f = 0) :
    Calls Tryz.prog 25 #[featVal f, .pointer (some ad), .slice none 0 0] w (NewPost f w) := by
  have hb1 : Below w.heap.size w (w.alloc (featObj f)) := bAlloc (Below.refl _ _) _
  have HB := Lib.hid (featBox_new w f)
  have HC := Lib.hid (fun W => stCheckFeat_any f hf W)
  rw [h0] at HC
  clear h0 hf
  unfold featVal
  go_enter Tryz.func25, Tryz.ntmps25
  go_upto_region 1 with fail
  unfold featObj at *
  generalize w.alloc (.cells #[.int .i64 f.has, .int .i64 f.sums, .int .i64 f.prec, .int .i64 f.maxName, .int .i64 f.maxPath, .int .i64 f.maxSize, .int .i64 f.page, .int .i64 f.partSize, .string f.forbid] 23) = w1 at *
  obtain ⟨k0, k1, k2, k3, k4, k5, k6, k7, k8, k9⟩ := HB.out
  go_wp2_with (go_at_call 70; refine (HC.out _).mono ?_; rintro e w2 ⟨rfl, hb2⟩)
  have HB2 := Lib.hid (HB.out.under hb2)
  clear k0 k1 k2 k3 k4 k5 k6 k7 k8 k9 HB HC
  have hmk := make14
  have hmm := @run_makeMap Tryz.prog
  go_cut [9] (fun s9 wx => NewBox f w2.heap.size wx s9 ∧ Below w2.heap.size w2 wx)
  case first =>
    refine wp_region_inv (NewInv f ad (.slice none 0 0) w.heap.size w2) (by kernel_rfl) (by kernel_rfl) ?_ ?_ ?_
    · exact ⟨_, _, _, _, _, _, _, _, _, _, _, rfl, (Below.refl _ _).drew, fun h => h.elim, fun h => h.elim, fun h => h.elim, fun h => h.elim, fun h => h.elim, fun h => h.elim, fun h => h.elim, fun h => h.elim, fun h => h.elim, fun h => h.elim, fun h => h.elim⟩
    · intro i o ho L a' w' hI hd K hK
      rcases i with _ | _ | _ | _ | _ | _ | _ | _ | _ | _ | _ | i
      · obtain rfl : o = ⟨_, _, _, _, _, _⟩ := (Option.some.inj ho).symm
        obtain ⟨v9, v18, v19, v20, v21, v22, v23, v24, v25, v26, v27, rfl, hb, q0, q1, q2, q3, q4, q5, q6, q7, q8, q9, q10⟩ := hI
        rw [if_pos (by rfl)]
        obtain ⟨k0, k1, k2, k3, k4, k5, k6, k7, k8, k9⟩ := HB2.out.under hb
        have Q0 := Lib.hid q0
        have Q1 := Lib.hid q1
        have Q2 := Lib.hid q2
        have Q3 := Lib.hid q3
        have Q4 := Lib.hid q4
        have Q5 := Lib.hid q5
        have Q6 := Lib.hid q6
        have Q7 := Lib.hid q7
        have Q8 := Lib.hid q8
        have Q9 := Lib.hid q9
        have Q10 := Lib.hid q10
        clear q0 q1 q2 q3 q4 q5 q6 q7 q8 q9 q10 hd
        go_wp2_with fail
        exact hK.out _ _ (fun L' hL => ⟨_, _, _, _, _, _, _, _, _, _, _, rfl, hb, fun _ => rfl, fun h => Q1.out ((hL 1 h).resolve_left (by decide)), fun h => Q2.out ((hL 2 h).resolve_left (by decide)), fun h => Q3.out ((hL 3 h).resolve_left (by decide)), fun h => Q4.out ((hL 4 h).resolve_left (by decide)), fun h => Q5.out ((hL 5 h).resolve_left (by decide)), fun h => Q6.out ((hL 6 h).resolve_left (by decide)), fun h => Q7.out ((hL 7 h).resolve_left (by decide)), fun h => Q8.out ((hL 8 h).resolve_left (by decide)), fun h => Q9.out ((hL 9 h).resolve_left (by decide)), fun h => Q10.out ((hL 10 h).resolve_left (by decide))⟩)
      · obtain rfl : o = ⟨_, _, _, _, _, _⟩ := (Option.some.inj ho).symm
        obtain ⟨v9, v18, v19, v20, v21, v22, v23, v24, v25, v26, v27, rfl, hb, q0, q1, q2, q3, q4, q5, q6, q7, q8, q9, q10⟩ := hI
        rw [if_pos (by rfl)]
        have Q0 := Lib.hid q0
        have Q1 := Lib.hid q1
        have Q2 := Lib.hid q2
        have Q3 := Lib.hid q3
        have Q4 := Lib.hid q4
        have Q5 := Lib.hid q5
        have Q6 := Lib.hid q6
        have Q7 := Lib.hid q7
        have Q8 := Lib.hid q8
        have Q9 := Lib.hid q9
        have Q10 := Lib.hid q10
        clear q0 q1 q2 q3 q4 q5 q6 q7 q8 q9 q10 hd
        go_wp2_with fail
        exact hK.out _ _ (fun L' hL => ⟨_, _, _, _, _, _, _, _, _, _, _, rfl, hb, fun h => Q0.out ((hL 0 h).resolve_left (by decide)), fun _ => rfl, fun h => Q2.out ((hL 2 h).resolve_left (by decide)), fun h => Q3.out ((hL 3 h).resolve_left (by decide)), fun h => Q4.out ((hL 4 h).resolve_left (by decide)), fun h => Q5.out ((hL 5 h).resolve_left (by decide)), fun h => Q6.out ((hL 6 h).resolve_left (by decide)), fun h => Q7.out ((hL 7 h).resolve_left (by decide)), fun h => Q8.out ((hL 8 h).resolve_left (by decide)), fun h => Q9.out ((hL 9 h).resolve_left (by decide)), fun h => Q10.out ((hL 10 h).resolve_left (by decide))⟩)
      · obtain rfl : o = ⟨_, _, _, _, _, _⟩ := (Option.some.inj ho).symm
        obtain ⟨v9, v18, v19, v20, v21, v22, v23, v24, v25, v26, v27, rfl, hb, q0, q1, q2, q3, q4, q5, q6, q7, q8, q9, q10⟩ := hI
        rw [if_pos (by rfl)]
        have Q0 := Lib.hid q0
        have Q1 := Lib.hid q1
        have Q2 := Lib.hid q2
        have Q3 := Lib.hid q3
        have Q4 := Lib.hid q4
        have Q5 := Lib.hid q5
        have Q6 := Lib.hid q6
        have Q7 := Lib.hid q7
        have Q8 := Lib.hid q8
        have Q9 := Lib.hid q9
        have Q10 := Lib.hid q10
        clear q0 q1 q2 q3 q4 q5 q6 q7 q8 q9 q10 hd
        go_wp2_with fail
        exact hK.out _ _ (fun L' hL => ⟨_, _, _, _, _, _, _, _, _, _, _, rfl, bAlloc hb _, fun h => Q0.out ((hL 0 h).resolve_left (by decide)), fun h => Q1.out ((hL 1 h).resolve_left (by decide)), fun _ => ⟨_, rfl⟩, fun h => Q3.out ((hL 3 h).resolve_left (by decide)), fun h => Q4.out ((hL 4 h).resolve_left (by decide)), fun h => Q5.out ((hL 5 h).resolve_left (by decide)), fun h => Q6.out ((hL 6 h).resolve_left (by decide)), fun h => Q7.out ((hL 7 h).resolve_left (by decide)), fun h => Q8.out ((hL 8 h).resolve_left (by decide)), fun h => (Q9.out ((hL 9 h).resolve_left (by decide))).alloc _, fun h => (Q10.out ((hL 10 h).resolve_left (by decide))).alloc _⟩)
      · obtain rfl : o = ⟨_, _, _, _, _, _⟩ := (Option.some.inj ho).symm
        obtain ⟨v9, v18, v19, v20, v21, v22, v23, v24, v25, v26, v27, rfl, hb, q0, q1, q2, q3, q4, q5, q6, q7, q8, q9, q10⟩ := hI
        simp [Region.binds] at hd
        have d2 := hd
        obtain ⟨m20, rfl⟩ := q2 d2
        rw [if_pos (by rfl)]
        have Q0 := Lib.hid q0
        have Q1 := Lib.hid q1
        have Q2 := Lib.hid q2
        have Q3 := Lib.hid q3
        have Q4 := Lib.hid q4
        have Q5 := Lib.hid q5
        have Q6 := Lib.hid q6
        have Q7 := Lib.hid q7
        have Q8 := Lib.hid q8
        have Q9 := Lib.hid q9
        have Q10 := Lib.hid q10
        clear q0 q1 q2 q3 q4 q5 q6 q7 q8 q9 q10 hd
        go_wp2_with fail
        exact hK.out _ _ (fun L' hL => ⟨_, _, _, _, _, _, _, _, _, _, _, rfl, hb, fun h => Q0.out ((hL 0 h).resolve_left (by decide)), fun h => Q1.out ((hL 1 h).resolve_left (by decide)), fun h => Q2.out ((hL 2 h).resolve_left (by decide)), fun _ => ⟨_, rfl⟩, fun h => Q4.out ((hL 4 h).resolve_left (by decide)), fun h => Q5.out ((hL 5 h).resolve_left (by decide)), fun h => Q6.out ((hL 6 h).resolve_left (by decide)), fun h => Q7.out ((hL 7 h).resolve_left (by decide)), fun h => Q8.out ((hL 8 h).resolve_left (by decide)), fun h => Q9.out ((hL 9 h).resolve_left (by decide)), fun h => Q10.out ((hL 10 h).resolve_left (by decide))⟩)
      · obtain rfl : o = ⟨_, _, _, _, _, _⟩ := (Option.some.inj ho).symm
        obtain ⟨v9, v18, v19, v20, v21, v22, v23, v24, v25, v26, v27, rfl, hb, q0, q1, q2, q3, q4, q5, q6, q7, q8, q9, q10⟩ := hI
        simp [Region.binds] at hd
        have d3 := hd
        obtain ⟨m21, rfl⟩ := q3 d3
        rw [if_pos (by rfl)]
        have Q0 := Lib.hid q0
        have Q1 := Lib.hid q1
        have Q2 := Lib.hid q2
        have Q3 := Lib.hid q3
        have Q4 := Lib.hid q4
        have Q5 := Lib.hid q5
        have Q6 := Lib.hid q6
        have Q7 := Lib.hid q7
        have Q8 := Lib.hid q8
        have Q9 := Lib.hid q9
        have Q10 := Lib.hid q10
        clear q0 q1 q2 q3 q4 q5 q6 q7 q8 q9 q10 hd
        go_wp2_with fail
        exact hK.out _ _ (fun L' hL => ⟨_, _, _, _, _, _, _, _, _, _, _, rfl, bAlloc hb _, fun h => Q0.out ((hL 0 h).resolve_left (by decide)), fun h => Q1.out ((hL 1 h).resolve_left (by decide)), fun h => Q2.out ((hL 2 h).resolve_left (by decide)), fun h => Q3.out ((hL 3 h).resolve_left (by decide)), fun _ => ⟨_, rfl⟩, fun h => Q5.out ((hL 5 h).resolve_left (by decide)), fun h => Q6.out ((hL 6 h).resolve_left (by decide)), fun h => Q7.out ((hL 7 h).resolve_left (by decide)), fun h => Q8.out ((hL 8 h).resolve_left (by decide)), fun h => (Q9.out ((hL 9 h).resolve_left (by decide))).alloc _, fun h => (Q10.out ((hL 10 h).resolve_left (by decide))).alloc _⟩)
      · obtain rfl : o = ⟨_, _, _, _, _, _⟩ := (Option.some.inj ho).symm
        obtain ⟨v9, v18, v19, v20, v21, v22, v23, v24, v25, v26, v27, rfl, hb, q0, q1, q2, q3, q4, q5, q6, q7, q8, q9, q10⟩ := hI
        rw [if_pos (by rfl)]
        have Q0 := Lib.hid q0
        have Q1 := Lib.hid q1
        have Q2 := Lib.hid q2
        have Q3 := Lib.hid q3
        have Q4 := Lib.hid q4
        have Q5 := Lib.hid q5
        have Q6 := Lib.hid q6
        have Q7 := Lib.hid q7
        have Q8 := Lib.hid q8
        have Q9 := Lib.hid q9
        have Q10 := Lib.hid q10
        clear q0 q1 q2 q3 q4 q5 q6 q7 q8 q9 q10 hd
        go_wp2_with fail
        exact hK.out _ _ (fun L' hL => ⟨_, _, _, _, _, _, _, _, _, _, _, rfl, bAlloc hb _, fun h => Q0.out ((hL 0 h).resolve_left (by decide)), fun h => Q1.out ((hL 1 h).resolve_left (by decide)), fun h => Q2.out ((hL 2 h).resolve_left (by decide)), fun h => Q3.out ((hL 3 h).resolve_left (by decide)), fun h => Q4.out ((hL 4 h).resolve_left (by decide)), fun _ => ⟨_, _, _, rfl⟩, fun h => Q6.out ((hL 6 h).resolve_left (by decide)), fun h => Q7.out ((hL 7 h).resolve_left (by decide)), fun h => Q8.out ((hL 8 h).resolve_left (by decide)), fun h => (Q9.out ((hL 9 h).resolve_left (by decide))).alloc _, fun h => (Q10.out ((hL 10 h).resolve_left (by decide))).alloc _⟩)
      · obtain rfl : o = ⟨_, _, _, _, _, _⟩ := (Option.some.inj ho).symm
        obtain ⟨v9, v18, v19, v20, v21, v22, v23, v24, v25, v26, v27, rfl, hb, q0, q1, q2, q3, q4, q5, q6, q7, q8, q9, q10⟩ := hI
        rw [if_pos (by rfl)]
        have Q0 := Lib.hid q0
        have Q1 := Lib.hid q1
        have Q2 := Lib.hid q2
        have Q3 := Lib.hid q3
        have Q4 := Lib.hid q4
        have Q5 := Lib.hid q5
        have Q6 := Lib.hid q6
        have Q7 := Lib.hid q7
        have Q8 := Lib.hid q8
        have Q9 := Lib.hid q9
        have Q10 := Lib.hid q10
        clear q0 q1 q2 q3 q4 q5 q6 q7 q8 q9 q10 hd
        go_wp2_with fail
        exact hK.out _ _ (fun L' hL => ⟨_, _, _, _, _, _, _, _, _, _, _, rfl, bAlloc hb _, fun h => Q0.out ((hL 0 h).resolve_left (by decide)), fun h => Q1.out ((hL 1 h).resolve_left (by decide)), fun h => Q2.out ((hL 2 h).resolve_left (by decide)), fun h => Q3.out ((hL 3 h).resolve_left (by decide)), fun h => Q4.out ((hL 4 h).resolve_left (by decide)), fun h => Q5.out ((hL 5 h).resolve_left (by decide)), fun _ => ⟨_, rfl⟩, fun h => Q7.out ((hL 7 h).resolve_left (by decide)), fun h => Q8.out ((hL 8 h).resolve_left (by decide)), fun h => (Q9.out ((hL 9 h).resolve_left (by decide))).alloc _, fun h => (Q10.out ((hL 10 h).resolve_left (by decide))).alloc _⟩)
      · obtain rfl : o = ⟨_, _, _, _, _, _⟩ := (Option.some.inj ho).symm
        obtain ⟨v9, v18, v19, v20, v21, v22, v23, v24, v25, v26, v27, rfl, hb, q0, q1, q2, q3, q4, q5, q6, q7, q8, q9, q10⟩ := hI
        rw [if_pos (by rfl)]
        have Q0 := Lib.hid q0
        have Q1 := Lib.hid q1
        have Q2 := Lib.hid q2
        have Q3 := Lib.hid q3
        have Q4 := Lib.hid q4
        have Q5 := Lib.hid q5
        have Q6 := Lib.hid q6
        have Q7 := Lib.hid q7
        have Q8 := Lib.hid q8
        have Q9 := Lib.hid q9
        have Q10 := Lib.hid q10
        clear q0 q1 q2 q3 q4 q5 q6 q7 q8 q9 q10 hd
        go_wp2_with fail
        exact hK.out _ _ (fun L' hL => ⟨_, _, _, _, _, _, _, _, _, _, _, rfl, bAlloc hb _, fun h => Q0.out ((hL 0 h).resolve_left (by decide)), fun h => Q1.out ((hL 1 h).resolve_left (by decide)), fun h => Q2.out ((hL 2 h).resolve_left (by decide)), fun h => Q3.out ((hL 3 h).resolve_left (by decide)), fun h => Q4.out ((hL 4 h).resolve_left (by decide)), fun h => Q5.out ((hL 5 h).resolve_left (by decide)), fun h => Q6.out ((hL 6 h).resolve_left (by decide)), fun _ => ⟨_, rfl⟩, fun h => Q8.out ((hL 8 h).resolve_left (by decide)), fun h => (Q9.out ((hL 9 h).resolve_left (by decide))).alloc _, fun h => (Q10.out ((hL 10 h).resolve_left (by decide))).alloc _⟩)
      · obtain rfl : o = ⟨_, _, _, _, _, _⟩ := (Option.some.inj ho).symm
        obtain ⟨v9, v18, v19, v20, v21, v22, v23, v24, v25, v26, v27, rfl, hb, q0, q1, q2, q3, q4, q5, q6, q7, q8, q9, q10⟩ := hI
        simp [Region.binds] at hd
        obtain ⟨d0, d1, d4, d5, d6, d7⟩ := hd
        obtain rfl := q0 d0
        obtain rfl := q1 d1
        obtain ⟨m22, rfl⟩ := q4 d4
        obtain ⟨x23, n23, c23, rfl⟩ := q5 d5
        obtain ⟨m24, rfl⟩ := q6 d6
        obtain ⟨m25, rfl⟩ := q7 d7
        rw [if_pos (by rfl)]
        have Q0 := Lib.hid q0
        have Q1 := Lib.hid q1
        have Q2 := Lib.hid q2
        have Q3 := Lib.hid q3
        have Q4 := Lib.hid q4
        have Q5 := Lib.hid q5
        have Q6 := Lib.hid q6
        have Q7 := Lib.hid q7
        have Q8 := Lib.hid q8
        have Q9 := Lib.hid q9
        have Q10 := Lib.hid q10
        clear q0 q1 q2 q3 q4 q5 q6 q7 q8 q9 q10
        unfold featVal
        go_wp2_with fail
        exact hK.out _ _ (fun L' hL => ⟨_, _, _, _, _, _, _, _, _, _, _, rfl, hb, fun _ => rfl, fun _ => rfl, fun h => Q2.out ((hL 2 h).resolve_left (by decide)), fun h => Q3.out ((hL 3 h).resolve_left (by decide)), fun h => Q4.out ((hL 4 h).resolve_left (by decide)), fun h => Q5.out ((hL 5 h).resolve_left (by decide)), fun h => Q6.out ((hL 6 h).resolve_left (by decide)), fun h => Q7.out ((hL 7 h).resolve_left (by decide)), fun _ => ⟨_, rfl, by simp, by unfold MemHead; simp⟩, fun h => Q9.out ((hL 9 h).resolve_left (by decide)), fun h => Q10.out ((hL 10 h).resolve_left (by decide))⟩)
      · obtain rfl : o = ⟨_, _, _, _, _, _⟩ := (Option.some.inj ho).symm
        obtain ⟨v9, v18, v19, v20, v21, v22, v23, v24, v25, v26, v27, rfl, hb, q0, q1, q2, q3, q4, q5, q6, q7, q8, q9, q10⟩ := hI
        simp [Region.binds] at hd
        have d8 := hd
        obtain ⟨m26, rfl, hm26⟩ := q8 d8
        rw [if_pos (by rfl)]
        have Q0 := Lib.hid q0
        have Q1 := Lib.hid q1
        have Q2 := Lib.hid q2
        have Q3 := Lib.hid q3
        have Q4 := Lib.hid q4
        have Q5 := Lib.hid q5
        have Q6 := Lib.hid q6
        have Q7 := Lib.hid q7
        have Q8 := Lib.hid q8
        have Q9 := Lib.hid q9
        have Q10 := Lib.hid q10
        clear q0 q1 q2 q3 q4 q5 q6 q7 q8 q9 q10 hd
        go_wp2_with fail
        exact hK.out _ _ (fun L' hL => ⟨_, _, _, _, _, _, _, _, _, _, _, rfl, bAlloc hb _, fun h => Q0.out ((hL 0 h).resolve_left (by decide)), fun h => Q1.out ((hL 1 h).resolve_left (by decide)), fun h => Q2.out ((hL 2 h).resolve_left (by decide)), fun h => Q3.out ((hL 3 h).resolve_left (by decide)), fun h => Q4.out ((hL 4 h).resolve_left (by decide)), fun h => Q5.out ((hL 5 h).resolve_left (by decide)), fun h => Q6.out ((hL 6 h).resolve_left (by decide)), fun h => Q7.out ((hL 7 h).resolve_left (by decide)), fun h => Q8.out ((hL 8 h).resolve_left (by decide)), fun _ => ⟨_, rfl, hb.size, _, heap_alloc_new _ _, hm26⟩, fun h => (Q10.out ((hL 10 h).resolve_left (by decide))).alloc _⟩)
      · obtain rfl : o = ⟨_, _, _, _, _, _⟩ := (Option.some.inj ho).symm
        obtain ⟨v9, v18, v19, v20, v21, v22, v23, v24, v25, v26, v27, rfl, hb, q0, q1, q2, q3, q4, q5, q6, q7, q8, q9, q10⟩ := hI
        simp [Region.binds] at hd
        have d9 := hd.1
        have hbox := q9 d9
        rw [if_pos (by rfl)]
        have Q0 := Lib.hid q0
        have Q1 := Lib.hid q1
        have Q2 := Lib.hid q2
        have Q3 := Lib.hid q3
        have Q4 := Lib.hid q4
        have Q5 := Lib.hid q5
        have Q6 := Lib.hid q6
        have Q7 := Lib.hid q7
        have Q8 := Lib.hid q8
        have Q9 := Lib.hid q9
        have Q10 := Lib.hid q10
        clear q0 q1 q2 q3 q4 q5 q6 q7 q8 q9 q10 hd
        go_wp2_with fail
        exact hK.out _ _ (fun L' hL => ⟨_, _, _, _, _, _, _, _, _, _, _, rfl, hb, fun h => Q0.out ((hL 0 h).resolve_left (by decide)), fun h => Q1.out ((hL 1 h).resolve_left (by decide)), fun h => Q2.out ((hL 2 h).resolve_left (by decide)), fun h => Q3.out ((hL 3 h).resolve_left (by decide)), fun h => Q4.out ((hL 4 h).resolve_left (by decide)), fun h => Q5.out ((hL 5 h).resolve_left (by decide)), fun h => Q6.out ((hL 6 h).resolve_left (by decide)), fun h => Q7.out ((hL 7 h).resolve_left (by decide)), fun h => Q8.out ((hL 8 h).resolve_left (by decide)), fun h => Q9.out ((hL 9 h).resolve_left (by decide)), fun _ => hbox⟩)
      · simp at ho
    · rintro L a' w' ⟨v9, v18, v19, v20, v21, v22, v23, v24, v25, v26, v27, rfl, hb, q0, q1, q2, q3, q4, q5, q6, q7, q8, q9, q10⟩ hall
      have h10 := Lib.hid (q10 (hall 10 (by simp)))
      clear q0 q1 q2 q3 q4 q5 q6 q7 q8 q9 q10 hall
      dsimp only [featVal]
      go_wp2_with fail
      go_meet
      exact ⟨h10.out, hb⟩
  case rest =>
    obtain ⟨⟨b, rfl, hb0, arr, harr, hsz, hhd⟩, hb3⟩ := hcut
    have hbl := (Array.getElem?_eq_some_iff.1 harr).1
    have hfb : FeatBox wc b f := by
      obtain ⟨e0, e1, e2, e3, e4, e5, e6, e7, e8⟩ := hhd
      refine ⟨hbl, ?_⟩
      refine ⟨(cell_of_row wc b 0 arr _ _ harr).trans e0, (cell_of_row wc b 1 arr _ _ harr).trans e1, (cell_of_row wc b 2 arr _ _ harr).trans e2, (cell_of_row wc b 3 arr _ _ harr).trans e3, (cell_of_row wc b 4 arr _ _ harr).trans e4, (cell_of_row wc b 5 arr _ _ harr).trans e5, (cell_of_row wc b 6 arr _ _ harr).trans e6, (cell_of_row wc b 7 arr _ _ harr).trans e7, (cell_of_row wc b 8 arr _ _ harr).trans e8⟩
    have HFB := Lib.hid hfb
    clear hfb hhd
    have c14 := cell_of_row wc b 14 arr _ _ harr
    have c15 := cell_of_row wc b 15 arr _ _ harr
    rw [Array.getElem?_eq_getElem (by omega)] at c14 c15
    have z14 : wc.frozen? ⟨b, 14, none⟩ = false := by simp [World.frozen?, harr]
    have z15 : wc.frozen? ⟨b, 15, none⟩ = false := by simp [World.frozen?, harr]
    have hb12 := bTrans hb1 hb2
    have HP := Lib.hid (plan_nil wc b w2.heap.size _ _ hb0 hbl c14 c15 z14 z15 hb3.size)
    clear c14 c15 z14 z15 harr HB2
    have hwb : w.heap.size ≤ b := by have := hb12.size; omega
    go_wp2_with fail
    refine HP.out.mono ?_
    rintro e w5 ⟨rfl, hb5, hk5⟩
    have hb6 : Below w.heap.size w w5 := (bTrans hb12 hb3).trans (hb5.mono hb12.size)
    have hl5 : b < w5.heap.size := by have := hb5.size; omega
    have HF5 : Hid (FeatBox w5 b f) := Lib.hid (by
      obtain ⟨_, q0, q1, q2, q3, q4, q5, q6, q7, q8⟩ := HFB.out
      exact ⟨hl5, (hk5 0 (by omega)).trans q0, (hk5 1 (by omega)).trans q1, (hk5 2 (by omega)).trans q2, (hk5 3 (by omega)).trans q3, (hk5 4 (by omega)).trans q4, (hk5 5 (by omega)).trans q5, (hk5 6 (by omega)).trans q6, (hk5 7 (by omega)).trans q7, (hk5 8 (by omega)).trans q8⟩)
    clear hb5 hk5
    go_wp2_with fail
    go_ret2
    exact ⟨b, rfl, hwb, hl5, HF5.out, hb6⟩
end Go.Proofs.YtiliijiohmeagaaGreatDoor
