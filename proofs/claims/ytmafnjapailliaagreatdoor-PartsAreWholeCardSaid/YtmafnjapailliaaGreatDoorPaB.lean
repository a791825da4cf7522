/-
  The texts Rng1, Pa8, Pa9, in one.
-/
import Derived.Test.YtmafnjapailliaaGreatDoorMap2
import Derived.Maps.RangeRun
import Derived.Test.YtmafnjapailliaaGreatDoorMeC
import Derived.BigQuiet
namespace Go.Proofs.YtmafnjapailliaaGreatDoor
open Go.RowKit

/-- Block r goes over the map b, which holds v under the key; fresh: it has not come yet. -/
def ItAt (w : World) (b r : Nat) (key : ByteArray) (v : Value) (fresh : Bool) : Prop :=
  ∃ (e : MapEntry) (clock since c0 : Nat) (sn : Array Nat), w.heap[b]? = some (.map #[e] clock) ∧ e.key = .string key ∧ e.val = v ∧ e.born < since ∧ since ≤ c0 ∧ since ≤ clock ∧ w.heap[r]? = some (.mapIter (some b) since sn c0) ∧ sn = (if fresh then #[] else #[e.born])
section
variable {P : Program} {k e t : TypeId} {w w' : World} {b r : Nat} {key : ByteArray} {v : Value} {f : Bool}
theorem ItAt.ne (h : ItAt w b r key v f) : r ≠ b := by
  obtain ⟨e, cl, since, c0, sn, hb, _, _, _, _, _, hr, _⟩ := h
  rintro rfl
  rw [hb] at hr
  cases hr
theorem ItAt.kp {F : Nat → Prop} (h : ItAt w b r key v f) (hk : Kp F w w') (h1 : ¬ F b) (h2 : ¬ F r) : ItAt w' b r key v f := by
  obtain ⟨e, cl, since, c0, sn, hb, p1, p2, p3, p4, p5, hr, p6⟩ := h
  exact ⟨e, cl, since, c0, sn, (hk.block b (Array.getElem?_eq_some_iff.1 hb).1 h1).trans hb, p1, p2, p3, p4, p5, (hk.block r (Array.getElem?_eq_some_iff.1 hr).1 h2).trans hr, p6⟩
theorem ItAt.lt (h : ItAt w b r key v f) : r < w.heap.size := by
  obtain ⟨e, cl, since, c0, sn, hb, p1, p2, p3, p4, p5, hr, p6⟩ := h
  exact (Array.getElem?_eq_some_iff.1 hr).1
theorem MapOn.range (h : MapOn w b key (some v)) (ht : P.underlying t = some (.map k e)) :
    ∃ o, (Instr.range t (.map (some b))).run P w = .ok (.pointer (some ⟨w.heap.size, 0, none⟩)) (w.alloc o) ∧ ItAt (w.alloc o) b w.heap.size key v true := by
  have hlt := h.lt
  obtain ⟨es, c, hb, he, hbn⟩ := h
  obtain ⟨e0, h0⟩ : ∃ e0, es = #[e0] := by
    rcases hl : es.toList with _ | ⟨e0, _ | ⟨e1, r⟩⟩
    · rw [hl] at he; simp at he
    · exact ⟨e0, by apply Array.ext'; rw [hl]⟩
    · rw [hl] at he; simp at he
  subst h0
  simp at he
  refine ⟨_, run_range_map w t k e b #[e0] c ht hb, e0, c, c, c, #[], (heap_alloc_old w _ hlt).trans hb, he.1, he.2, hbn e0 (by simp), Nat.le_refl _, Nat.le_refl _, heap_alloc_new w _, rfl⟩
theorem MapOn.range0 (h : MapOn w b key none) (ht : P.underlying t = some (.map k e)) (ty : TypeId) :
    ∃ o, (Instr.range t (.map (some b))).run P w = .ok (.pointer (some ⟨w.heap.size, 0, none⟩)) (w.alloc o) ∧ (Instr.next (.pointer (some ⟨w.heap.size, 0, none⟩)) false ty).run P (w.alloc o) = .ok (.tuple #[.bool false]) (w.alloc o) := by
  have hlt := h.lt
  obtain ⟨es, c, hb, he, hbn⟩ := h
  obtain rfl : es = #[] := by
    apply Array.ext'
    simpa using he
  refine ⟨_, run_range_map w t k e b #[] c ht hb, ?_⟩
  rcases run_next_at (P := P) (w.alloc (.mapIter (some b) c #[] c)) ty w.heap.size b c c #[] #[] c (heap_alloc_new w _) ((heap_alloc_old w _ hlt).trans hb) (by simp) (Nat.le_refl _) with ⟨_, h1⟩ | ⟨e1, he1, _⟩
  · exact h1
  · simp [leftOf] at he1
theorem ItAt.next_true (h : ItAt w b r key v true) (ty : TypeId) :
    ∃ w', (Instr.next (.pointer (some ⟨r, 0, none⟩)) false ty).run P w = .ok (.tuple #[.bool true, .string key, v]) w' ∧ ItAt w' b r key v false ∧ Kp (fun i => i = r) w w' ∧ (Instr.entry (.pointer (some ⟨r, 0, none⟩))).run P w' = .ok (.tuple #[.string key, v]) w' := by
  have hne := h.ne
  obtain ⟨e, cl, since, c0, sn, hb, p1, p2, p3, p4, p5, hr, rfl⟩ := h
  rcases run_next_at (P := P) w ty r b since c0 #[] #[e] cl hr hb (by simpa using p3) p4 with ⟨h0, _⟩ | ⟨e1, he1, w1, hw1, hrun⟩
  · simp [leftOf] at h0
  · obtain rfl : e1 = e := by simpa [leftOf] using he1
    have hr1 : w1.heap[r]? = some (.mapIter (some b) since #[] c0) := by rcases hw1 with rfl | rfl <;> exact hr
    have hb1 : w1.heap[b]? = some (.map #[e1] cl) := by rcases hw1 with rfl | rfl <;> exact hb
    have s1 : (ChangeMaps.setBlock w1 r (.mapIter (some b) since (#[].push e1.born) cl)).heap[r]? = some (.mapIter (some b) since (#[].push e1.born) cl) := (MapKept.heap_set (o' := .mapIter (some b) since (#[].push e1.born) cl) hr1).1
    have s2 : (ChangeMaps.setBlock w1 r (.mapIter (some b) since (#[].push e1.born) cl)).heap[b]? = some (.map #[e1] cl) := ((MapKept.heap_set (o' := .mapIter (some b) since (#[].push e1.born) cl) hr1).2 b (fun q => hne q.symm)).trans hb1
    refine ⟨_, by rw [hrun, p1, p2], ⟨e1, cl, since, cl, _, s2, p1, p2, p3, p5, p5, s1, rfl⟩, ?_, ?_⟩
    · refine ⟨?_, ?_, ?_, ?_, fun i _ hi => ?_⟩
      · rcases hw1 with rfl | rfl <;> rfl
      · rcases hw1 with rfl | rfl <;> rfl
      · rcases hw1 with rfl | rfl <;> rfl
      · rcases hw1 with rfl | rfl <;> simp [ChangeMaps.setBlock]
      · refine ((MapKept.heap_set (o' := .mapIter (some b) since (#[].push e1.born) cl) hr1).2 i (fun q => hi q)).trans ?_
        rcases hw1 with rfl | rfl <;> rfl
    · rw [run_entry_at _ r b since #[] #[e1] cl e1 s1 s2 (by simp) (by simp), p1, p2]
theorem ItAt.next_false (h : ItAt w b r key v false) (ty : TypeId) : (Instr.next (.pointer (some ⟨r, 0, none⟩)) false ty).run P w = .ok (.tuple #[.bool false]) w := by
  obtain ⟨e, cl, since, c0, sn, hb, p1, p2, p3, p4, p5, hr, rfl⟩ := h
  rcases run_next_at (P := P) w ty r b since c0 _ #[e] cl hr hb (by simpa using p3) p4 with ⟨_, h1⟩ | ⟨e1, he1, _⟩
  · exact h1
  · simp [leftOf] at he1
variable {ops : Array Oper} {rest : List Oper} {op : Oper} {a : Act} {Q : Exit → Act → World → Prop}
theorem wpList_range1 (w : World) (h : MapOn w b key (some v)) (hg : op.guard = none) (m : Operand) (t : TypeId) (hop : op.op = Op.range t m) (ht : P.underlying t = some (.map k e)) (hm : a.eval m = .map (some b))
    (hK : ∀ w', ItAt w' b w.heap.size key v true → Below w.heap.size w w' → wpList P ops Q rest (a.put op.dst (.pointer (some ⟨w.heap.size, 0, none⟩))) w') : wpList P ops Q (op :: rest) a w := by
  refine wpList_plain hg fun K' hK' => ?_
  obtain ⟨o, hrun, r1⟩ := h.range (P := P) (t := t) ht
  unfold Oper.wp
  simp [execOp, hop, hm, hrun, Result.andThen]
  exact hK' _ _ (hK _ r1 (bAlloc (Below.refl _ _) _))
theorem wpList_range0 (w : World) (h : MapOn w b key none) (hg : op.guard = none) (m : Operand) (t : TypeId) (hop : op.op = Op.range t m) (ht : P.underlying t = some (.map k e)) (hm : a.eval m = .map (some b))
    (hK : ∀ w', (∀ ty, (Instr.next (.pointer (some ⟨w.heap.size, 0, none⟩)) false ty).run P w' = .ok (.tuple #[.bool false]) w') → Below w.heap.size w w' → wpList P ops Q rest (a.put op.dst (.pointer (some ⟨w.heap.size, 0, none⟩))) w') : wpList P ops Q (op :: rest) a w := by
  refine wpList_plain hg fun K' hK' => ?_
  obtain ⟨o, hrun, r1⟩ := h.range0 (P := P) (t := t) ht 0
  unfold Oper.wp
  simp [execOp, hop, hm, hrun, Result.andThen]
  refine hK' _ _ (hK _ (fun ty => ?_) (bAlloc (Below.refl _ _) _))
  obtain ⟨o2, hrun2, r2⟩ := h.range0 (P := P) (t := t) ht ty
  have : w.alloc o2 = w.alloc o := by
    rw [hrun] at hrun2
    injection hrun2 with _ h2
    exact h2.symm
  rw [this] at r2
  exact r2
theorem wpList_rangeNil (w : World) (hg : op.guard = none) (m : Operand) (t : TypeId) (hop : op.op = Op.range t m) (ht : P.underlying t = some (.map k e)) (hm : a.eval m = .map none)
    (hK : ∀ w', (∀ ty, (Instr.next (.pointer (some ⟨w.heap.size, 0, none⟩)) false ty).run P w' = .ok (.tuple #[.bool false]) w') → Below w.heap.size w w' → wpList P ops Q rest (a.put op.dst (.pointer (some ⟨w.heap.size, 0, none⟩))) w') : wpList P ops Q (op :: rest) a w := by
  refine wpList_plain hg fun K' hK' => ?_
  have hrun := run_range_nilMap (P := P) w t k e ht
  unfold Oper.wp
  simp [execOp, hop, hm, hrun, Result.andThen]
  exact hK' _ _ (hK _ (fun ty => run_next_nilMap w ty 0 0 #[]) (bAlloc (Below.refl _ _) _))
theorem wpList_next1 (w : World) (h : ItAt w b r key v true) (hg : op.guard = none) (it : Operand) (hop : op.op = Op.next it false) (hit : a.eval it = .pointer (some ⟨r, 0, none⟩))
    (hK : ∀ w', ItAt w' b r key v false → Kp (fun i => i = r) w w' → (Instr.entry (.pointer (some ⟨r, 0, none⟩))).run P w' = .ok (.tuple #[.string key, v]) w' → wpList P ops Q rest (a.put op.dst (.tuple #[.bool true, .string key, v])) w') : wpList P ops Q (op :: rest) a w := by
  refine wpList_plain hg fun K' hK' => ?_
  obtain ⟨w', hrun, r1, r2, r3⟩ := h.next_true (P := P) op.type
  unfold Oper.wp
  simp [execOp, hop, hit, hrun, Result.andThen]
  exact hK' _ _ (hK w' r1 r2 r3)
end
end Go.Proofs.YtmafnjapailliaaGreatDoor
namespace Go.Proofs.YtmafnjapailliaaGreatDoor
open Go.RowKit

set_option maxHeartbeats 1000000 in
theorem openUp_any (b cap : Nat) (ra : Option Addr) (w : World) (hc : w.cell? ⟨b, 17, none⟩ = some (.slice ra 0 cap)) :
    Calls Tryz.prog 19 #[ptr b] w fun e w' => e = .returned (.slice none 0 0) ∧ w' = w := by
  go_enter Tryz.func19, Tryz.ntmps19
  go_upto_region 3 with fail
  go_loopg [3, 15] 0 (fun gk s3 i wx => s3 = .slice none 0 0 ∧ i = .int .i64 0 ∧ wx = w)
  case atStart => exact ⟨rfl, rfl, rfl⟩
  case round =>
    obtain ⟨rfl, rfl, rfl⟩ := hrel
    go_wp2_with fail
    go_ret
    exact ⟨rfl, rfl⟩

set_option maxHeartbeats 1000000 in
theorem bitsLen_any (n : Nat) (hn : n ≤ 1) (w : World) : Calls Tryz.prog 117 #[.int .u64 n] w fun e w' => e = .returned (.int .i64 (Lib.bitLen n)) ∧ w' = w := by
  have H := Lib.hid (Tryz.bits_Len64 (n : Int) w (by omega) (by omega))
  rw [Int.toNat_natCast] at H
  go_enter Tryz.func117, Tryz.ntmps117
  go_wp2_with (go_at_call 163; refine H.out.mono ?_; rintro e w2 ⟨rfl, hw⟩; have hw2 := hw.symm; clear hw; subst hw2)
  go_ret
  exact ⟨rfl, rfl⟩
set_option maxHeartbeats 1000000 in
theorem insert1Node_any (a : Option Addr) (n c : Nat) (cmp : Value) (hn : n ≤ 1) (w : World) : Calls Tryz.prog 209 #[.slice a n c, .int .i64 0, .int .i64 n, cmp] w fun e w' => e = .returned (.tuple #[]) ∧ w' = w := by
  have hlt : ¬ ((1 : Int) < (n : Int)) := by omega
  go_enter Tryz.func209, Tryz.ntmps209
  go_upto_region 1 with fail
  go_loopg [8] 0 (fun gk i wx => i = .int .i64 1 ∧ wx = w)
  case atStart => exact ⟨rfl, rfl⟩
  case round =>
    obtain ⟨rfl, rfl⟩ := hrel
    go_wp2_with fail
    first | go_end0 | refine bodyPost_ret (results_none rfl _ _ _) rfl ?_
    exact ⟨rfl, rfl⟩
set_option maxHeartbeats 4000000 in
set_option maxRecDepth 100000 in
theorem pdq1Node_any (a : Option Addr) (n c : Nat) (k : Int) (cmp : Value) (hn : n ≤ 1) (w : World) : Calls Tryz.prog 180 #[.slice a n c, .int .i64 0, .int .i64 n, .int .i64 k, cmp] w fun e w' => e = .returned (.tuple #[]) ∧ w' = w := by
  have H := Lib.hid (insert1Node_any a n c cmp hn w)
  have h12 : (n : Int) ≤ 12 := by omega
  go_enter Tryz.func180, Tryz.ntmps180
  go_upto_region 2 with fail
  go_loopg [1, 2] 0 (fun gk s1 s2 wx => s1 = .int .i64 0 ∧ s2 = .int .i64 n ∧ wx = w)
  case atStart => exact ⟨rfl, rfl, rfl⟩
  case round =>
    obtain ⟨rfl, rfl, rfl⟩ := hrel
    go_wp2_with (go_at_call 209; refine H.out.mono ?_; rintro e w2 ⟨rfl, hw⟩; have hw2 := hw.symm; clear hw; subst hw2)
    first | go_end0 | refine bodyPost_ret (results_none rfl _ _ _) rfl ?_
    exact ⟨rfl, rfl⟩
set_option maxHeartbeats 1000000 in
theorem sort1Node_any (a : Option Addr) (n c : Nat) (cmp : Value) (hn : n ≤ 1) (w : World) : Calls Tryz.prog 151 #[.slice a n c, cmp] w fun e w' => e = .returned (.tuple #[]) ∧ w' = w := by
  have HB := Lib.hid (bitsLen_any n hn w)
  have HP := Lib.hid (fun k => pdq1Node_any a n c k cmp hn w)
  have hwn : IntKind.u64.wrap (n : Int) = (n : Int) := by rcases Nat.le_one_iff_eq_zero_or_eq_one.1 hn with h | h <;> rw [h] <;> rfl
  go_enter Tryz.func151, Tryz.ntmps151
  go_wp2_with (first | (go_at_call 117; refine HB.out.mono ?_; rintro e w2 ⟨rfl, hw⟩; have hw2 := hw.symm; clear hw; subst hw2) | (go_at_call 180; refine (HP.out _).mono ?_; rintro e w2 ⟨rfl, hw⟩; have hw2 := hw.symm; clear hw; subst hw2))
  first | go_end0 | refine bodyPost_ret (results_none rfl _ _ _) rfl ?_
  exact ⟨rfl, rfl⟩
set_option maxHeartbeats 1000000 in
theorem insert1Entry_any (a : Option Addr) (n c : Nat) (cmp : Value) (hn : n ≤ 1) (w : World) : Calls Tryz.prog 154 #[.slice a n c, .int .i64 0, .int .i64 n, cmp] w fun e w' => e = .returned (.tuple #[]) ∧ w' = w := by
  have hlt : ¬ ((1 : Int) < (n : Int)) := by omega
  go_enter Tryz.func154, Tryz.ntmps154
  go_upto_region 1 with fail
  go_loopg [8] 0 (fun gk i wx => i = .int .i64 1 ∧ wx = w)
  case atStart => exact ⟨rfl, rfl⟩
  case round =>
    obtain ⟨rfl, rfl⟩ := hrel
    go_wp2_with fail
    first | go_end0 | refine bodyPost_ret (results_none rfl _ _ _) rfl ?_
    exact ⟨rfl, rfl⟩
set_option maxHeartbeats 4000000 in
set_option maxRecDepth 100000 in
theorem pdq1Entry_any (a : Option Addr) (n c : Nat) (k : Int) (cmp : Value) (hn : n ≤ 1) (w : World) : Calls Tryz.prog 116 #[.slice a n c, .int .i64 0, .int .i64 n, .int .i64 k, cmp] w fun e w' => e = .returned (.tuple #[]) ∧ w' = w := by
  have H := Lib.hid (insert1Entry_any a n c cmp hn w)
  have h12 : (n : Int) ≤ 12 := by omega
  go_enter Tryz.func116, Tryz.ntmps116
  go_upto_region 2 with fail
  go_loopg [1, 2] 0 (fun gk s1 s2 wx => s1 = .int .i64 0 ∧ s2 = .int .i64 n ∧ wx = w)
  case atStart => exact ⟨rfl, rfl, rfl⟩
  case round =>
    obtain ⟨rfl, rfl, rfl⟩ := hrel
    go_wp2_with (go_at_call 154; refine H.out.mono ?_; rintro e w2 ⟨rfl, hw⟩; have hw2 := hw.symm; clear hw; subst hw2)
    first | go_end0 | refine bodyPost_ret (results_none rfl _ _ _) rfl ?_
    exact ⟨rfl, rfl⟩
set_option maxHeartbeats 1000000 in
theorem sort1Entry_any (a : Option Addr) (n c : Nat) (cmp : Value) (hn : n ≤ 1) (w : World) : Calls Tryz.prog 66 #[.slice a n c, cmp] w fun e w' => e = .returned (.tuple #[]) ∧ w' = w := by
  have HB := Lib.hid (bitsLen_any n hn w)
  have HP := Lib.hid (fun k => pdq1Entry_any a n c k cmp hn w)
  have hwn : IntKind.u64.wrap (n : Int) = (n : Int) := by rcases Nat.le_one_iff_eq_zero_or_eq_one.1 hn with h | h <;> rw [h] <;> rfl
  go_enter Tryz.func66, Tryz.ntmps66
  go_wp2_with (first | (go_at_call 117; refine HB.out.mono ?_; rintro e w2 ⟨rfl, hw⟩; have hw2 := hw.symm; clear hw; subst hw2) | (go_at_call 116; refine (HP.out _).mono ?_; rintro e w2 ⟨rfl, hw⟩; have hw2 := hw.symm; clear hw; subst hw2))
  first | go_end0 | refine bodyPost_ret (results_none rfl _ _ _) rfl ?_
  exact ⟨rfl, rfl⟩

theorem box_two2 (w : World) (us vs : Array Value) (t u : TypeId) : BoxIs ((w.alloc (.cells us t)).alloc (.cells vs u)) w.heap.size us t ∧ BoxIs ((w.alloc (.cells us t)).alloc (.cells vs u)) (w.heap.size + 1) vs u ∧ Below w.heap.size w ((w.alloc (.cells us t)).alloc (.cells vs u)) := by
  have h2 := BoxIs.new (w.alloc (.cells us t)) vs u
  have hz : (w.alloc (.cells us t)).heap.size = w.heap.size + 1 := by simp
  rw [hz] at h2
  exact ⟨(BoxIs.new w _ _).under (bAlloc (Below.refl _ _) _), h2, bAlloc (bAlloc (Below.refl _ _) _) _⟩
theorem infoNodeP : (Tryz.prog.info? 74).map (fun i => (i.zero, i.size, i.bytes)) = some (some (.pointer none), 1, 8) := by kernel_rfl
set_option maxHeartbeats 2000000 in
set_option maxRecDepth 100000 in
/-- The nodes of a directory that holds one. -/
theorem ordered1_any (rb kb nb : Nat) (A : ByteArray) (w : World) (hc : w.cell? ⟨rb, 3, none⟩ = some (.map (some kb))) (hk : MapOn w kb A (some (ptr nb))) :
    Calls Tryz.prog 115 #[ptr rb] w fun e w' => ∃ g cap, e = .returned (.slice (some ⟨g, 0, none⟩) 1 cap) ∧ RowG 74 1 w' w.heap.size (some ⟨g, 0, none⟩) cap [[ptr nb]] ∧ Below w.heap.size w w' := by
  have HK := Lib.hid hk
  have HS := Lib.hid (fun a c W => sort1Node_any a 1 c (.func (.func 152) #[] #[]) (by decide) W)
  obtain ⟨iv, hiv, hz0, hz1, hz2⟩ := info_parts infoNodeP
  have HI := Lib.hid (And.intro hiv (And.intro hz0 (And.intro hz1 hz2)))
  have HNo : Hid (∀ i, ¬ Go.Proofs.YtmafnjapailliaaGreatDoor.rb none i) := Lib.hid (fun i e => by obtain ⟨_, q, _⟩ := e; cases q)
  clear hk hiv hz0 hz1 hz2
  go_enter Tryz.func115, Tryz.ntmps115
  go_upto_region 3 with (at_range; refine wpList_range1 w HK.out rfl _ _ rfl Tryz.underlying172 rfl (fun w1 hi1 hb1 => ?_); have HIt := Lib.hid hi1; have HB1 := Lib.hid hb1; clear hi1 hb1)
  try simp only [Act.put, List.setIfInBounds_toArray, List.set_cons_zero, List.set_cons_succ]
  obtain ⟨r, hr⟩ : ∃ r, w.heap.size = r := ⟨_, rfl⟩
  rw [hr] at HIt ⊢
  have HRz := Lib.hid hr
  clear hr
  go_loopg [3] 1 (fun gk s3 wx => (gk = 1 ∧ s3 = .slice none 0 0 ∧ Hid (ItAt wx kb r A (ptr nb) true) ∧ Hid (Below r w wx)) ∨ (gk = 0 ∧ ∃ g cap, s3 = .slice (some ⟨g, 0, none⟩) 1 cap ∧ Hid (ItAt wx kb r A (ptr nb) false) ∧ Hid (RowG 74 1 wx r (some ⟨g, 0, none⟩) cap [[ptr nb]]) ∧ Hid (Below r w wx)))
  case atStart => exact .inl ⟨rfl, rfl, HIt, by rw [← HRz.out]; exact HB1⟩
  case round =>
    clear HIt HB1
    rcases hrel with ⟨rfl, rfl, HIt, HBx⟩ | ⟨rfl, g, cap, rfl, HIt, HRx, HBx⟩
    · go_wp2_with (first
        | (at_next; refine wpList_next1 wr HIt.out rfl _ rfl rfl (fun w1 hi1 hk1 he1 => ?_); have HI1 := Lib.hid hi1; have HB1 : Hid (Below r w w1) := Lib.hid (HBx.out.trans (hk1.below (fun i e => Nat.le_of_eq e.symm) (Nat.le_trans (Nat.le_of_eq HRz.out.symm) HBx.out.size))); have hen := he1; have hsz1 := (Nat.le_trans (Nat.le_of_eq HRz.out.symm) HB1.out.size); have HN1 := Lib.hid (RowG.nil 74 1 w1 r); clear hi1 hk1 he1)
        | (at_builtin; refine wpList_appG (w := w1) HN1.out Tryz.underlying235 HI.out.1 HI.out.2.1 HI.out.2.2.1 HI.out.2.2.2 rfl (by decide) (by decide) [ptr nb] rfl (by simp [Value.oneCell']) (by decide) hsz1 rfl (.tmp 15) (.tmp 17) rfl (by rfl) rfl (fun g7 cap7 w7 r1 r2 r3 => ?_); have HR7 := Lib.hid r1; have HI7 := Lib.hid (HI1.out.kp r2 (HNo.out _) (HNo.out _)); have HB7 : Hid (Below r w w7) := Lib.hid (HB1.out.trans (r2.below (fun i e => absurd e (HNo.out i)) hsz1)); clear r1 r2 r3))
      go_roundg 0
      case measure => omega
      case rel => exact .inr ⟨rfl, g7, cap7, rfl, HI7, HR7, HB7⟩
    · have hnf := fun ty => HIt.out.next_false (P := Tryz.prog) ty
      go_wp2_with (go_at_call 151; refine (HS.out _ _ _).mono ?_; rintro e w2 ⟨rfl, hw⟩; have hw2 := hw.symm; clear hw; subst hw2)
      go_ret
      exact ⟨g, cap, rfl, by rw [HRz.out]; exact HRx.out, by rw [HRz.out]; exact HBx.out⟩
set_option maxHeartbeats 2000000 in
set_option maxRecDepth 100000 in
/-- The nodes below a file. -/
theorem ordered0_any (nb : Nat) (w : World) (hc : w.cell? ⟨nb, 3, none⟩ = some (.map none)) :
    Calls Tryz.prog 115 #[ptr nb] w fun e w' => e = .returned (.slice none 0 0) ∧ Below w.heap.size w w' := by
  have HS := Lib.hid (fun W => sort1Node_any none 0 0 (.func (.func 152) #[] #[]) (by decide) W)
  go_enter Tryz.func115, Tryz.ntmps115
  go_upto_region 3 with (at_range; refine wpList_rangeNil w rfl _ _ rfl Tryz.underlying172 rfl (fun w1 hn1 hb1 => ?_); have HN := Lib.hid hn1; have HB1 := Lib.hid hb1; clear hn1 hb1)
  try simp only [Act.put, List.setIfInBounds_toArray, List.set_cons_zero, List.set_cons_succ]
  go_loopg [3] 0 (fun gk s3 wx => s3 = .slice none 0 0 ∧ wx = w1)
  case atStart => exact ⟨rfl, rfl⟩
  case round =>
    obtain ⟨rfl, rfl⟩ := hrel
    have hnf := HN.out
    go_wp2_with (go_at_call 151; refine (HS.out _).mono ?_; rintro e w2 ⟨rfl, hw⟩; have hw2 := hw.symm; clear hw; subst hw2)
    go_ret
    exact ⟨rfl, HB1.out⟩
set_option maxHeartbeats 2000000 in
set_option maxRecDepth 100000 in
theorem walk0_any (nb : Nat) (f : Value) (w : World) (hc : w.cell? ⟨nb, 3, none⟩ = some (.map none)) :
    Calls Tryz.prog 63 #[ptr nb, f] w fun e w' => e = .returned (.tuple #[]) ∧ Below w.heap.size w w' := by
  have HO := Lib.hid (ordered0_any nb w hc)
  clear hc
  go_enter Tryz.func63, Tryz.ntmps63
  go_upto_region 1 with (go_at_call 115; refine HO.out.mono ?_; rintro e w1 ⟨rfl, hb1⟩)
  go_loopg [9] 0 (fun gk i wx => i = .int .i64 0 ∧ wx = w1)
  case atStart => exact ⟨rfl, rfl⟩
  case round =>
    obtain ⟨rfl, rfl⟩ := hrel
    go_wp2_with fail
    first | go_end0 | refine bodyPost_ret (results_none rfl _ _ _) rfl ?_
    exact ⟨rfl, hb1⟩

abbrev entArr (A d : ByteArray) (t : Int) : Array Value := #[.string A, .bool false, .string d, .int .i64 t, .slice none 0 0]
abbrev entRow (A d : ByteArray) (t : Int) : List Value := [.string A, .bool false, .string d, .int .i64 t, .slice none 0 0]
theorem infoEntry : (Tryz.prog.info? 176).map (fun i => (i.zero, i.size, i.bytes)) = some (some (.agg #[.string ByteArray.empty, .bool false, .string ByteArray.empty, .int .i64 0, .slice none 0 0]), 5, 72) := by kernel_rfl
theorem enters_dump1 : ∀ args w, (callFunc 64 args).run Tryz.prog w = .ok (.enter 64 args) w := enters_of Tryz.func64 (by kernel_rfl) rfl
/-- What Dump's closure reads. -/
structure DS (A : ByteArray) (c : FileSt) (nb rb kb ob : Nat) (W : World) : Prop where
  file : BoxIs W nb (nodeArr A false (some ⟨rb, 0, none⟩) none c.data c.time c.id) 174
  up : BoxIs W rb (nodeArr ByteArray.empty true none (some kb) ByteArray.empty 0 ByteArray.empty) 174
  out : BoxIs W ob #[.slice none 0 0] 56
theorem DS.kp {A : ByteArray} {c : FileSt} {nb rb kb ob : Nat} {W W' : World} (h : DS A c nb rb kb ob W) (hb : Below W.heap.size W W') : DS A c nb rb kb ob W' :=
  ⟨h.file.under hb, h.up.under hb, h.out.under hb⟩
def D1Post (A : ByteArray) (c : FileSt) (ob : Nat) (w : World) (e : Ending) (w' : World) : Prop :=
  e = .returned (.tuple #[]) ∧ ∃ g cap, BoxIs w' ob #[.slice (some ⟨g, 0, none⟩) 1 cap] 56 ∧ RowG 176 5 w' w.heap.size (some ⟨g, 0, none⟩) cap [entRow A c.data c.time] ∧ Kp (fun i => i = ob) w w'
set_option maxHeartbeats 4000000 in
set_option maxRecDepth 100000 in
theorem dump1_any (A : ByteArray) (c : FileSt) (nb rb kb ob mb : Nat) (w : World) (hD : DS A c nb rb kb ob w) :
    Calls Tryz.prog 64 #[ptr nb, .pointer (some ⟨mb, 0, none⟩), .pointer (some ⟨ob, 0, none⟩)] w (D1Post A c ob w) := by
  have HD := Lib.hid hD
  have c1 : w.cell? ⟨nb, 1, none⟩ = some (.bool false) := hD.file.cell (j := 1) rfl
  obtain ⟨iv, hiv, hz0, hz1, hz2⟩ := info_parts infoEntry
  have HI := Lib.hid (And.intro hiv (And.intro hz0 (And.intro hz1 hz2)))
  have HN := Lib.hid (RowG.nil 176 5 w.drew w.heap.size)
  have HNo : Hid (∀ i, ¬ Go.Proofs.YtmafnjapailliaaGreatDoor.rb none i) := Lib.hid (fun i e => by obtain ⟨_, q, _⟩ := e; cases q)
  clear hD hiv hz0 hz1 hz2
  go_enter Tryz.func64, Tryz.ntmps64
  go_upto_region 1 with fail
  refine wp_region_seqQ (fun W => DS A c nb rb kb ob W) 23 [(0, true), (1, true), (2, true), (3, true), (4, true), (5, true), (6, true), (7, true), (8, true), (9, true), (10, true), (11, true), (12, true), (13, true), (14, true), (15, true), (16, true), (17, true), (18, true), (19, true), (20, true), (21, false), (22, false), (23, false)] (by as_aux_lemma => kernel_rfl) (by as_aux_lemma => kernel_rfl) (by as_aux_lemma => kernel_rfl) (by decide) (by as_aux_lemma => kernel_rfl) (by decide) (show DS A c nb rb kb ob w.drew from ⟨HD.out.file, HD.out.up, HD.out.out⟩) ?_
  intro OPS HO
  refine seqQ_take (o := ⟨_, _, _, _, _, _⟩) (v := ?_) (by rw [HO.out]; rfl) (by rfl) ?_ ?_
  rotate_left 1
  · first | ((intro W _; go_simp) <;> with_reducible rfl) | (intro W hW; have k1 : W.cell? ⟨ob, 0, none⟩ = some (.slice none 0 0) := hW.out.cell (j := 0) rfl; have k2 : W.cell? ⟨nb, 1, none⟩ = some (.bool false) := hW.file.cell (j := 1) rfl; have k3 : W.cell? ⟨nb, 4, none⟩ = some (.string c.data) := hW.file.cell (j := 4) rfl; have k4 : W.cell? ⟨nb, 5, none⟩ = some (.int .i64 c.time) := hW.file.cell (j := 5) rfl; have k5 : W.cell? ⟨nb, 6, none⟩ = some (.slice none 0 0) := hW.file.cell (j := 6) rfl; (go_simp <;> with_reducible rfl))
  try simp only [Act.put, List.setIfInBounds_toArray, List.set_cons_zero, List.set_cons_succ]
  refine seqQ_take (o := ⟨_, _, _, _, _, _⟩) (v := ?_) (by rw [HO.out]; rfl) (by rfl) ?_ ?_
  rotate_left 1
  · first | ((intro W _; go_simp) <;> with_reducible rfl) | (intro W hW; have k1 : W.cell? ⟨ob, 0, none⟩ = some (.slice none 0 0) := hW.out.cell (j := 0) rfl; have k2 : W.cell? ⟨nb, 1, none⟩ = some (.bool false) := hW.file.cell (j := 1) rfl; have k3 : W.cell? ⟨nb, 4, none⟩ = some (.string c.data) := hW.file.cell (j := 4) rfl; have k4 : W.cell? ⟨nb, 5, none⟩ = some (.int .i64 c.time) := hW.file.cell (j := 5) rfl; have k5 : W.cell? ⟨nb, 6, none⟩ = some (.slice none 0 0) := hW.file.cell (j := 6) rfl; (go_simp <;> with_reducible rfl))
  try simp only [Act.put, List.setIfInBounds_toArray, List.set_cons_zero, List.set_cons_succ]
  refine seqQ_quiet (o := ⟨_, _, _, _, _, _⟩) (by rw [HO.out]; rfl) (by rfl) 65 _ (fun W hW => ?_) _ (fun W hW => path_any nb rb A W (hW.file.cell (j := 0) rfl) (hW.file.cell (j := 2) rfl) (hW.up.cell (j := 2) rfl)) ?_
  · have k1 : W.cell? ⟨ob, 0, none⟩ = some (.slice none 0 0) := hW.out.cell (j := 0) rfl; have k2 : W.cell? ⟨nb, 1, none⟩ = some (.bool false) := hW.file.cell (j := 1) rfl; have k3 : W.cell? ⟨nb, 4, none⟩ = some (.string c.data) := hW.file.cell (j := 4) rfl; have k4 : W.cell? ⟨nb, 5, none⟩ = some (.int .i64 c.time) := hW.file.cell (j := 5) rfl; have k5 : W.cell? ⟨nb, 6, none⟩ = some (.slice none 0 0) := hW.file.cell (j := 6) rfl; (go_simp <;> with_reducible rfl)
  try simp only [Act.put, List.setIfInBounds_toArray, List.set_cons_zero, List.set_cons_succ]
  refine seqQ_take (o := ⟨_, _, _, _, _, _⟩) (v := ?_) (by rw [HO.out]; rfl) (by rfl) ?_ ?_
  rotate_left 1
  · first | ((intro W _; go_simp) <;> with_reducible rfl) | (intro W hW; have k1 : W.cell? ⟨ob, 0, none⟩ = some (.slice none 0 0) := hW.out.cell (j := 0) rfl; have k2 : W.cell? ⟨nb, 1, none⟩ = some (.bool false) := hW.file.cell (j := 1) rfl; have k3 : W.cell? ⟨nb, 4, none⟩ = some (.string c.data) := hW.file.cell (j := 4) rfl; have k4 : W.cell? ⟨nb, 5, none⟩ = some (.int .i64 c.time) := hW.file.cell (j := 5) rfl; have k5 : W.cell? ⟨nb, 6, none⟩ = some (.slice none 0 0) := hW.file.cell (j := 6) rfl; (go_simp <;> with_reducible rfl))
  try simp only [Act.put, List.setIfInBounds_toArray, List.set_cons_zero, List.set_cons_succ]
  refine seqQ_take (o := ⟨_, _, _, _, _, _⟩) (v := ?_) (by rw [HO.out]; rfl) (by rfl) ?_ ?_
  rotate_left 1
  · first | ((intro W _; go_simp) <;> with_reducible rfl) | (intro W hW; have k1 : W.cell? ⟨ob, 0, none⟩ = some (.slice none 0 0) := hW.out.cell (j := 0) rfl; have k2 : W.cell? ⟨nb, 1, none⟩ = some (.bool false) := hW.file.cell (j := 1) rfl; have k3 : W.cell? ⟨nb, 4, none⟩ = some (.string c.data) := hW.file.cell (j := 4) rfl; have k4 : W.cell? ⟨nb, 5, none⟩ = some (.int .i64 c.time) := hW.file.cell (j := 5) rfl; have k5 : W.cell? ⟨nb, 6, none⟩ = some (.slice none 0 0) := hW.file.cell (j := 6) rfl; (go_simp <;> with_reducible rfl))
  try simp only [Act.put, List.setIfInBounds_toArray, List.set_cons_zero, List.set_cons_succ]
  refine seqQ_take (o := ⟨_, _, _, _, _, _⟩) (v := ?_) (by rw [HO.out]; rfl) (by rfl) ?_ ?_
  rotate_left 1
  · first | ((intro W _; go_simp) <;> with_reducible rfl) | (intro W hW; have k1 : W.cell? ⟨ob, 0, none⟩ = some (.slice none 0 0) := hW.out.cell (j := 0) rfl; have k2 : W.cell? ⟨nb, 1, none⟩ = some (.bool false) := hW.file.cell (j := 1) rfl; have k3 : W.cell? ⟨nb, 4, none⟩ = some (.string c.data) := hW.file.cell (j := 4) rfl; have k4 : W.cell? ⟨nb, 5, none⟩ = some (.int .i64 c.time) := hW.file.cell (j := 5) rfl; have k5 : W.cell? ⟨nb, 6, none⟩ = some (.slice none 0 0) := hW.file.cell (j := 6) rfl; (go_simp <;> with_reducible rfl))
  try simp only [Act.put, List.setIfInBounds_toArray, List.set_cons_zero, List.set_cons_succ]
  refine seqQ_take (o := ⟨_, _, _, _, _, _⟩) (v := ?_) (by rw [HO.out]; rfl) (by rfl) ?_ ?_
  rotate_left 1
  · first | ((intro W _; go_simp) <;> with_reducible rfl) | (intro W hW; have k1 : W.cell? ⟨ob, 0, none⟩ = some (.slice none 0 0) := hW.out.cell (j := 0) rfl; have k2 : W.cell? ⟨nb, 1, none⟩ = some (.bool false) := hW.file.cell (j := 1) rfl; have k3 : W.cell? ⟨nb, 4, none⟩ = some (.string c.data) := hW.file.cell (j := 4) rfl; have k4 : W.cell? ⟨nb, 5, none⟩ = some (.int .i64 c.time) := hW.file.cell (j := 5) rfl; have k5 : W.cell? ⟨nb, 6, none⟩ = some (.slice none 0 0) := hW.file.cell (j := 6) rfl; (go_simp <;> with_reducible rfl))
  try simp only [Act.put, List.setIfInBounds_toArray, List.set_cons_zero, List.set_cons_succ]
  refine seqQ_take (o := ⟨_, _, _, _, _, _⟩) (v := ?_) (by rw [HO.out]; rfl) (by rfl) ?_ ?_
  rotate_left 1
  · first | ((intro W _; go_simp) <;> with_reducible rfl) | (intro W hW; have k1 : W.cell? ⟨ob, 0, none⟩ = some (.slice none 0 0) := hW.out.cell (j := 0) rfl; have k2 : W.cell? ⟨nb, 1, none⟩ = some (.bool false) := hW.file.cell (j := 1) rfl; have k3 : W.cell? ⟨nb, 4, none⟩ = some (.string c.data) := hW.file.cell (j := 4) rfl; have k4 : W.cell? ⟨nb, 5, none⟩ = some (.int .i64 c.time) := hW.file.cell (j := 5) rfl; have k5 : W.cell? ⟨nb, 6, none⟩ = some (.slice none 0 0) := hW.file.cell (j := 6) rfl; (go_simp <;> with_reducible rfl))
  try simp only [Act.put, List.setIfInBounds_toArray, List.set_cons_zero, List.set_cons_succ]
  refine seqQ_take (o := ⟨_, _, _, _, _, _⟩) (v := ?_) (by rw [HO.out]; rfl) (by rfl) ?_ ?_
  rotate_left 1
  · first | ((intro W _; go_simp) <;> with_reducible rfl) | (intro W hW; have k1 : W.cell? ⟨ob, 0, none⟩ = some (.slice none 0 0) := hW.out.cell (j := 0) rfl; have k2 : W.cell? ⟨nb, 1, none⟩ = some (.bool false) := hW.file.cell (j := 1) rfl; have k3 : W.cell? ⟨nb, 4, none⟩ = some (.string c.data) := hW.file.cell (j := 4) rfl; have k4 : W.cell? ⟨nb, 5, none⟩ = some (.int .i64 c.time) := hW.file.cell (j := 5) rfl; have k5 : W.cell? ⟨nb, 6, none⟩ = some (.slice none 0 0) := hW.file.cell (j := 6) rfl; (go_simp <;> with_reducible rfl))
  try simp only [Act.put, List.setIfInBounds_toArray, List.set_cons_zero, List.set_cons_succ]
  refine seqQ_take (o := ⟨_, _, _, _, _, _⟩) (v := ?_) (by rw [HO.out]; rfl) (by rfl) ?_ ?_
  rotate_left 1
  · first | ((intro W _; go_simp) <;> with_reducible rfl) | (intro W hW; have k1 : W.cell? ⟨ob, 0, none⟩ = some (.slice none 0 0) := hW.out.cell (j := 0) rfl; have k2 : W.cell? ⟨nb, 1, none⟩ = some (.bool false) := hW.file.cell (j := 1) rfl; have k3 : W.cell? ⟨nb, 4, none⟩ = some (.string c.data) := hW.file.cell (j := 4) rfl; have k4 : W.cell? ⟨nb, 5, none⟩ = some (.int .i64 c.time) := hW.file.cell (j := 5) rfl; have k5 : W.cell? ⟨nb, 6, none⟩ = some (.slice none 0 0) := hW.file.cell (j := 6) rfl; (go_simp <;> with_reducible rfl))
  try simp only [Act.put, List.setIfInBounds_toArray, List.set_cons_zero, List.set_cons_succ]
  refine seqQ_take (o := ⟨_, _, _, _, _, _⟩) (v := ?_) (by rw [HO.out]; rfl) (by rfl) ?_ ?_
  rotate_left 1
  · first | ((intro W _; go_simp) <;> with_reducible rfl) | (intro W hW; have k1 : W.cell? ⟨ob, 0, none⟩ = some (.slice none 0 0) := hW.out.cell (j := 0) rfl; have k2 : W.cell? ⟨nb, 1, none⟩ = some (.bool false) := hW.file.cell (j := 1) rfl; have k3 : W.cell? ⟨nb, 4, none⟩ = some (.string c.data) := hW.file.cell (j := 4) rfl; have k4 : W.cell? ⟨nb, 5, none⟩ = some (.int .i64 c.time) := hW.file.cell (j := 5) rfl; have k5 : W.cell? ⟨nb, 6, none⟩ = some (.slice none 0 0) := hW.file.cell (j := 6) rfl; (go_simp <;> with_reducible rfl))
  try simp only [Act.put, List.setIfInBounds_toArray, List.set_cons_zero, List.set_cons_succ]
  refine seqQ_take (o := ⟨_, _, _, _, _, _⟩) (v := ?_) (by rw [HO.out]; rfl) (by rfl) ?_ ?_
  rotate_left 1
  · first | ((intro W _; go_simp) <;> with_reducible rfl) | (intro W hW; have k1 : W.cell? ⟨ob, 0, none⟩ = some (.slice none 0 0) := hW.out.cell (j := 0) rfl; have k2 : W.cell? ⟨nb, 1, none⟩ = some (.bool false) := hW.file.cell (j := 1) rfl; have k3 : W.cell? ⟨nb, 4, none⟩ = some (.string c.data) := hW.file.cell (j := 4) rfl; have k4 : W.cell? ⟨nb, 5, none⟩ = some (.int .i64 c.time) := hW.file.cell (j := 5) rfl; have k5 : W.cell? ⟨nb, 6, none⟩ = some (.slice none 0 0) := hW.file.cell (j := 6) rfl; (go_simp <;> with_reducible rfl))
  try simp only [Act.put, List.setIfInBounds_toArray, List.set_cons_zero, List.set_cons_succ]
  refine seqQ_take (o := ⟨_, _, _, _, _, _⟩) (v := ?_) (by rw [HO.out]; rfl) (by rfl) ?_ ?_
  rotate_left 1
  · first | ((intro W _; go_simp) <;> with_reducible rfl) | (intro W hW; have k1 : W.cell? ⟨ob, 0, none⟩ = some (.slice none 0 0) := hW.out.cell (j := 0) rfl; have k2 : W.cell? ⟨nb, 1, none⟩ = some (.bool false) := hW.file.cell (j := 1) rfl; have k3 : W.cell? ⟨nb, 4, none⟩ = some (.string c.data) := hW.file.cell (j := 4) rfl; have k4 : W.cell? ⟨nb, 5, none⟩ = some (.int .i64 c.time) := hW.file.cell (j := 5) rfl; have k5 : W.cell? ⟨nb, 6, none⟩ = some (.slice none 0 0) := hW.file.cell (j := 6) rfl; (go_simp <;> with_reducible rfl))
  try simp only [Act.put, List.setIfInBounds_toArray, List.set_cons_zero, List.set_cons_succ]
  refine seqQ_take (o := ⟨_, _, _, _, _, _⟩) (v := ?_) (by rw [HO.out]; rfl) (by rfl) ?_ ?_
  rotate_left 1
  · first | ((intro W _; go_simp) <;> with_reducible rfl) | (intro W hW; have k1 : W.cell? ⟨ob, 0, none⟩ = some (.slice none 0 0) := hW.out.cell (j := 0) rfl; have k2 : W.cell? ⟨nb, 1, none⟩ = some (.bool false) := hW.file.cell (j := 1) rfl; have k3 : W.cell? ⟨nb, 4, none⟩ = some (.string c.data) := hW.file.cell (j := 4) rfl; have k4 : W.cell? ⟨nb, 5, none⟩ = some (.int .i64 c.time) := hW.file.cell (j := 5) rfl; have k5 : W.cell? ⟨nb, 6, none⟩ = some (.slice none 0 0) := hW.file.cell (j := 6) rfl; (go_simp <;> with_reducible rfl))
  try simp only [Act.put, List.setIfInBounds_toArray, List.set_cons_zero, List.set_cons_succ]
  refine seqQ_take (o := ⟨_, _, _, _, _, _⟩) (v := ?_) (by rw [HO.out]; rfl) (by rfl) ?_ ?_
  rotate_left 1
  · first | ((intro W _; go_simp) <;> with_reducible rfl) | (intro W hW; have k1 : W.cell? ⟨ob, 0, none⟩ = some (.slice none 0 0) := hW.out.cell (j := 0) rfl; have k2 : W.cell? ⟨nb, 1, none⟩ = some (.bool false) := hW.file.cell (j := 1) rfl; have k3 : W.cell? ⟨nb, 4, none⟩ = some (.string c.data) := hW.file.cell (j := 4) rfl; have k4 : W.cell? ⟨nb, 5, none⟩ = some (.int .i64 c.time) := hW.file.cell (j := 5) rfl; have k5 : W.cell? ⟨nb, 6, none⟩ = some (.slice none 0 0) := hW.file.cell (j := 6) rfl; (go_simp <;> with_reducible rfl))
  try simp only [Act.put, List.setIfInBounds_toArray, List.set_cons_zero, List.set_cons_succ]
  refine seqQ_take (o := ⟨_, _, _, _, _, _⟩) (v := ?_) (by rw [HO.out]; rfl) (by rfl) ?_ ?_
  rotate_left 1
  · first | ((intro W _; go_simp) <;> with_reducible rfl) | (intro W hW; have k1 : W.cell? ⟨ob, 0, none⟩ = some (.slice none 0 0) := hW.out.cell (j := 0) rfl; have k2 : W.cell? ⟨nb, 1, none⟩ = some (.bool false) := hW.file.cell (j := 1) rfl; have k3 : W.cell? ⟨nb, 4, none⟩ = some (.string c.data) := hW.file.cell (j := 4) rfl; have k4 : W.cell? ⟨nb, 5, none⟩ = some (.int .i64 c.time) := hW.file.cell (j := 5) rfl; have k5 : W.cell? ⟨nb, 6, none⟩ = some (.slice none 0 0) := hW.file.cell (j := 6) rfl; (go_simp <;> with_reducible rfl))
  try simp only [Act.put, List.setIfInBounds_toArray, List.set_cons_zero, List.set_cons_succ]
  refine seqQ_take (o := ⟨_, _, _, _, _, _⟩) (v := ?_) (by rw [HO.out]; rfl) (by rfl) ?_ ?_
  rotate_left 1
  · first | ((intro W _; go_simp) <;> with_reducible rfl) | (intro W hW; have k1 : W.cell? ⟨ob, 0, none⟩ = some (.slice none 0 0) := hW.out.cell (j := 0) rfl; have k2 : W.cell? ⟨nb, 1, none⟩ = some (.bool false) := hW.file.cell (j := 1) rfl; have k3 : W.cell? ⟨nb, 4, none⟩ = some (.string c.data) := hW.file.cell (j := 4) rfl; have k4 : W.cell? ⟨nb, 5, none⟩ = some (.int .i64 c.time) := hW.file.cell (j := 5) rfl; have k5 : W.cell? ⟨nb, 6, none⟩ = some (.slice none 0 0) := hW.file.cell (j := 6) rfl; (go_simp <;> with_reducible rfl))
  try simp only [Act.put, List.setIfInBounds_toArray, List.set_cons_zero, List.set_cons_succ]
  refine seqQ_take (o := ⟨_, _, _, _, _, _⟩) (v := ?_) (by rw [HO.out]; rfl) (by rfl) ?_ ?_
  rotate_left 1
  · first | ((intro W _; go_simp) <;> with_reducible rfl) | (intro W hW; have k1 : W.cell? ⟨ob, 0, none⟩ = some (.slice none 0 0) := hW.out.cell (j := 0) rfl; have k2 : W.cell? ⟨nb, 1, none⟩ = some (.bool false) := hW.file.cell (j := 1) rfl; have k3 : W.cell? ⟨nb, 4, none⟩ = some (.string c.data) := hW.file.cell (j := 4) rfl; have k4 : W.cell? ⟨nb, 5, none⟩ = some (.int .i64 c.time) := hW.file.cell (j := 5) rfl; have k5 : W.cell? ⟨nb, 6, none⟩ = some (.slice none 0 0) := hW.file.cell (j := 6) rfl; (go_simp <;> with_reducible rfl))
  try simp only [Act.put, List.setIfInBounds_toArray, List.set_cons_zero, List.set_cons_succ]
  refine seqQ_take (o := ⟨_, _, _, _, _, _⟩) (v := ?_) (by rw [HO.out]; rfl) (by rfl) ?_ ?_
  rotate_left 1
  · first | ((intro W _; go_simp) <;> with_reducible rfl) | (intro W hW; have k1 : W.cell? ⟨ob, 0, none⟩ = some (.slice none 0 0) := hW.out.cell (j := 0) rfl; have k2 : W.cell? ⟨nb, 1, none⟩ = some (.bool false) := hW.file.cell (j := 1) rfl; have k3 : W.cell? ⟨nb, 4, none⟩ = some (.string c.data) := hW.file.cell (j := 4) rfl; have k4 : W.cell? ⟨nb, 5, none⟩ = some (.int .i64 c.time) := hW.file.cell (j := 5) rfl; have k5 : W.cell? ⟨nb, 6, none⟩ = some (.slice none 0 0) := hW.file.cell (j := 6) rfl; (go_simp <;> with_reducible rfl))
  try simp only [Act.put, List.setIfInBounds_toArray, List.set_cons_zero, List.set_cons_succ]
  refine seqQ_quiet (o := ⟨_, _, _, _, _, _⟩) (by rw [HO.out]; rfl) (by rfl) 40 _ (fun W hW => ?_) _ (fun W hW => cloneM_nil W) ?_
  · have k1 : W.cell? ⟨ob, 0, none⟩ = some (.slice none 0 0) := hW.out.cell (j := 0) rfl; have k2 : W.cell? ⟨nb, 1, none⟩ = some (.bool false) := hW.file.cell (j := 1) rfl; have k3 : W.cell? ⟨nb, 4, none⟩ = some (.string c.data) := hW.file.cell (j := 4) rfl; have k4 : W.cell? ⟨nb, 5, none⟩ = some (.int .i64 c.time) := hW.file.cell (j := 5) rfl; have k5 : W.cell? ⟨nb, 6, none⟩ = some (.slice none 0 0) := hW.file.cell (j := 6) rfl; (go_simp <;> with_reducible rfl)
  try simp only [Act.put, List.setIfInBounds_toArray, List.set_cons_zero, List.set_cons_succ]
  refine seqQ_take (o := ⟨_, _, _, _, _, _⟩) (v := ?_) (by rw [HO.out]; rfl) (by rfl) ?_ ?_
  rotate_left 1
  · first | ((intro W _; go_simp) <;> with_reducible rfl) | (intro W hW; have k1 : W.cell? ⟨ob, 0, none⟩ = some (.slice none 0 0) := hW.out.cell (j := 0) rfl; have k2 : W.cell? ⟨nb, 1, none⟩ = some (.bool false) := hW.file.cell (j := 1) rfl; have k3 : W.cell? ⟨nb, 4, none⟩ = some (.string c.data) := hW.file.cell (j := 4) rfl; have k4 : W.cell? ⟨nb, 5, none⟩ = some (.int .i64 c.time) := hW.file.cell (j := 5) rfl; have k5 : W.cell? ⟨nb, 6, none⟩ = some (.slice none 0 0) := hW.file.cell (j := 6) rfl; (go_simp <;> with_reducible rfl))
  try simp only [Act.put, List.setIfInBounds_toArray, List.set_cons_zero, List.set_cons_succ]
  refine seqQ_do (o := ⟨_, _, _, _, _, _⟩) (by rw [HO.out]; rfl) (by rfl) (fun K hK => ?_)
  go_wp2_with fail
  have hS : DS A c nb rb kb ob (w.drew.alloc (.cells (entArr A c.data c.time) 176)) := (show DS A c nb rb kb ob w.drew from ⟨HD.out.file, HD.out.up, HD.out.out⟩).kp (bAlloc (Below.refl _ _) _)
  refine hK.out _ _ (fun _ => hS) ?_
  clear hK K
  try simp only [Act.put, List.setIfInBounds_toArray, List.set_cons_zero, List.set_cons_succ]
  refine seqQ_do (o := ⟨_, _, _, _, _, _⟩) (by rw [HO.out]; rfl) (by rfl) (fun K hK => ?_)
  refine wp_appG (w := w.drew) HN.out Tryz.underlying56 HI.out.1 HI.out.2.1 HI.out.2.2.1 HI.out.2.2.2 rfl (by decide) (by decide) (entRow A c.data c.time) rfl (by intro u hu; simp [entRow] at hu; rcases hu with rfl | rfl | rfl | rfl | rfl <;> rfl) (by decide) (Nat.le_refl _) (.tmp 13) (.tmp 34) rfl (by rfl) rfl (fun g7 cap7 w7 r1 r2 r3 => ?_)
  have hS : DS A c nb rb kb ob w7 := ⟨HD.out.file.kp r2.undrew (HNo.out _), HD.out.up.kp r2.undrew (HNo.out _), HD.out.out.kp r2.undrew (HNo.out _)⟩
  have HR7 := Lib.hid r1
  have HK7 : Hid (Kp (fun i => i = ob) w w7) := Lib.hid (r2.undrew.mono (fun i e => absurd e (HNo.out i)))
  have HO7 := Lib.hid hS.out
  clear r1 r2 r3
  refine hK.out _ _ (fun _ => hS) ?_
  clear hK K
  try simp only [Act.put, List.setIfInBounds_toArray, List.set_cons_zero, List.set_cons_succ]
  refine seqQ_do (o := ⟨_, _, _, _, _, _⟩) (by rw [HO.out]; rfl) (by rfl) (fun K hK => ?_)
  have k1 : w7.cell? ⟨ob, 0, none⟩ = some (.slice none 0 0) := HO7.out.cell (j := 0) rfl
  have kf : w7.frozen? ⟨ob, 0, none⟩ = false := Lib.frozen_of_heap HO7.out 0
  go_wp2_with fail
  have hk8 : Kp (fun i => i = ob) w7 (w7.setCell ⟨ob, 0, none⟩ (.slice (some ⟨g7, 0, none⟩) 1 cap7)) := (Kp.refl (fun i => i = ob) w7).set (b := ob) (.inl rfl) 0 _
  have HO8 := Lib.hid (BoxIs.putAt HO7.out 0 (.slice (some ⟨g7, 0, none⟩) 1 cap7))
  have HR8 := Lib.hid (HR7.out.kp hk8 (fun i hi e => HR7.out.ne HO7.out (by decide) (e ▸ hi)))
  have HK8 := Lib.hid (HK7.out.trans hk8)
  clear k1 kf hk8
  refine hK.out _ _ (fun h => absurd rfl h) ?_
  clear hK K
  try simp only [Act.put, List.setIfInBounds_toArray, List.set_cons_zero, List.set_cons_succ]
  refine seqQ_done ?_
  go_wp2_with fail
  first | go_end0 | refine bodyPost_ret (results_none rfl _ _ _) rfl ?_
  exact ⟨rfl, g7, cap7, HO8.out, HR8.out, HK8.out⟩
set_option maxHeartbeats 4000000 in
set_option maxRecDepth 100000 in
theorem walk1_any (A : ByteArray) (c : FileSt) (nb rb kb ob mb : Nat) (w : World) (hD : DS A c nb rb kb ob w) (hc : w.cell? ⟨rb, 3, none⟩ = some (.map (some kb))) (hk : MapOn w kb A (some (ptr nb))) :
    Calls Tryz.prog 63 #[ptr rb, .func (.func 64) #[] #[.pointer (some ⟨mb, 0, none⟩), .pointer (some ⟨ob, 0, none⟩)]] w (D1Post A c ob w) := by
  have HO := Lib.hid (ordered1_any rb kb nb A w hc hk)
  have HD := Lib.hid (fun W (h : DS A c nb rb kb ob W) => dump1_any A c nb rb kb ob mb W h)
  unfold D1Post at HD
  have HDs := Lib.hid hD
  have hen := enters_dump1
  clear hc hk hD
  go_enter Tryz.func63, Tryz.ntmps63
  go_upto_region 1 with (go_at_call 115; refine HO.out.mono ?_; rintro e w1 ⟨g, cap, rfl, hr1, hb1⟩)
  have HD1 := Lib.hid (HDs.out.kp hb1)
  have cg : w1.cell? ⟨g, 0, none⟩ = some (ptr nb) := by simpa using hr1.cell_at (by decide) (k := 0) (j := 0) rfl rfl
  have HB1 := Lib.hid hb1
  clear hr1 hb1 HO
  go_loopg [9] 1 (fun gk i wx => (gk = 1 ∧ i = .int .i64 0 ∧ wx = w1) ∨ (gk = 0 ∧ i = .int .i64 1 ∧ Hid (∃ g cap, BoxIs wx ob #[.slice (some ⟨g, 0, none⟩) 1 cap] 56 ∧ RowG 176 5 wx w.heap.size (some ⟨g, 0, none⟩) cap [entRow A c.data c.time] ∧ Kp (fun i => i = ob) w wx)))
  case atStart => exact .inl ⟨rfl, rfl, rfl⟩
  case round =>
    rcases hrel with ⟨rfl, rfl, rfl⟩ | ⟨rfl, rfl, HE⟩
    · go_upto_region 4 with (go_at_call 64; refine (HD.out _ HD1.out).mono ?_; rintro e w2 ⟨rfl, g2, cap2, ho2, hr2, hk2⟩)
      have hne : ¬ nb = ob := fun e => by have h1 := HD1.out.file; have h2 := HD1.out.out; rw [e] at h1; exact BoxIs.ne h1 h2 (by decide) rfl
      have f2 : w2.cell? ⟨nb, 3, none⟩ = some (.map none) := (HD1.out.file.kp hk2 hne).cell (j := 3) rfl
      have HW := Lib.hid (walk0_any nb (.func (.func 64) #[] #[.pointer (some ⟨mb, 0, none⟩), .pointer (some ⟨ob, 0, none⟩)]) w2 f2)
      have HO2 := Lib.hid ho2
      have HR2 := Lib.hid hr2
      have HK2 : Hid (Kp (fun i => i = ob) w w2) := Lib.hid ((Kp.of HB1.out).trans hk2)
      clear ho2 hr2 hk2 f2
      go_wp2_with (go_at_call 63; refine HW.out.mono ?_; rintro e w3 ⟨rfl, hb3⟩)
      go_roundg 0
      case measure => omega
      case rel => exact .inr ⟨rfl, by go_num, Lib.hid ⟨g2, cap2, HO2.out.under hb3, (HR2.out.lower HB1.out.size).kp (Kp.of (F := fun _ => False) hb3) (fun _ _ e => e), HK2.out.trans (Kp.of hb3)⟩⟩
    · go_wp2_with fail
      first | go_end0 | refine bodyPost_ret (results_none rfl _ _ _) rfl ?_
      exact ⟨rfl, HE.out⟩
def DumpPost (A : ByteArray) (c : FileSt) (w : World) (e : Ending) (w' : World) : Prop :=
  ∃ ra cap, e = .returned (.slice ra 1 cap) ∧ RowG 176 5 w' w.heap.size ra cap [entRow A c.data c.time] ∧ Below w.heap.size w w'
set_option maxHeartbeats 4000000 in
set_option maxRecDepth 100000 in
theorem dump_any (A : ByteArray) (M : MB) (s : MSt) (c : FileSt) (B : Nat) (w : World) (hM : MemAt w B A M s) (hcu : s.cur = some c) :
    Calls Tryz.prog 18 #[ptr M.b] w (DumpPost A c w) := by
  have HM := Lib.hid hM
  have hkd := hM.kids
  rw [hcu] at hkd
  have hfl := hM.file c hcu
  have HKd : Hid (MapOn w M.kb A (some (ptr M.nb))) := Lib.hid hkd
  have HFl := Lib.hid hfl
  have HB := Lib.hid (box_two2 w #[ptr M.b] #[.slice none 0 0] 34 56)
  have HS := Lib.hid (fun a cc cmp W => sort1Entry_any a 1 cc cmp (by decide) W)
  clear hM hkd hfl hcu
  go_enter Tryz.func18, Tryz.ntmps18
  go_upto_region 2 with fail
  obtain ⟨mb, hmb⟩ : ∃ mb, w.heap.size = mb := ⟨_, rfl⟩
  have HMb := Lib.hid hmb
  obtain ⟨h1, h2, h3⟩ := HB.out
  rw [hmb] at h1 h2 h3 ⊢
  have H1 := Lib.hid h1
  have H2 := Lib.hid h2
  have H3 := Lib.hid h3
  clear h1 h2 h3 hmb HB
  generalize (w.alloc _).alloc _ = w1 at *
  have HOb : Hid (w.heap.size ≤ mb + 1) := Lib.hid (by rw [HMb.out]; exact Nat.le_succ _)
  generalize mb + 1 = ob at *
  have hb1 : Below w.heap.size w w1 := by rw [HMb.out]; exact H3.out
  have HM1 := Lib.hid (HM.out.below hb1)
  have HD1 : Hid (DS A c M.nb M.rb M.kb ob w1) := Lib.hid ⟨HFl.out.under hb1, HM1.out.root, H2.out⟩
  have HW := Lib.hid (walk1_any A c M.nb M.rb M.kb ob mb w1 HD1.out HM1.out.rkids (HKd.out.kp (Kp.of (F := fun _ => False) hb1) (fun e => e)))
  unfold D1Post at HW
  have m0 : w1.cell? ⟨mb, 0, none⟩ = some (ptr M.b) := H1.out.cell (j := 0) rfl
  have m1 := HM1.out.rootp
  have HB1 := Lib.hid hb1
  clear hb1
  go_upto_region 3 with (go_at_call 63; refine HW.out.mono ?_; rintro e w2 ⟨rfl, g, cap, ho2, hr2, hk2⟩)
  have o2 : w2.cell? ⟨ob, 0, none⟩ = some (.slice (some ⟨g, 0, none⟩) 1 cap) := ho2.cell (j := 0) rfl
  have HR2 := Lib.hid hr2
  have hob : w.heap.size ≤ ob := HOb.out
  have HK2 : Hid (Below w.heap.size w w2) := Lib.hid (HB1.out.trans (hk2.below (fun i e => by rw [e]; exact hob) HB1.out.size))
  clear ho2 hr2 hk2
  go_wp2_with (go_at_call 66; refine (HS.out _ _ _ _).mono ?_; rintro e w3 ⟨rfl, hw⟩; have hw2 := hw.symm; clear hw; subst hw2)
  go_ret
  exact ⟨_, cap, rfl, HR2.out.lower HB1.out.size, HK2.out⟩
end Go.Proofs.YtmafnjapailliaaGreatDoor
namespace Go.Proofs.YtmafnjapailliaaGreatDoor
open Go.RowKit

theorem box_two (w : World) (us vs : Array Value) (t : TypeId) : BoxIs ((w.alloc (.cells us t)).alloc (.cells vs t)) w.heap.size us t ∧ BoxIs ((w.alloc (.cells us t)).alloc (.cells vs t)) (w.heap.size + 1) vs t ∧ Below w.heap.size w ((w.alloc (.cells us t)).alloc (.cells vs t)) := by
  have h2 := BoxIs.new (w.alloc (.cells us t)) vs t
  have hz : (w.alloc (.cells us t)).heap.size = w.heap.size + 1 := by simp
  rw [hz] at h2
  exact ⟨(BoxIs.new w _ _).under (bAlloc (Below.refl _ _) _), h2, bAlloc (bAlloc (Below.refl _ _) _) _⟩
theorem neqSum (k : Int) (s : ByteArray) (w : World) : (binOp .neq 256 (.agg #[.int .i64 k, .string s]) (.agg #[.int .i64 k, .string s])).run Tryz.prog w = .ok (.bool false) w := by
  have u3 := Tryz.underlying3
  have u9 := Tryz.underlying9
  have hS : Tryz.prog.underlying 256 = some (.struct (Tryz.prog.fieldsOf 256)) := by kernel_rfl
  have hp : Tryz.prog.stoodInHeld 256 = false := by kernel_rfl
  rw [run_neq_struct, show (10000 : Nat) = 9999 + 1 from rfl, run_equalIn_agg w 9999 256 _ _ hS hp]
  simp only [Program.fieldsOf, Tryz.underlying256]
  go_simp
/-- Rows of sums. -/
def SumsR (rows : List (List Value)) : Prop := ∀ r ∈ rows, ∃ (k : Int) (s : ByteArray), r = [.int .i64 k, .string s]
theorem sumRows_are (T : Tabs) (f : Int) (d : List UInt8) (i : Nat) : SumsR (sumRows T f d i) := by
  intro r hr
  unfold sumRows at hr
  obtain ⟨j, _, hj⟩ := List.mem_filterMap.1 hr
  split at hj
  · injection hj with hj
    exact ⟨_, _, hj.symm⟩
  · cases hj
set_option maxHeartbeats 2000000 in
theorem equalSum_any (rows : List (List Value)) (N : Nat) (a1 a2 : Option Addr) (c1 c2 B1 B2 : Nat) (w : World) (h1 : RowG 256 2 w B1 a1 c1 rows) (h2 : RowG 256 2 w B2 a2 c2 rows) (hr : SumsR rows) (hn : rows.length = N) (hN : N ≤ 100) :
    Calls Tryz.prog 146 #[.slice a1 N c1, .slice a2 N c2] w fun e w' => e = .returned (.bool true) ∧ Below w.heap.size w w' := by
  have H1 := Lib.hid h1
  have H2 := Lib.hid h2
  have HR := Lib.hid hr
  have HN := Lib.hid hn
  have hg : Tryz.prog.eqGuardType Tryz.prog.depth 256 = false := by kernel_rfl
  clear h1 h2 hr hn
  go_enter Tryz.func146, Tryz.ntmps146
  go_wp2_with fail
  go_loopg [13] N (fun g i wx => ∃ k : Nat, k + g = N ∧ i = .int .i64 k ∧ Below w.heap.size w wx)
  case atStart => exact ⟨0, by omega, rfl, Below.refl _ _⟩
  case round =>
    obtain ⟨k, hk, rfl, hb⟩ := hrel
    by_cases hlt : k < N
    · obtain ⟨g, rfl⟩ : ∃ g, gk = g + 1 := ⟨gk - 1, by omega⟩
      obtain ⟨r, hrk⟩ : ∃ r, rows[k]? = some r := ⟨_, List.getElem?_eq_getElem (by rw [HN.out]; exact hlt)⟩
      obtain ⟨kk, ss, rfl⟩ := HR.out r (List.mem_of_getElem? hrk)
      obtain ⟨b1, e1⟩ := H1.out.some_of (by rw [HN.out]; omega)
      obtain ⟨b2, e2⟩ := H2.out.some_of (by rw [HN.out]; omega)
      subst e1 e2
      have r1 := H1.out.kp (Kp.of (F := fun _ => False) hb) (fun _ _ e => e)
      have r2 := H2.out.kp (Kp.of (F := fun _ => False) hb) (fun _ _ e => e)
      have p0 : wr.cell? ⟨b1, k * 2, none⟩ = some (.int .i64 kk) := r1.cell_at (by decide) hrk (j := 0) rfl
      have p1 : wr.cell? ⟨b1, k * 2 + 1, none⟩ = some (.string ss) := r1.cell_at (by decide) hrk (j := 1) rfl
      have q0 : wr.cell? ⟨b2, k * 2, none⟩ = some (.int .i64 kk) := r2.cell_at (by decide) hrk (j := 0) rfl
      have q1 : wr.cell? ⟨b2, k * 2 + 1, none⟩ = some (.string ss) := r2.cell_at (by decide) hrk (j := 1) rfl
      have hne := neqSum kk ss
      have hI : (k : Int) < (N : Int) := by omega
      have hI0 : (0 : Int) ≤ (k : Int) := by omega
      clear hrk r1 r2
      go_wp2_with fail
      go_quiet (fail)
      go_wp2_with fail
      go_roundg g
      case measure => omega
      case rel => exact ⟨k + 1, by omega, by go_num, bDrewN hb _⟩
    · have hI : ¬ (k : Int) < (N : Int) := by omega
      go_wp2_with fail
      go_ret
      exact ⟨rfl, hb⟩
set_option maxHeartbeats 2000000 in
theorem listeqSum_any (rows : List (List Value)) (N : Nat) (a1 a2 : Option Addr) (c1 c2 B1 B2 : Nat) (w : World) (h1 : RowG 256 2 w B1 a1 c1 rows) (h2 : RowG 256 2 w B2 a2 c2 rows) (hr : SumsR rows) (hn : rows.length = N) (hN : N ≤ 100) :
    Calls Tryz.prog 101 #[.slice a1 N c1, .slice a2 N c2] w fun e w' => e = .returned (.bool true) ∧ Below w.heap.size w w' := by
  have HE := Lib.hid (equalSum_any rows N a1 a2 c1 c2 B1 B2 w h1 h2 hr hn hN)
  clear h1 h2 hr hn
  go_enter Tryz.func101, Tryz.ntmps101
  go_wp2_with (go_at_call 146; refine HE.out.mono ?_; rintro e w2 ⟨rfl, hb2⟩)
  go_ret
  exact ⟨rfl, hb2⟩
set_option maxHeartbeats 2000000 in
theorem equalMeta_nil (w : World) : Calls Tryz.prog 147 #[.slice none 0 0, .slice none 0 0] w fun e w' => e = .returned (.bool true) ∧ w' = w := by
  go_enter Tryz.func147, Tryz.ntmps147
  go_wp2_with fail
  go_loopg [13] 0 (fun g i wx => i = .int .i64 0 ∧ wx = w)
  case atStart => exact ⟨rfl, rfl⟩
  case round =>
    obtain ⟨rfl, rfl⟩ := hrel
    go_wp2_with fail
    go_ret
    exact ⟨rfl, rfl⟩
theorem listeqMeta_nil (w : World) : Calls Tryz.prog 102 #[.slice none 0 0, .slice none 0 0] w fun e w' => e = .returned (.bool true) ∧ w' = w := by
  have HE := Lib.hid (equalMeta_nil w)
  go_enter Tryz.func102, Tryz.ntmps102
  go_wp2_with (go_at_call 147; refine HE.out.mono ?_; rintro e w2 ⟨rfl, hw⟩; have hw2 := hw.symm; clear hw; subst hw2)
  go_ret
  exact ⟨rfl, rfl⟩

set_option maxHeartbeats 4000000 in
set_option maxRecDepth 100000 in
theorem eqInfo_any (A id : ByteArray) (d : Bool) (n t : Int) (rows : List (List Value)) (N : Nat) (sa1 sa2 : Option Addr) (sc1 sc2 B1 B2 : Nat) (w : World) (h1 : RowG 256 2 w B1 sa1 sc1 rows) (h2 : RowG 256 2 w B2 sa2 sc2 rows) (hr : SumsR rows) (hn : rows.length = N) (hN : N ≤ 100) :
    Calls Tryz.prog 51 #[.agg #[.string A, .bool d, .int .i64 n, .int .i64 t, .slice sa1 N sc1, .slice none 0 0, .string id], .agg #[.string A, .bool d, .int .i64 n, .int .i64 t, .slice sa2 N sc2, .slice none 0 0, .string id]] w fun e w' => e = .returned (.bool true) ∧ Below w.heap.size w w' := by
  have HS := Lib.hid (fun W (hb : Below w.heap.size w W) => listeqSum_any rows N sa1 sa2 sc1 sc2 B1 B2 W (h1.kp (Kp.of (F := fun _ => False) hb) (fun _ _ e => e)) (h2.kp (Kp.of (F := fun _ => False) hb) (fun _ _ e => e)) hr hn hN)
  have HM := Lib.hid listeqMeta_nil
  have HB := Lib.hid (box_two w #[.string A, .bool d, .int .i64 n, .int .i64 t, .slice sa1 N sc1, .slice none 0 0, .string id] #[.string A, .bool d, .int .i64 n, .int .i64 t, .slice sa2 N sc2, .slice none 0 0, .string id] 42)
  clear h1 h2 hr hn
  go_enter Tryz.func51, Tryz.ntmps51
  go_upto_region 1 with fail
  generalize (w.alloc _).alloc _ = w1 at *
  have c0 := HB.out.1.cell (j := 0) rfl; have c1 := HB.out.1.cell (j := 1) rfl; have c2 := HB.out.1.cell (j := 2) rfl; have c3 := HB.out.1.cell (j := 3) rfl; have c4 := HB.out.1.cell (j := 4) rfl; have c5 := HB.out.1.cell (j := 5) rfl; have c6 := HB.out.1.cell (j := 6) rfl; have k0 := HB.out.2.1.cell (j := 0) rfl; have k1 := HB.out.2.1.cell (j := 1) rfl; have k2 := HB.out.2.1.cell (j := 2) rfl; have k3 := HB.out.2.1.cell (j := 3) rfl; have k4 := HB.out.2.1.cell (j := 4) rfl; have k5 := HB.out.2.1.cell (j := 5) rfl; have k6 := HB.out.2.1.cell (j := 6) rfl
  go_wp2_with (first | (go_at_call 101; refine (HS.out _ HB.out.2.2).mono ?_; rintro e w2 ⟨rfl, hb2⟩; have HB2 := Lib.hid (And.intro (HB.out.1.under hb2) (And.intro (HB.out.2.1.under hb2) (bTrans HB.out.2.2 hb2))); have c0 := HB2.out.1.cell (j := 0) rfl; have c1 := HB2.out.1.cell (j := 1) rfl; have c2 := HB2.out.1.cell (j := 2) rfl; have c3 := HB2.out.1.cell (j := 3) rfl; have c4 := HB2.out.1.cell (j := 4) rfl; have c5 := HB2.out.1.cell (j := 5) rfl; have c6 := HB2.out.1.cell (j := 6) rfl; have k0 := HB2.out.2.1.cell (j := 0) rfl; have k1 := HB2.out.2.1.cell (j := 1) rfl; have k2 := HB2.out.2.1.cell (j := 2) rfl; have k3 := HB2.out.2.1.cell (j := 3) rfl; have k4 := HB2.out.2.1.cell (j := 4) rfl; have k5 := HB2.out.2.1.cell (j := 5) rfl; have k6 := HB2.out.2.1.cell (j := 6) rfl) | (go_at_call 102; refine (HM.out _).mono ?_; rintro e w3 ⟨rfl, hw⟩; have hw2 := hw.symm; clear hw; subst hw2))
  go_ret
  exact ⟨rfl, HB2.out.2.2⟩
set_option maxHeartbeats 4000000 in
set_option maxRecDepth 100000 in
theorem eqEntry_any (A d : ByteArray) (b : Bool) (t : Int) (w : World) :
    Calls Tryz.prog 95 #[.agg #[.string A, .bool b, .string d, .int .i64 t, .slice none 0 0], .agg #[.string A, .bool b, .string d, .int .i64 t, .slice none 0 0]] w fun e w' => e = .returned (.bool true) ∧ Below w.heap.size w w' := by
  have HM := Lib.hid listeqMeta_nil
  have HB := Lib.hid (box_two w #[.string A, .bool b, .string d, .int .i64 t, .slice none 0 0] #[.string A, .bool b, .string d, .int .i64 t, .slice none 0 0] 176)
  go_enter Tryz.func95, Tryz.ntmps95
  go_upto_region 1 with fail
  generalize (w.alloc _).alloc _ = w1 at *
  have c0 := HB.out.1.cell (j := 0) rfl; have c1 := HB.out.1.cell (j := 1) rfl; have c2 := HB.out.1.cell (j := 2) rfl; have c3 := HB.out.1.cell (j := 3) rfl; have c4 := HB.out.1.cell (j := 4) rfl; have k0 := HB.out.2.1.cell (j := 0) rfl; have k1 := HB.out.2.1.cell (j := 1) rfl; have k2 := HB.out.2.1.cell (j := 2) rfl; have k3 := HB.out.2.1.cell (j := 3) rfl; have k4 := HB.out.2.1.cell (j := 4) rfl
  go_wp2_with (go_at_call 102; refine (HM.out _).mono ?_; rintro e w3 ⟨rfl, hw⟩; have hw2 := hw.symm; clear hw; subst hw2)
  go_ret
  exact ⟨rfl, HB.out.2.2⟩
theorem enters_eqEntry : ∀ args w, (callFunc 95 args).run Tryz.prog w = .ok (.enter 95 args) w := enters_of Tryz.func95 (by kernel_rfl) rfl
set_option maxHeartbeats 4000000 in
set_option maxRecDepth 100000 in
theorem equalEntry_any (A d : ByteArray) (b : Bool) (t : Int) (a1 a2 : Option Addr) (c1 c2 B1 B2 : Nat) (w : World) (h1 : RowG 176 5 w B1 a1 c1 [[.string A, .bool b, .string d, .int .i64 t, .slice none 0 0]]) (h2 : RowG 176 5 w B2 a2 c2 [[.string A, .bool b, .string d, .int .i64 t, .slice none 0 0]]) :
    Calls Tryz.prog 94 #[.slice a1 1 c1, .slice a2 1 c2, .func (.func 95) #[] #[]] w fun e w' => e = .returned (.bool true) ∧ Below w.heap.size w w' := by
  obtain ⟨g1, rfl⟩ := h1.some_of (Nat.succ_pos 0)
  obtain ⟨g2, rfl⟩ := h2.some_of (Nat.succ_pos 0)
  have p0 : w.cell? ⟨g1, 0, none⟩ = some (.string A) := by simpa using h1.cell_at (by decide) (k := 0) (j := 0) rfl rfl
  have p1 : w.cell? ⟨g1, 1, none⟩ = some (.bool b) := by simpa using h1.cell_at (by decide) (k := 0) (j := 1) rfl rfl
  have p2 : w.cell? ⟨g1, 2, none⟩ = some (.string d) := by simpa using h1.cell_at (by decide) (k := 0) (j := 2) rfl rfl
  have p3 : w.cell? ⟨g1, 3, none⟩ = some (.int .i64 t) := by simpa using h1.cell_at (by decide) (k := 0) (j := 3) rfl rfl
  have p4 : w.cell? ⟨g1, 4, none⟩ = some (.slice none 0 0) := by simpa using h1.cell_at (by decide) (k := 0) (j := 4) rfl rfl
  have q0 : w.cell? ⟨g2, 0, none⟩ = some (.string A) := by simpa using h2.cell_at (by decide) (k := 0) (j := 0) rfl rfl
  have q1 : w.cell? ⟨g2, 1, none⟩ = some (.bool b) := by simpa using h2.cell_at (by decide) (k := 0) (j := 1) rfl rfl
  have q2 : w.cell? ⟨g2, 2, none⟩ = some (.string d) := by simpa using h2.cell_at (by decide) (k := 0) (j := 2) rfl rfl
  have q3 : w.cell? ⟨g2, 3, none⟩ = some (.int .i64 t) := by simpa using h2.cell_at (by decide) (k := 0) (j := 3) rfl rfl
  have q4 : w.cell? ⟨g2, 4, none⟩ = some (.slice none 0 0) := by simpa using h2.cell_at (by decide) (k := 0) (j := 4) rfl rfl
  have hl1 : g1 < w.heap.size := cell_lt p0
  have hl2 : g2 < w.heap.size := cell_lt q0
  have HE := Lib.hid (fun W => eqEntry_any A d b t W)
  have hen := enters_eqEntry
  clear h1 h2
  go_enter Tryz.func94, Tryz.ntmps94
  go_wp2_with fail
  go_loopg [17] 1 (fun g i wx => (g = 1 ∧ i = .int .i64 0 ∧ wx = w) ∨ (g = 0 ∧ i = .int .i64 1 ∧ Hid (Below w.heap.size w wx)))
  case atStart => exact .inl ⟨rfl, rfl, rfl⟩
  case round =>
    rcases hrel with ⟨rfl, rfl, rfl⟩ | ⟨rfl, rfl, HBx⟩
    · have HB := Lib.hid (box_two wr #[.string A, .bool b, .string d, .int .i64 t, .slice none 0 0] #[.string A, .bool b, .string d, .int .i64 t, .slice none 0 0] 176)
      go_upto_region 7 with fail
      generalize (wr.alloc _).alloc _ = w1 at *
      have c0 := HB.out.1.cell (j := 0) rfl; have c1 := HB.out.1.cell (j := 1) rfl; have c2 := HB.out.1.cell (j := 2) rfl; have c3 := HB.out.1.cell (j := 3) rfl; have c4 := HB.out.1.cell (j := 4) rfl; have k0 := HB.out.2.1.cell (j := 0) rfl; have k1 := HB.out.2.1.cell (j := 1) rfl; have k2 := HB.out.2.1.cell (j := 2) rfl; have k3 := HB.out.2.1.cell (j := 3) rfl; have k4 := HB.out.2.1.cell (j := 4) rfl
      go_wp2_with (go_at_call 95; refine (HE.out _).mono ?_; rintro e w2 ⟨rfl, hb2⟩)
      go_roundg 0
      case measure => omega
      case rel => exact .inr ⟨rfl, by go_num, Lib.hid (bTrans HB.out.2.2 hb2)⟩
    · go_wp2_with fail
      go_ret
      exact ⟨rfl, HBx.out⟩
set_option maxHeartbeats 2000000 in
theorem listeqEntry_any (A d : ByteArray) (b : Bool) (t : Int) (a1 a2 : Option Addr) (c1 c2 B1 B2 : Nat) (w : World) (h1 : RowG 176 5 w B1 a1 c1 [[.string A, .bool b, .string d, .int .i64 t, .slice none 0 0]]) (h2 : RowG 176 5 w B2 a2 c2 [[.string A, .bool b, .string d, .int .i64 t, .slice none 0 0]]) :
    Calls Tryz.prog 47 #[.slice a1 1 c1, .slice a2 1 c2] w fun e w' => e = .returned (.bool true) ∧ Below w.heap.size w w' := by
  have HE := Lib.hid (equalEntry_any A d b t a1 a2 c1 c2 B1 B2 w h1 h2)
  clear h1 h2
  go_enter Tryz.func47, Tryz.ntmps47
  go_wp2_with (go_at_call 94; refine HE.out.mono ?_; rintro e w2 ⟨rfl, hb2⟩)
  go_ret
  exact ⟨rfl, hb2⟩
theorem infoAsState (v : Value) (w : World) : (Instr.typeAssert (.iface 42 v) 20 111 true).run Tryz.prog w = .ok (.tuple #[.agg #[.int .i64 0, .int .i64 0, .slice none 0 0, .slice none 0 0], .bool false]) w := by kernel_rfl
theorem infoAsMarks (v : Value) (w : World) : (Instr.typeAssert (.iface 42 v) 20 109 true).run Tryz.prog w = .ok (.tuple #[.slice none 0 0, .bool false]) w := by kernel_rfl
theorem infoAsChanges (v : Value) (w : World) : (Instr.typeAssert (.iface 42 v) 20 116 true).run Tryz.prog w = .ok (.tuple #[.slice none 0 0, .bool false]) w := by kernel_rfl
theorem infoAsEntries (v : Value) (w : World) : (Instr.typeAssert (.iface 42 v) 20 56 true).run Tryz.prog w = .ok (.tuple #[.slice none 0 0, .bool false]) w := by kernel_rfl
theorem infoAsUploads (v : Value) (w : World) : (Instr.typeAssert (.iface 42 v) 20 58 true).run Tryz.prog w = .ok (.tuple #[.slice none 0 0, .bool false]) w := by kernel_rfl
theorem infoAsDeal (v : Value) (w : World) : (Instr.typeAssert (.iface 42 v) 20 126 true).run Tryz.prog w = .ok (.tuple #[.agg #[.slice none 0 0, .slice none 0 0, .slice none 0 0, .slice none 0 0], .bool false]) w := by kernel_rfl
theorem infoAsReport (v : Value) (w : World) : (Instr.typeAssert (.iface 42 v) 20 131 true).run Tryz.prog w = .ok (.tuple #[.agg #[.slice none 0 0, .slice none 0 0, .int .i64 0, .int .i64 0, .int .i64 0], .bool false]) w := by kernel_rfl
theorem infoAsSelf (v : Value) (w : World) : (Instr.typeAssert (.iface 42 v) 20 42 true).run Tryz.prog w = .ok (.tuple #[v, .bool true]) w := by kernel_rfl
theorem entsAsState (v : Value) (w : World) : (Instr.typeAssert (.iface 56 v) 20 111 true).run Tryz.prog w = .ok (.tuple #[.agg #[.int .i64 0, .int .i64 0, .slice none 0 0, .slice none 0 0], .bool false]) w := by kernel_rfl
theorem entsAsMarks (v : Value) (w : World) : (Instr.typeAssert (.iface 56 v) 20 109 true).run Tryz.prog w = .ok (.tuple #[.slice none 0 0, .bool false]) w := by kernel_rfl
theorem entsAsChanges (v : Value) (w : World) : (Instr.typeAssert (.iface 56 v) 20 116 true).run Tryz.prog w = .ok (.tuple #[.slice none 0 0, .bool false]) w := by kernel_rfl
theorem entsAsSelf (v : Value) (w : World) : (Instr.typeAssert (.iface 56 v) 20 56 true).run Tryz.prog w = .ok (.tuple #[v, .bool true]) w := by kernel_rfl
set_option maxHeartbeats 4000000 in
set_option maxRecDepth 100000 in
theorem alikeInfo_any (A id : ByteArray) (d : Bool) (n t : Int) (rows : List (List Value)) (N : Nat) (sa1 sa2 : Option Addr) (sc1 sc2 B1 B2 : Nat) (w : World) (h1 : RowG 256 2 w B1 sa1 sc1 rows) (h2 : RowG 256 2 w B2 sa2 sc2 rows) (hr : SumsR rows) (hn : rows.length = N) (hN : N ≤ 100) :
    Calls Tryz.prog 17 #[.iface 42 (.agg #[.string A, .bool d, .int .i64 n, .int .i64 t, .slice sa1 N sc1, .slice none 0 0, .string id]), .iface 42 (.agg #[.string A, .bool d, .int .i64 n, .int .i64 t, .slice sa2 N sc2, .slice none 0 0, .string id])] w fun e w' => e = .returned (.bool true) ∧ Below w.heap.size w w' := by
  have HK := Lib.hid (fun W (hb : Below w.heap.size w W) => eqInfo_any A id d n t rows N sa1 sa2 sc1 sc2 B1 B2 W (h1.kp (Kp.of (F := fun _ => False) hb) (fun _ _ e => e)) (h2.kp (Kp.of (F := fun _ => False) hb) (fun _ _ e => e)) hr hn hN)
  have HB := Lib.hid (box_two w #[.string A, .bool d, .int .i64 n, .int .i64 t, .slice sa1 N sc1, .slice none 0 0, .string id] #[.string A, .bool d, .int .i64 n, .int .i64 t, .slice sa2 N sc2, .slice none 0 0, .string id] 42)
  have has0 := @infoAsState
  have has1 := @infoAsMarks
  have has2 := @infoAsChanges
  have has3 := @infoAsEntries
  have has4 := @infoAsUploads
  have has5 := @infoAsDeal
  have has6 := @infoAsReport
  have hasS := @infoAsSelf
  clear h1 h2 hr hn
  go_enter Tryz.func17, Tryz.ntmps17
  go_upto_region 33 with fail
  generalize (w.alloc _).alloc _ = w1 at *
  have c0 := HB.out.1.cell (j := 0) rfl; have c1 := HB.out.1.cell (j := 1) rfl; have c2 := HB.out.1.cell (j := 2) rfl; have c3 := HB.out.1.cell (j := 3) rfl; have c4 := HB.out.1.cell (j := 4) rfl; have c5 := HB.out.1.cell (j := 5) rfl; have c6 := HB.out.1.cell (j := 6) rfl; have k0 := HB.out.2.1.cell (j := 0) rfl; have k1 := HB.out.2.1.cell (j := 1) rfl; have k2 := HB.out.2.1.cell (j := 2) rfl; have k3 := HB.out.2.1.cell (j := 3) rfl; have k4 := HB.out.2.1.cell (j := 4) rfl; have k5 := HB.out.2.1.cell (j := 5) rfl; have k6 := HB.out.2.1.cell (j := 6) rfl
  go_wp2_with (go_at_call 51; refine (HK.out _ HB.out.2.2).mono ?_; rintro e w2 ⟨rfl, hb2⟩)
  go_ret
  exact ⟨rfl, bTrans HB.out.2.2 hb2⟩
set_option maxHeartbeats 4000000 in
set_option maxRecDepth 100000 in
theorem alikeEntries_any (A d : ByteArray) (b : Bool) (t : Int) (a1 a2 : Option Addr) (c1 c2 B1 B2 : Nat) (w : World) (h1 : RowG 176 5 w B1 a1 c1 [[.string A, .bool b, .string d, .int .i64 t, .slice none 0 0]]) (h2 : RowG 176 5 w B2 a2 c2 [[.string A, .bool b, .string d, .int .i64 t, .slice none 0 0]]) :
    Calls Tryz.prog 17 #[.iface 56 (.slice a1 1 c1), .iface 56 (.slice a2 1 c2)] w fun e w' => e = .returned (.bool true) ∧ Below w.heap.size w w' := by
  have HK := Lib.hid (listeqEntry_any A d b t a1 a2 c1 c2 B1 B2 w h1 h2)
  have has0 := @entsAsState
  have has1 := @entsAsMarks
  have has2 := @entsAsChanges
  have hasS := @entsAsSelf
  clear h1 h2
  go_enter Tryz.func17, Tryz.ntmps17
  go_wp2_with (go_at_call 47; refine HK.out.mono ?_; rintro e w2 ⟨rfl, hb2⟩)
  go_ret
  exact ⟨rfl, hb2⟩
end Go.Proofs.YtmafnjapailliaaGreatDoor
