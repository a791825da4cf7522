/-
  A store in memory of which one path is asked: info.
-/
import Derived.Test.YtmafnjapailliaaGreatDoorMe4
import Derived.Test.YtmafnjapailliaaGreatDoorSm4
namespace Go.Proofs.YtmafnjapailliaaGreatDoor
open Go.RowKit Wh.Sha

theorem MemAt.drew {w : World} {B : Nat} {A : ByteArray} {M : MB} {s : MSt} (h : MemAt w B A M s) : MemAt w.drew B A M s := h.kp ((Kp.refl (fun _ => False) w).drew 1) (fun _ _ e => e)
abbrev infoArr (A : ByteArray) (dir : Bool) (size time : Int) (sums : Value) (id : ByteArray) : Array Value := #[.string A, .bool dir, .int .i64 size, .int .i64 time, sums, .slice none 0 0, .string id]

theorem below_drewn {z : Nat} {w w' : World} (h : Below z w w') : Below z w w'.drew := ⟨h.os, h.tape, h.output, h.size, h.block⟩
/-- What info reads. -/
structure IS (A : ByteArray) (M : MB) (s : MSt) (c : FileSt) (W : World) : Prop where
  b0 : W.cell? ⟨M.b, 0, none⟩ = some (.int .i64 s.f.has)
  b1 : W.cell? ⟨M.b, 1, none⟩ = some (.int .i64 s.f.sums)
  n0 : W.cell? ⟨M.nb, 0, none⟩ = some (.string A)
  n1 : W.cell? ⟨M.nb, 1, none⟩ = some (.bool false)
  n2 : W.cell? ⟨M.nb, 2, none⟩ = some (ptr M.rb)
  n4 : W.cell? ⟨M.nb, 4, none⟩ = some (.string c.data)
  n5 : W.cell? ⟨M.nb, 5, none⟩ = some (.int .i64 c.time)
  n6 : W.cell? ⟨M.nb, 6, none⟩ = some (.slice none 0 0)
  n7 : W.cell? ⟨M.nb, 7, none⟩ = some (.string c.id)
  r2 : W.cell? ⟨M.rb, 2, none⟩ = some (.pointer none)
  lb : M.b < W.heap.size
  ln : M.nb < W.heap.size
  lr : M.rb < W.heap.size
theorem IS.below {A : ByteArray} {M : MB} {s : MSt} {c : FileSt} {z : Nat} {w w' : World} (h : IS A M s c w) (hb : Below z w w') (hz : w.heap.size ≤ z ∨ (M.b < z ∧ M.nb < z ∧ M.rb < z)) : IS A M s c w' := by
  have q1 : M.b < z := by rcases hz with hz | hz; have := h.lb; omega; exact hz.1
  have q2 : M.nb < z := by rcases hz with hz | hz; have := h.ln; omega; exact hz.2.1
  have q3 : M.rb < z := by rcases hz with hz | hz; have := h.lr; omega; exact hz.2.2
  have q4 := hb.size
  exact ⟨(hb.cell (p := ⟨M.b, 0, none⟩) q1).trans h.b0, (hb.cell (p := ⟨M.b, 1, none⟩) q1).trans h.b1, (hb.cell (p := ⟨M.nb, 0, none⟩) q2).trans h.n0, (hb.cell (p := ⟨M.nb, 1, none⟩) q2).trans h.n1, (hb.cell (p := ⟨M.nb, 2, none⟩) q2).trans h.n2, (hb.cell (p := ⟨M.nb, 4, none⟩) q2).trans h.n4, (hb.cell (p := ⟨M.nb, 5, none⟩) q2).trans h.n5, (hb.cell (p := ⟨M.nb, 6, none⟩) q2).trans h.n6, (hb.cell (p := ⟨M.nb, 7, none⟩) q2).trans h.n7, (hb.cell (p := ⟨M.rb, 2, none⟩) q3).trans h.r2, by have := h.lb; omega, by have := h.ln; omega, by have := h.lr; omega⟩
theorem MemAt.is {w : World} {B : Nat} {A : ByteArray} {M : MB} {s : MSt} {c : FileSt} (h : MemAt w B A M s) (hc : s.cur = some c) : IS A M s c w :=
  ⟨h.has, h.box.cell (j := 1) rfl, (h.file c hc).cell (j := 0) rfl, (h.file c hc).cell (j := 1) rfl, (h.file c hc).cell (j := 2) rfl, (h.file c hc).cell (j := 4) rfl, (h.file c hc).cell (j := 5) rfl, (h.file c hc).cell (j := 6) rfl, (h.file c hc).cell (j := 7) rfl, h.rup, h.box.lt, (h.file c hc).lt, h.root.lt⟩

theorem kinds_any (w : World) : Calls Tryz.prog 125 #[] w fun e w' => e = .returned (.slice (some ⟨w.heap.size, 0, none⟩) 5 5) ∧ w' = w.alloc (.cells #[.int .i64 1, .int .i64 2, .int .i64 3, .int .i64 4, .int .i64 5] 3) := by
  go_enter Tryz.func125, Tryz.ntmps125
  go_wp2_with fail
  go_ret
  exact ⟨rfl, rfl⟩

theorem info_cells {w : World} {b : Nat} {A id : ByteArray} {d : Bool} {n t : Int} {v : Value} (h : BoxIs w b (infoArr A d n t v id) 42) : w.cell? ⟨b, 0, none⟩ = some (.string A) ∧ w.cell? ⟨b, 1, none⟩ = some (.bool d) ∧ w.cell? ⟨b, 2, none⟩ = some (.int .i64 n) ∧ w.cell? ⟨b, 3, none⟩ = some (.int .i64 t) ∧ w.cell? ⟨b, 4, none⟩ = some v ∧ w.cell? ⟨b, 5, none⟩ = some (.slice none 0 0) ∧ w.cell? ⟨b, 6, none⟩ = some (.string id) :=
  ⟨h.cell (j := 0) rfl, h.cell (j := 1) rfl, h.cell (j := 2) rfl, h.cell (j := 3) rfl, h.cell (j := 4) rfl, h.cell (j := 5) rfl, h.cell (j := 6) rfl⟩
theorem info_room {w : World} {b : Nat} {A id : ByteArray} {d : Bool} {n t : Int} {v : Value} (h : BoxIs w b (infoArr A d n t v id) 42) : (w.cell? ⟨b, 0, none⟩ = some (.string A) ∧ w.cell? ⟨b, 1, none⟩ = some (.bool d) ∧ w.cell? ⟨b, 2, none⟩ = some (.int .i64 n) ∧ w.cell? ⟨b, 3, none⟩ = some (.int .i64 t) ∧ w.cell? ⟨b, 4, none⟩ = some v ∧ w.cell? ⟨b, 5, none⟩ = some (.slice none 0 0) ∧ w.cell? ⟨b, 6, none⟩ = some (.string id)) ∧
    w.frozen? ⟨b, 0, none⟩ = false ∧ w.frozen? ⟨b, 1, none⟩ = false ∧ w.frozen? ⟨b, 2, none⟩ = false ∧ w.frozen? ⟨b, 3, none⟩ = false ∧ w.frozen? ⟨b, 4, none⟩ = false ∧ w.frozen? ⟨b, 5, none⟩ = false ∧ w.frozen? ⟨b, 6, none⟩ = false :=
  ⟨info_cells h, Lib.frozen_of_heap h 0, Lib.frozen_of_heap h 1, Lib.frozen_of_heap h 2, Lib.frozen_of_heap h 3, Lib.frozen_of_heap h 4, Lib.frozen_of_heap h 5, Lib.frozen_of_heap h 6⟩
theorem Gr.notab {w0 : World} {T : Tabs} (h : Gr w0 T) : ∀ i, w0.heap.size ≤ i → NoTab i := fun i hi => by
  have h1 := h.tabs.a.lt
  have h2 := h.tabs.b.lt
  have h3 := h.tabs.c.lt
  exact ⟨by omega, by omega, by omega⟩
theorem Gr.tabsAt {w0 w : World} {T : Tabs} (h : Gr w0 T) (hb : Below w0.heap.size w0 w) : TabsAt w T := h.tabs.kp (Kp.of (F := fun _ => False) hb) (fun _ e => e.elim)
theorem infoSum : (Tryz.prog.info? 256).map (fun i => (i.zero, i.size, i.bytes)) = some (some (.agg #[.int .i64 0, .string ByteArray.empty]), 2, 24) := by kernel_rfl

/-- Whether a kind of sums is told. -/
def sumBit (f : Int) (k : Nat) : Bool := bits BinOp.and IntKind.i64 (f / 2 ^ k) 1 == 1
def sumRow (T : Tabs) (k : Nat) (d : List UInt8) : List Value := [.int .i64 k, .string ⟨(sumOf T k d).toArray⟩]
/-- The sums that are told. -/
def sumRows (T : Tabs) (f : Int) (d : List UInt8) (i : Nat) : List (List Value) := (List.range i).filterMap fun j => if sumBit f (j + 1) then some (sumRow T (j + 1) d) else none
theorem sumRows_yes {T : Tabs} {f : Int} {d : List UInt8} {i : Nat} (h : (bits BinOp.and IntKind.i64 (f / 2 ^ (i + 1)) 1 == 1) = true) : sumRows T f d (i + 1) = sumRows T f d i ++ [sumRow T (i + 1) d] := by
  unfold sumRows
  rw [List.range_succ, List.filterMap_append]
  have h2 : sumBit f (i + 1) = true := h
  simp [h2]
theorem sumRows_no {T : Tabs} {f : Int} {d : List UInt8} {i : Nat} (h : (bits BinOp.and IntKind.i64 (f / 2 ^ (i + 1)) 1 == 1) = false) : sumRows T f d (i + 1) = sumRows T f d i := by
  unfold sumRows
  rw [List.range_succ, List.filterMap_append]
  have h2 : sumBit f (i + 1) = false := h
  simp [h2]
/-- What info returns. -/
def InfoPost (T : Tabs) (A : ByteArray) (s : MSt) (c : FileSt) (w : World) (e : Ending) (w' : World) : Prop :=
  ∃ sa n sc, e = .returned (.agg (infoArr A false c.data.size c.time (.slice sa n sc) (if hasB s.f 512 then c.id else ⟨#[]⟩))) ∧ (sumRows T s.f.sums c.data.data.toList 5).length = n ∧ RowG 256 2 w' w.heap.size sa sc (sumRows T s.f.sums c.data.data.toList 5) ∧ Below w.heap.size w w'

set_option maxHeartbeats 4000000 in
set_option maxRecDepth 100000 in
theorem info_any (w0 : World) (T : Tabs) (A : ByteArray) (M : MB) (s : MSt) (c : FileSt) (w : World) (hG : Gr w0 T) (hb0 : Below w0.heap.size w0 w) (hM : MemAt w w0.heap.size A M s) (hc : s.cur = some c) (hsz : c.data.size ≤ 1048576) :
    Calls Tryz.prog 85 #[ptr M.b, ptr M.nb] w (InfoPost T A s c w) := by
  have HI0 := Lib.hid (hM.is hc)
  have HCl := Lib.hid cloneM_nil
  have HKi := Lib.hid kinds_any
  have HIS := Lib.hid (fun W (hW : Below w.heap.size w W) => (hM.is hc).below hW (.inl (Nat.le_refl _)))
  have HH := Lib.hid (fun W (hW : Below w.heap.size w W) => has_any M.b s.f 512 W ((hM.is hc).below hW (.inl (Nat.le_refl _))).b0)
  clear hM
  go_enter Tryz.func85, Tryz.ntmps85
  go_upto_region 1 with fail
  have hb1 : Below w.heap.size w (w.alloc (.cells (infoArr ⟨#[]⟩ false 0 0 (.slice none 0 0) ⟨#[]⟩) 42)) := bAlloc (Below.refl _ _) _
  have hx1 : BoxIs (w.alloc (.cells (infoArr ⟨#[]⟩ false 0 0 (.slice none 0 0) ⟨#[]⟩) 42)) w.heap.size (infoArr ⟨#[]⟩ false 0 0 (.slice none 0 0) ⟨#[]⟩) 42 := heap_alloc_new _ _
  obtain ⟨rz, hrz⟩ : ∃ rz, rz = w.heap.size := ⟨_, rfl⟩
  rw [← hrz] at hx1 ⊢
  have HRZ := Lib.hid hrz
  have HX1 := Lib.hid hx1
  have hb1d : Below w.heap.size w (w.alloc (.cells (infoArr ⟨#[]⟩ false 0 0 (.slice none 0 0) ⟨#[]⟩) 42)).drew := below_drewn hb1
  clear hrz hx1
  generalize w.alloc _ = w1 at *
  --R1
  refine wp_region_seqQ (Below w.heap.size w) 1000 [(0, true), (1, true), (2, true), (3, true), (4, true), (5, true), (6, true), (7, false), (8, false)] (by as_aux_lemma => kernel_rfl) (by as_aux_lemma => kernel_rfl) (by as_aux_lemma => kernel_rfl) (by decide) (by as_aux_lemma => kernel_rfl) (by decide) hb1d ?_
  intro OPS HO
  refine seqQ_take (o := ⟨_, _, _, _, _, _⟩) (v := ?_) (by rw [HO.out]; rfl) (by rfl) ?_ ?_
  rotate_left 1
  · first | ((intro W _; go_simp) <;> with_reducible rfl) | (intro W hW; have hI := HIS.out _ hW; have k1 := hI.n1; have k2 := hI.n4; have k3 := hI.n5; have k4 := hI.n6; clear hI hW; (go_simp <;> with_reducible rfl))
  try simp only [Act.put, List.setIfInBounds_toArray, List.set_cons_zero, List.set_cons_succ]
  refine seqQ_quiet (o := ⟨_, _, _, _, _, _⟩) (by rw [HO.out]; rfl) (by rfl) 65 _ (fun W hW => ?_) _ (fun W hW => path_any M.nb M.rb A W (HIS.out _ hW).n0 (HIS.out _ hW).n2 (HIS.out _ hW).r2) ?_
  · have hI := HIS.out _ hW; have k1 := hI.n1; have k2 := hI.n4; have k3 := hI.n5; have k4 := hI.n6; clear hI hW; (go_simp <;> with_reducible rfl)
  try simp only [Act.put, List.setIfInBounds_toArray, List.set_cons_zero, List.set_cons_succ]
  refine seqQ_take (o := ⟨_, _, _, _, _, _⟩) (v := ?_) (by rw [HO.out]; rfl) (by rfl) ?_ ?_
  rotate_left 1
  · first | ((intro W _; go_simp) <;> with_reducible rfl) | (intro W hW; have hI := HIS.out _ hW; have k1 := hI.n1; have k2 := hI.n4; have k3 := hI.n5; have k4 := hI.n6; clear hI hW; (go_simp <;> with_reducible rfl))
  try simp only [Act.put, List.setIfInBounds_toArray, List.set_cons_zero, List.set_cons_succ]
  refine seqQ_take (o := ⟨_, _, _, _, _, _⟩) (v := ?_) (by rw [HO.out]; rfl) (by rfl) ?_ ?_
  rotate_left 1
  · first | ((intro W _; go_simp) <;> with_reducible rfl) | (intro W hW; have hI := HIS.out _ hW; have k1 := hI.n1; have k2 := hI.n4; have k3 := hI.n5; have k4 := hI.n6; clear hI hW; (go_simp <;> with_reducible rfl))
  try simp only [Act.put, List.setIfInBounds_toArray, List.set_cons_zero, List.set_cons_succ]
  refine seqQ_take (o := ⟨_, _, _, _, _, _⟩) (v := ?_) (by rw [HO.out]; rfl) (by rfl) ?_ ?_
  rotate_left 1
  · first | ((intro W _; go_simp) <;> with_reducible rfl) | (intro W hW; have hI := HIS.out _ hW; have k1 := hI.n1; have k2 := hI.n4; have k3 := hI.n5; have k4 := hI.n6; clear hI hW; (go_simp <;> with_reducible rfl))
  try simp only [Act.put, List.setIfInBounds_toArray, List.set_cons_zero, List.set_cons_succ]
  refine seqQ_take (o := ⟨_, _, _, _, _, _⟩) (v := ?_) (by rw [HO.out]; rfl) (by rfl) ?_ ?_
  rotate_left 1
  · first | ((intro W _; go_simp) <;> with_reducible rfl) | (intro W hW; have hI := HIS.out _ hW; have k1 := hI.n1; have k2 := hI.n4; have k3 := hI.n5; have k4 := hI.n6; clear hI hW; (go_simp <;> with_reducible rfl))
  try simp only [Act.put, List.setIfInBounds_toArray, List.set_cons_zero, List.set_cons_succ]
  refine seqQ_take (o := ⟨_, _, _, _, _, _⟩) (v := ?_) (by rw [HO.out]; rfl) (by rfl) ?_ ?_
  rotate_left 1
  · first | ((intro W _; go_simp) <;> with_reducible rfl) | (intro W hW; have hI := HIS.out _ hW; have k1 := hI.n1; have k2 := hI.n4; have k3 := hI.n5; have k4 := hI.n6; clear hI hW; (go_simp <;> with_reducible rfl))
  try simp only [Act.put, List.setIfInBounds_toArray, List.set_cons_zero, List.set_cons_succ]
  refine seqQ_do (o := ⟨_, _, _, _, _, _⟩) (by rw [HO.out]; rfl) (by rfl) (fun K hK => ?_)
  go_wp2_with fail
  have hS : Below w.heap.size w ((w1.alloc (.cells (infoArr ⟨#[]⟩ false 0 0 (.slice none 0 0) ⟨#[]⟩) 42)).drew) := below_drewn (bTrans hb1 (bAlloc (Below.refl _ _) _))
  refine hK.out _ _ (fun _ => hS) ?_
  clear hK K
  try simp only [Act.put, List.setIfInBounds_toArray, List.set_cons_zero, List.set_cons_succ]
  refine seqQ_do (o := ⟨_, _, _, _, _, _⟩) (by rw [HO.out]; rfl) (by rfl) (fun K hK => ?_)
  go_wp2_with fail
  replace hS : Below w.heap.size w ((w1.alloc (.cells (infoArr A false 0 0 (.slice none 0 0) ⟨#[]⟩) 42)).drew) := below_drewn (bTrans hb1 (bAlloc (Below.refl _ _) _))
  refine hK.out _ _ (fun _ => hS) ?_
  clear hK K
  try simp only [Act.put, List.setIfInBounds_toArray, List.set_cons_zero, List.set_cons_succ]
  refine seqQ_done ?_
  --ENDR1
  have hx2 : BoxIs (w1.alloc (.cells (infoArr A false 0 0 (.slice none 0 0) ⟨#[]⟩) 42)).drew w1.heap.size (infoArr A false 0 0 (.slice none 0 0) ⟨#[]⟩) 42 := heap_alloc_new w1 _
  obtain ⟨xz, hxz⟩ : ∃ xz, xz = w1.heap.size := ⟨_, rfl⟩
  rw [← hxz] at hx2 ⊢
  have hlz : w.heap.size ≤ xz := by rw [hxz]; exact hb1.size
  have HX1b : Hid (BoxIs (w1.alloc (.cells (infoArr A false 0 0 (.slice none 0 0) ⟨#[]⟩) 42)).drew rz (infoArr ⟨#[]⟩ false 0 0 (.slice none 0 0) ⟨#[]⟩) 42) := Lib.hid (HX1.out.under (below_drewn (bAlloc (Below.refl _ _) _)))
  have hrx : rz ≠ xz := by have := HX1.out.lt; omega
  clear HX1 hxz hb1 hb1d
  have HX2 := Lib.hid hx2
  clear hx2
  generalize (w1.alloc _).drew = w2 at *
  have k1 := (HIS.out _ hS).n1
  go_upto_region 4 with fail
  have hSd : Below w.heap.size w w2.drew := below_drewn hS
  have x2 : w2.cell? ⟨xz, 2, none⟩ = some (.int .i64 0) := HX2.out.cell (j := 2) rfl
  have x3 : w2.cell? ⟨xz, 3, none⟩ = some (.int .i64 0) := HX2.out.cell (j := 3) rfl
  have x5 : w2.cell? ⟨xz, 5, none⟩ = some (.slice none 0 0) := HX2.out.cell (j := 5) rfl
  have g2 : w2.frozen? ⟨xz, 2, none⟩ = false := Lib.frozen_of_heap HX2.out 2
  have g3 : w2.frozen? ⟨xz, 3, none⟩ = false := Lib.frozen_of_heap HX2.out 3
  have g5 : w2.frozen? ⟨xz, 5, none⟩ = false := Lib.frozen_of_heap HX2.out 5
  have hS0 := hS
  clear k1 hS
  --R4
  refine wp_region_seqQ (Below w.heap.size w) 1000 [(0, true), (1, true), (2, true), (3, true), (4, true), (5, true), (6, true), (7, true), (8, true), (9, true), (10, true), (11, true), (12, true), (13, true), (14, true), (15, false), (16, true), (17, false), (18, true), (19, false)] (by as_aux_lemma => kernel_rfl) (by as_aux_lemma => kernel_rfl) (by as_aux_lemma => kernel_rfl) (by decide) (by as_aux_lemma => kernel_rfl) (by decide) hSd ?_
  intro OPS HO
  refine seqQ_take (o := ⟨_, _, _, _, _, _⟩) (v := ?_) (by rw [HO.out]; rfl) (by rfl) ?_ ?_
  rotate_left 1
  · first | ((intro W _; go_simp) <;> with_reducible rfl) | (intro W hW; have hI := HIS.out _ hW; have k1 := hI.n1; have k2 := hI.n4; have k3 := hI.n5; have k4 := hI.n6; clear hI hW; (go_simp <;> with_reducible rfl))
  try simp only [Act.put, List.setIfInBounds_toArray, List.set_cons_zero, List.set_cons_succ]
  refine seqQ_take (o := ⟨_, _, _, _, _, _⟩) (v := ?_) (by rw [HO.out]; rfl) (by rfl) ?_ ?_
  rotate_left 1
  · first | ((intro W _; go_simp) <;> with_reducible rfl) | (intro W hW; have hI := HIS.out _ hW; have k1 := hI.n1; have k2 := hI.n4; have k3 := hI.n5; have k4 := hI.n6; clear hI hW; (go_simp <;> with_reducible rfl))
  try simp only [Act.put, List.setIfInBounds_toArray, List.set_cons_zero, List.set_cons_succ]
  refine seqQ_take (o := ⟨_, _, _, _, _, _⟩) (v := ?_) (by rw [HO.out]; rfl) (by rfl) ?_ ?_
  rotate_left 1
  · first | ((intro W _; go_simp) <;> with_reducible rfl) | (intro W hW; have hI := HIS.out _ hW; have k1 := hI.n1; have k2 := hI.n4; have k3 := hI.n5; have k4 := hI.n6; clear hI hW; (go_simp <;> with_reducible rfl))
  try simp only [Act.put, List.setIfInBounds_toArray, List.set_cons_zero, List.set_cons_succ]
  refine seqQ_take (o := ⟨_, _, _, _, _, _⟩) (v := ?_) (by rw [HO.out]; rfl) (by rfl) ?_ ?_
  rotate_left 1
  · first | ((intro W _; go_simp) <;> with_reducible rfl) | (intro W hW; have hI := HIS.out _ hW; have k1 := hI.n1; have k2 := hI.n4; have k3 := hI.n5; have k4 := hI.n6; clear hI hW; (go_simp <;> with_reducible rfl))
  try simp only [Act.put, List.setIfInBounds_toArray, List.set_cons_zero, List.set_cons_succ]
  refine seqQ_take (o := ⟨_, _, _, _, _, _⟩) (v := ?_) (by rw [HO.out]; rfl) (by rfl) ?_ ?_
  rotate_left 1
  · first | ((intro W _; go_simp) <;> with_reducible rfl) | (intro W hW; have hI := HIS.out _ hW; have k1 := hI.n1; have k2 := hI.n4; have k3 := hI.n5; have k4 := hI.n6; clear hI hW; (go_simp <;> with_reducible rfl))
  try simp only [Act.put, List.setIfInBounds_toArray, List.set_cons_zero, List.set_cons_succ]
  refine seqQ_take (o := ⟨_, _, _, _, _, _⟩) (v := ?_) (by rw [HO.out]; rfl) (by rfl) ?_ ?_
  rotate_left 1
  · first | ((intro W _; go_simp) <;> with_reducible rfl) | (intro W hW; have hI := HIS.out _ hW; have k1 := hI.n1; have k2 := hI.n4; have k3 := hI.n5; have k4 := hI.n6; clear hI hW; (go_simp <;> with_reducible rfl))
  try simp only [Act.put, List.setIfInBounds_toArray, List.set_cons_zero, List.set_cons_succ]
  refine seqQ_take (o := ⟨_, _, _, _, _, _⟩) (v := ?_) (by rw [HO.out]; rfl) (by rfl) ?_ ?_
  rotate_left 1
  · first | ((intro W _; go_simp) <;> with_reducible rfl) | (intro W hW; have hI := HIS.out _ hW; have k1 := hI.n1; have k2 := hI.n4; have k3 := hI.n5; have k4 := hI.n6; clear hI hW; (go_simp <;> with_reducible rfl))
  try simp only [Act.put, List.setIfInBounds_toArray, List.set_cons_zero, List.set_cons_succ]
  refine seqQ_take (o := ⟨_, _, _, _, _, _⟩) (v := ?_) (by rw [HO.out]; rfl) (by rfl) ?_ ?_
  rotate_left 1
  · first | ((intro W _; go_simp) <;> with_reducible rfl) | (intro W hW; have hI := HIS.out _ hW; have k1 := hI.n1; have k2 := hI.n4; have k3 := hI.n5; have k4 := hI.n6; clear hI hW; (go_simp <;> with_reducible rfl))
  try simp only [Act.put, List.setIfInBounds_toArray, List.set_cons_zero, List.set_cons_succ]
  refine seqQ_take (o := ⟨_, _, _, _, _, _⟩) (v := ?_) (by rw [HO.out]; rfl) (by rfl) ?_ ?_
  rotate_left 1
  · first | ((intro W _; go_simp) <;> with_reducible rfl) | (intro W hW; have hI := HIS.out _ hW; have k1 := hI.n1; have k2 := hI.n4; have k3 := hI.n5; have k4 := hI.n6; clear hI hW; (go_simp <;> with_reducible rfl))
  try simp only [Act.put, List.setIfInBounds_toArray, List.set_cons_zero, List.set_cons_succ]
  refine seqQ_take (o := ⟨_, _, _, _, _, _⟩) (v := ?_) (by rw [HO.out]; rfl) (by rfl) ?_ ?_
  rotate_left 1
  · first | ((intro W _; go_simp) <;> with_reducible rfl) | (intro W hW; have hI := HIS.out _ hW; have k1 := hI.n1; have k2 := hI.n4; have k3 := hI.n5; have k4 := hI.n6; clear hI hW; (go_simp <;> with_reducible rfl))
  try simp only [Act.put, List.setIfInBounds_toArray, List.set_cons_zero, List.set_cons_succ]
  refine seqQ_take (o := ⟨_, _, _, _, _, _⟩) (v := ?_) (by rw [HO.out]; rfl) (by rfl) ?_ ?_
  rotate_left 1
  · first | ((intro W _; go_simp) <;> with_reducible rfl) | (intro W hW; have hI := HIS.out _ hW; have k1 := hI.n1; have k2 := hI.n4; have k3 := hI.n5; have k4 := hI.n6; clear hI hW; (go_simp <;> with_reducible rfl))
  try simp only [Act.put, List.setIfInBounds_toArray, List.set_cons_zero, List.set_cons_succ]
  refine seqQ_take (o := ⟨_, _, _, _, _, _⟩) (v := ?_) (by rw [HO.out]; rfl) (by rfl) ?_ ?_
  rotate_left 1
  · first | ((intro W _; go_simp) <;> with_reducible rfl) | (intro W hW; have hI := HIS.out _ hW; have k1 := hI.n1; have k2 := hI.n4; have k3 := hI.n5; have k4 := hI.n6; clear hI hW; (go_simp <;> with_reducible rfl))
  try simp only [Act.put, List.setIfInBounds_toArray, List.set_cons_zero, List.set_cons_succ]
  refine seqQ_take (o := ⟨_, _, _, _, _, _⟩) (v := ?_) (by rw [HO.out]; rfl) (by rfl) ?_ ?_
  rotate_left 1
  · first | ((intro W _; go_simp) <;> with_reducible rfl) | (intro W hW; have hI := HIS.out _ hW; have k1 := hI.n1; have k2 := hI.n4; have k3 := hI.n5; have k4 := hI.n6; clear hI hW; (go_simp <;> with_reducible rfl))
  try simp only [Act.put, List.setIfInBounds_toArray, List.set_cons_zero, List.set_cons_succ]
  refine seqQ_quiet (o := ⟨_, _, _, _, _, _⟩) (by rw [HO.out]; rfl) (by rfl) 40 _ (fun W hW => ?_) _ (fun W hW => cloneM_nil W) ?_
  · have hI := HIS.out _ hW; have k1 := hI.n1; have k2 := hI.n4; have k3 := hI.n5; have k4 := hI.n6; clear hI hW; (go_simp <;> with_reducible rfl)
  try simp only [Act.put, List.setIfInBounds_toArray, List.set_cons_zero, List.set_cons_succ]
  refine seqQ_take (o := ⟨_, _, _, _, _, _⟩) (v := ?_) (by rw [HO.out]; rfl) (by rfl) ?_ ?_
  rotate_left 1
  · first | ((intro W _; go_simp) <;> with_reducible rfl) | (intro W hW; have hI := HIS.out _ hW; have k1 := hI.n1; have k2 := hI.n4; have k3 := hI.n5; have k4 := hI.n6; clear hI hW; (go_simp <;> with_reducible rfl))
  try simp only [Act.put, List.setIfInBounds_toArray, List.set_cons_zero, List.set_cons_succ]
  refine seqQ_do (o := ⟨_, _, _, _, _, _⟩) (by rw [HO.out]; rfl) (by rfl) (fun K hK => ?_)
  go_wp2_with fail
  have hS : Below w.heap.size w (w2.setCell ⟨xz, 2, none⟩ (.int .i64 c.data.size)).drew := below_drewn (Below.setCell hS0 (p := ⟨xz, 2, none⟩) hlz _)
  refine hK.out _ _ (fun _ => hS) ?_
  clear hK K
  try simp only [Act.put, List.setIfInBounds_toArray, List.set_cons_zero, List.set_cons_succ]
  refine seqQ_take (o := ⟨_, _, _, _, _, _⟩) (v := ?_) (by rw [HO.out]; rfl) (by rfl) ?_ ?_
  rotate_left 1
  · first | ((intro W _; go_simp) <;> with_reducible rfl) | (intro W hW; have hI := HIS.out _ hW; have k1 := hI.n1; have k2 := hI.n4; have k3 := hI.n5; have k4 := hI.n6; clear hI hW; (go_simp <;> with_reducible rfl))
  try simp only [Act.put, List.setIfInBounds_toArray, List.set_cons_zero, List.set_cons_succ]
  refine seqQ_do (o := ⟨_, _, _, _, _, _⟩) (by rw [HO.out]; rfl) (by rfl) (fun K hK => ?_)
  go_wp2_with fail
  replace hS : Below w.heap.size w ((w2.setCell ⟨xz, 2, none⟩ (.int .i64 c.data.size)).setCell ⟨xz, 3, none⟩ (.int .i64 c.time)).drew := below_drewn (Below.setCell (Below.setCell hS0 (p := ⟨xz, 2, none⟩) hlz _) (p := ⟨xz, 3, none⟩) hlz _)
  refine hK.out _ _ (fun _ => hS) ?_
  clear hK K
  try simp only [Act.put, List.setIfInBounds_toArray, List.set_cons_zero, List.set_cons_succ]
  refine seqQ_take (o := ⟨_, _, _, _, _, _⟩) (v := ?_) (by rw [HO.out]; rfl) (by rfl) ?_ ?_
  rotate_left 1
  · first | ((intro W _; go_simp) <;> with_reducible rfl) | (intro W hW; have hI := HIS.out _ hW; have k1 := hI.n1; have k2 := hI.n4; have k3 := hI.n5; have k4 := hI.n6; clear hI hW; (go_simp <;> with_reducible rfl))
  try simp only [Act.put, List.setIfInBounds_toArray, List.set_cons_zero, List.set_cons_succ]
  refine seqQ_do (o := ⟨_, _, _, _, _, _⟩) (by rw [HO.out]; rfl) (by rfl) (fun K hK => ?_)
  go_wp2_with fail
  replace hS : Below w.heap.size w (((w2.setCell ⟨xz, 2, none⟩ (.int .i64 c.data.size)).setCell ⟨xz, 3, none⟩ (.int .i64 c.time)).setCell ⟨xz, 5, none⟩ (.slice none 0 0)).drew := below_drewn (Below.setCell (Below.setCell (Below.setCell hS0 (p := ⟨xz, 2, none⟩) hlz _) (p := ⟨xz, 3, none⟩) hlz _) (p := ⟨xz, 5, none⟩) hlz _)
  refine hK.out _ _ (fun _ => hS) ?_
  clear hK K
  try simp only [Act.put, List.setIfInBounds_toArray, List.set_cons_zero, List.set_cons_succ]
  refine seqQ_done ?_
  --ENDR4
  have HX4 : Hid (BoxIs (((w2.setCell ⟨xz, 2, none⟩ (.int .i64 c.data.size)).setCell ⟨xz, 3, none⟩ (.int .i64 c.time)).setCell ⟨xz, 5, none⟩ (.slice none 0 0)).drew xz (infoArr A false c.data.size c.time (.slice none 0 0) ⟨#[]⟩) 42) := Lib.hid (BoxIs.putAt (BoxIs.putAt (BoxIs.putAt HX2.out 2 (.int .i64 c.data.size)) 3 (.int .i64 c.time)) 5 (.slice none 0 0))
  have HZ4 : Hid (BoxIs (((w2.setCell ⟨xz, 2, none⟩ (.int .i64 c.data.size)).setCell ⟨xz, 3, none⟩ (.int .i64 c.time)).setCell ⟨xz, 5, none⟩ (.slice none 0 0)).drew rz (infoArr ⟨#[]⟩ false 0 0 (.slice none 0 0) ⟨#[]⟩) 42) := Lib.hid (HX1b.out.kp (F := fun i => i = xz) (((((Kp.refl (fun i => i = xz) w2).set (b := xz) (.inl rfl) 2 (.int .i64 c.data.size)).set (b := xz) (.inl rfl) 3 (.int .i64 c.time)).set (b := xz) (.inl rfl) 5 (.slice none 0 0)).drew 1) hrx)
  clear x2 x3 x5 g2 g3 g5 HX2 HX1b hS0 hSd
  generalize (World.setCell _ _ _).drew = w4 at *
  go_upto_region 6 with (go_at_call 125; refine (HKi.out _).mono ?_; rintro e w' ⟨rfl, rfl⟩)
  have HS5 := Lib.hid (bTrans hS (bAlloc (Below.refl w4.heap.size w4) (.cells #[.int .i64 1, .int .i64 2, .int .i64 3, .int .i64 4, .int .i64 5] 3)))
  have HX5 := Lib.hid (HX4.out.under (bAlloc (Below.refl w4.heap.size w4) (.cells #[.int .i64 1, .int .i64 2, .int .i64 3, .int .i64 4, .int .i64 5] 3)))
  have HZ5 := Lib.hid (HZ4.out.under (bAlloc (Below.refl w4.heap.size w4) (.cells #[.int .i64 1, .int .i64 2, .int .i64 3, .int .i64 4, .int .i64 5] 3)))
  have HK5 : Hid (BoxIs (w4.alloc (.cells #[.int .i64 1, .int .i64 2, .int .i64 3, .int .i64 4, .int .i64 5] 3)) w4.heap.size #[.int .i64 1, .int .i64 2, .int .i64 3, .int .i64 4, .int .i64 5] 3) := Lib.hid (heap_alloc_new _ _)
  obtain ⟨kz, hkz⟩ : ∃ kz, kz = w4.heap.size := ⟨_, rfl⟩
  rw [← hkz] at HK5 ⊢
  clear hS HX4 HZ4 hkz
  generalize w4.alloc _ = w5 at *
  go_loopg [41] 5 (fun gk s41 wx => ∃ (i : Nat) (rows : List (List Value)) (sa : Option Addr) (sc : Nat), i + gk = 5 ∧ s41 = .int .i64 i ∧ Hid (Below w.heap.size w wx) ∧ Hid (BoxIs wx xz (infoArr A false c.data.size c.time (.slice sa rows.length sc) ⟨#[]⟩) 42) ∧ Hid (RowG 256 2 wx w.heap.size sa sc rows) ∧ Hid (BoxIs wx kz #[.int .i64 1, .int .i64 2, .int .i64 3, .int .i64 4, .int .i64 5] 3) ∧ Hid (rows.length ≤ i) ∧ Hid (rows = sumRows T s.f.sums c.data.data.toList i) ∧ Hid (BoxIs wx rz (infoArr ⟨#[]⟩ false 0 0 (.slice none 0 0) ⟨#[]⟩) 42))
  case atStart => exact ⟨0, [], none, 0, by omega, rfl, HS5, HX5, Lib.hid (RowG.nil _ _ _ _), HK5, Lib.hid (Nat.le_refl _), Lib.hid rfl, HZ5⟩
  case round =>
    clear HS5 HX5 HZ5 HK5
    obtain ⟨i, rows, sa, sc, hi, rfl, HSx, HXx, HRx, HKx, HLx, HRo, HZx⟩ := hrel
    by_cases hlt : i < 5
    · obtain ⟨g, rfl⟩ : ∃ g, gk = g + 1 := ⟨gk - 1, by omega⟩
      obtain ⟨k, hk⟩ : ∃ k, k = i + 1 := ⟨_, rfl⟩
      have ck : wr.cell? ⟨kz, i, none⟩ = some (.int .i64 k) := HKx.out.cell (j := i) (by
        rw [hk]
        rcases (show i = 0 ∨ i = 1 ∨ i = 2 ∨ i = 3 ∨ i = 4 by omega) with rfl | rfl | rfl | rfl | rfl <;> rfl)
      have cs := (HIS.out _ HSx.out).b1
      have hi5 : (i : Int) < 5 := by omega
      have hk1 : 1 ≤ k ∧ k ≤ 5 := by omega
      have hk64 : (k : Int) < 64 := by omega
      have HKk := Lib.hid hk
      have hbr : Below w0.heap.size w0 wr := hb0.trans (Below.mono HSx.out hb0.size)
      have HOf := Lib.hid (of_any T k hk1 c.data wr (hG.tabsAt hbr) (fun j hj => hG.notab j (Nat.le_trans hbr.size hj)) hsz)
      obtain ⟨ss, hss⟩ : ∃ ss : ByteArray, ss = ⟨(sumOf T k c.data.data.toList).toArray⟩ := ⟨_, rfl⟩
      unfold OfPost at HOf
      rw [← hss] at HOf
      have HSS := Lib.hid hss
      have cn4 := (HIS.out _ HSx.out).n4
      obtain ⟨iv, hiv, hz0, hz1, hz2⟩ := info_parts infoSum
      have HI := Lib.hid (And.intro hiv (And.intro hz0 (And.intro hz1 hz2)))
      obtain ⟨rl, hrl⟩ : ∃ rl, rows.length = rl := ⟨_, rfl⟩
      have HRl := Lib.hid hrl
      rw [hrl] at HXx HLx
      have hrl6 : rl ≤ 5 := by have := HLx.out; omega
      clear hk hbr hss hiv hz0 hz1 hz2 hrl
      go_wp2_with (first
        | (go_at_call 135; refine HOf.out.mono ?_; rintro e w6 ⟨rfl, hb6⟩; have HX6 := Lib.hid (HXx.out.under hb6); have HR6 := Lib.hid (HRx.out.kp (Kp.of (F := fun _ => False) hb6) (fun _ _ e => e)); have HS6 := Lib.hid (bTrans HSx.out hb6); have HK6 := Lib.hid (HKx.out.under hb6); have HZ6 := Lib.hid (HZx.out.under hb6); have x4 : w6.cell? ⟨xz, 4, none⟩ = some (.slice sa rl sc) := HX6.out.cell (j := 4) rfl; clear hb6)
        | (at_builtin; refine wpList_appG HR6.out Tryz.underlying39 HI.out.1 HI.out.2.1 HI.out.2.2.1 HI.out.2.2.2 rfl (by decide) (by decide) [.int .i64 k, .string ss] rfl (by simp [Value.oneCell']) (by rw [HRl.out]; omega) HS6.out.size rfl (.tmp 64) (.tmp 68) rfl (by show Value.slice _ _ _ = Value.slice _ _ _; rw [HRl.out]) rfl (fun g7 cap7 w7 r1 r2 r3 => ?_); have HX7 := Lib.hid (HX6.out.kp r2 (HR6.out.ne HX6.out (by decide))); have y4 : w7.cell? ⟨xz, 4, none⟩ = some (.slice sa rl sc) := HX7.out.cell (j := 4) rfl; have y5 : w7.frozen? ⟨xz, 4, none⟩ = false := Lib.frozen_of_heap HX7.out 4; have HR7 := Lib.hid r1; have HK7 := Lib.hid (HK6.out.kp r2 (HR6.out.ne HK6.out (by decide))); have HZ7 := Lib.hid (HZ6.out.kp r2 (HR6.out.ne HZ6.out (by decide))); have HS7 : Hid (Below w.heap.size w w7) := Lib.hid (HS6.out.trans (r2.below (fun i hi => (HR6.out.base i hi).1) HS6.out.size)); clear r1 r2 r3))
      · rename_i hbit
        have HBt := Lib.hid hbit
        clear hbit
        go_roundg g
        case measure => omega
        case rel =>
          have hk8 : Kp (fun i => i = xz) w7 (w7.setCell ⟨xz, 4, none⟩ (.slice (some ⟨g7, 0, none⟩) (rl + 1) cap7)) := (Kp.refl (fun i => i = xz) w7).set (b := xz) (.inl rfl) 4 _
          refine ⟨i + 1, rows ++ [[.int .i64 k, .string ss]], some ⟨g7, 0, none⟩, cap7, by omega, by go_num, Lib.hid ?_, Lib.hid ?_, Lib.hid ?_, Lib.hid ?_, Lib.hid ?_, Lib.hid ?_, Lib.hid ?_⟩
          · rw [HRl.out]
            exact Below.setCell HS7.out (p := ⟨xz, 4, none⟩) hlz _
          · rw [HRl.out, List.length_append, HRl.out]
            exact HX7.out.putAt 4 (.slice (some ⟨g7, 0, none⟩) (rl + 1) cap7)
          · rw [HRl.out]
            exact HR7.out.kp hk8 (fun i hi e => HR7.out.ne HX7.out (by decide) (e ▸ hi))
          · rw [HRl.out]
            exact HK7.out.kp hk8 (HK7.out.ne HX7.out (by decide))
          · rw [List.length_append, HRl.out]
            exact Nat.succ_le_succ HLx.out
          · rw [sumRows_yes (by rw [← HKk.out]; exact HBt.out), ← HRo.out, ← HKk.out, HSS.out]
            rfl
          · rw [HRl.out]
            exact HZ7.out.kp hk8 hrx
      · rename_i hbit
        have HBt := Lib.hid hbit
        clear hbit
        go_roundg g
        case measure => omega
        case rel => exact ⟨i + 1, rows, sa, sc, by omega, by go_num, HSx, Lib.hid (by rw [HRl.out]; exact HXx.out), HRx, HKx, Lib.hid (by rw [HRl.out]; exact Nat.le_succ_of_le HLx.out), Lib.hid (by rw [sumRows_no (by rw [← HKk.out]; exact HBt.out)]; exact HRo.out), HZx⟩
    · obtain rfl : i = 5 := by omega
      have HHr := Lib.hid (HH.out _ HSx.out)
      obtain ⟨t, ht⟩ : ∃ t, hasB s.f 512 = t := ⟨_, rfl⟩
      rw [ht] at HHr
      have HT := Lib.hid ht
      clear ht
      have cn7 := (HIS.out _ HSx.out).n7
      have x6 : wr.cell? ⟨xz, 6, none⟩ = some (.string ⟨#[]⟩) := HXx.out.cell (j := 6) rfl
      have y6 : wr.frozen? ⟨xz, 6, none⟩ = false := Lib.frozen_of_heap HXx.out 6
      cases t
      · go_upto_region 14 with (go_at_call 36; refine HHr.out.mono ?_; rintro e w' ⟨rfl, hw⟩; (have hw2 := hw.symm; clear hw; subst hw2))
        have HXf := HXx
        have HZf := HZx
        obtain ⟨q0, q1, q2, q3, q4, q5, q6⟩ := info_cells HXf.out
        obtain ⟨⟨p0, p1, p2, p3, p4, p5, p6⟩, f0, f1, f2, f3, f4, f5, f6⟩ := info_room HZf.out
        have hlr : w.heap.size ≤ rz := by rw [HRZ.out]; exact Nat.le_refl _
        have hend : InfoPost T A s c w (.returned (.agg (infoArr A false c.data.size c.time (.slice sa rows.length sc) ⟨#[]⟩))) (((((((wr.setCell ⟨rz, 0, none⟩ (.string A)).setCell ⟨rz, 1, none⟩ (.bool false)).setCell ⟨rz, 2, none⟩ (.int .i64 c.data.size)).setCell ⟨rz, 3, none⟩ (.int .i64 c.time)).setCell ⟨rz, 4, none⟩ (.slice sa rows.length sc)).setCell ⟨rz, 5, none⟩ (.slice none 0 0)).setCell ⟨rz, 6, none⟩ (.string ⟨#[]⟩)) := by
          refine ⟨sa, rows.length, sc, by rw [HT.out]; rfl, by rw [← HRo.out], ?_, ?_⟩
          · rw [← HRo.out]
            exact HRx.out.kp (F := fun i => i = rz) (((((((Kp.refl (fun i => i = rz) wr).set (b := rz) (.inl rfl) 0 (.string A)).set (b := rz) (.inl rfl) 1 (.bool false)).set (b := rz) (.inl rfl) 2 (.int .i64 c.data.size)).set (b := rz) (.inl rfl) 3 (.int .i64 c.time)).set (b := rz) (.inl rfl) 4 (.slice sa rows.length sc)).set (b := rz) (.inl rfl) 5 (.slice none 0 0) |>.set (b := rz) (.inl rfl) 6 (.string ⟨#[]⟩)) (fun i hi e => HRx.out.ne HZf.out (by decide) (e ▸ hi))
          · exact Below.setCell (Below.setCell (Below.setCell (Below.setCell (Below.setCell (Below.setCell (Below.setCell HSx.out (p := ⟨rz, 0, none⟩) hlr _) (p := ⟨rz, 1, none⟩) hlr _) (p := ⟨rz, 2, none⟩) hlr _) (p := ⟨rz, 3, none⟩) hlr _) (p := ⟨rz, 4, none⟩) hlr _) (p := ⟨rz, 5, none⟩) hlr _) (p := ⟨rz, 6, none⟩) hlr _
        clear HXx HRx HKx HZx HLx HRo HI0 HCl HKi HIS HH HHr HXf HZf
        go_wp2_with fail
        try simp only [Exit.inBlock, Exit.then]
        refine bodyPost_ret (v := .agg (infoArr A false c.data.size c.time (.slice sa rows.length sc) ⟨#[]⟩)) ?_ rfl hend
        clear hend
        simp [results, Tryz.f85]
        go_simp
      · go_upto_region 14 with (go_at_call 36; refine HHr.out.mono ?_; rintro e w' ⟨rfl, hw⟩; (have hw2 := hw.symm; clear hw; subst hw2))
        have hk8 : Kp (fun i => i = xz) wr (wr.setCell ⟨xz, 6, none⟩ (.string c.id)) := (Kp.refl (fun i => i = xz) wr).set (b := xz) (.inl rfl) 6 _
        have HXf : Hid (BoxIs (wr.setCell ⟨xz, 6, none⟩ (.string c.id)) xz (infoArr A false c.data.size c.time (.slice sa rows.length sc) c.id) 42) := Lib.hid (HXx.out.putAt 6 (.string c.id))
        have HZf : Hid (BoxIs (wr.setCell ⟨xz, 6, none⟩ (.string c.id)) rz (infoArr ⟨#[]⟩ false 0 0 (.slice none 0 0) ⟨#[]⟩) 42) := Lib.hid (HZx.out.kp hk8 hrx)
        have HSf : Hid (Below w.heap.size w (wr.setCell ⟨xz, 6, none⟩ (.string c.id))) := Lib.hid (Below.setCell HSx.out (p := ⟨xz, 6, none⟩) hlz _)
        have HRf : Hid (RowG 256 2 (wr.setCell ⟨xz, 6, none⟩ (.string c.id)) w.heap.size sa sc rows) := Lib.hid (HRx.out.kp hk8 (fun i hi e => HRx.out.ne HXx.out (by decide) (e ▸ hi)))
        clear x6 y6 cn7 hk8
        generalize wr.setCell ⟨xz, 6, none⟩ (.string c.id) = w8 at *
        obtain ⟨q0, q1, q2, q3, q4, q5, q6⟩ := info_cells HXf.out
        obtain ⟨⟨p0, p1, p2, p3, p4, p5, p6⟩, f0, f1, f2, f3, f4, f5, f6⟩ := info_room HZf.out
        have hlr : w.heap.size ≤ rz := by rw [HRZ.out]; exact Nat.le_refl _
        have hend : InfoPost T A s c w (.returned (.agg (infoArr A false c.data.size c.time (.slice sa rows.length sc) c.id))) (((((((w8.setCell ⟨rz, 0, none⟩ (.string A)).setCell ⟨rz, 1, none⟩ (.bool false)).setCell ⟨rz, 2, none⟩ (.int .i64 c.data.size)).setCell ⟨rz, 3, none⟩ (.int .i64 c.time)).setCell ⟨rz, 4, none⟩ (.slice sa rows.length sc)).setCell ⟨rz, 5, none⟩ (.slice none 0 0)).setCell ⟨rz, 6, none⟩ (.string c.id)) := by
          refine ⟨sa, rows.length, sc, by rw [HT.out]; rfl, by rw [← HRo.out], ?_, ?_⟩
          · rw [← HRo.out]
            exact HRf.out.kp (F := fun i => i = rz) (((((((Kp.refl (fun i => i = rz) w8).set (b := rz) (.inl rfl) 0 (.string A)).set (b := rz) (.inl rfl) 1 (.bool false)).set (b := rz) (.inl rfl) 2 (.int .i64 c.data.size)).set (b := rz) (.inl rfl) 3 (.int .i64 c.time)).set (b := rz) (.inl rfl) 4 (.slice sa rows.length sc)).set (b := rz) (.inl rfl) 5 (.slice none 0 0) |>.set (b := rz) (.inl rfl) 6 (.string c.id)) (fun i hi e => HRf.out.ne HZf.out (by decide) (e ▸ hi))
          · exact Below.setCell (Below.setCell (Below.setCell (Below.setCell (Below.setCell (Below.setCell (Below.setCell HSf.out (p := ⟨rz, 0, none⟩) hlr _) (p := ⟨rz, 1, none⟩) hlr _) (p := ⟨rz, 2, none⟩) hlr _) (p := ⟨rz, 3, none⟩) hlr _) (p := ⟨rz, 4, none⟩) hlr _) (p := ⟨rz, 5, none⟩) hlr _) (p := ⟨rz, 6, none⟩) hlr _
        clear HXx HRx HKx HZx HLx HRo HI0 HCl HKi HIS HH HHr HXf HZf HRf HSf
        go_wp2_with fail
        try simp only [Exit.inBlock, Exit.then]
        refine bodyPost_ret (v := .agg (infoArr A false c.data.size c.time (.slice sa rows.length sc) c.id)) ?_ rfl hend
        clear hend
        simp [results, Tryz.f85]
        go_simp
end Go.Proofs.YtmafnjapailliaaGreatDoor
