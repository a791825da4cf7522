/-
  Parts of the proof: Un1.
-/
import Derived.Test.YtchfhojighopkaaGreatDoorGuAU
namespace Go.Proofs.YtchfhojighopkaaGreatDoor
open Go.RowKit Wh.Sha

/-- The library's variables and the sums' tables. -/
structure Gr (w0 : World) (T : Tabs) : Prop where
 env : Env w0
 pow : EnvT w0
 tabs : TabsAt w0 T
theorem Gr.notab {w0 : World} {T : Tabs} (h : Gr w0 T) : ∀ i, w0.heap.size ≤ i → NoTab i := fun i hi => by
 have h1 := h.tabs.a.lt
 have h2 := h.tabs.b.lt
 have h3 := h.tabs.c.lt
 exact ⟨by omega, by omega, by omega⟩
theorem Gr.tabsAt {w0 w : World} {T : Tabs} (h : Gr w0 T) (hb : Below w0.heap.size w0 w) : TabsAt w T := h.tabs.kp (Kp.of (F := fun _ => False) hb) (fun _ e => e.elim)
theorem Gr.below {w0 w : World} {T : Tabs} (h : Gr w0 T) (hb : Below w0.heap.size w0 w) : Gr w T := ⟨h.env.under hb, h.pow.under hb, h.tabsAt hb⟩
theorem infoSum : (Tryz.prog.info? 155).map (fun i => (i.zero, i.size, i.bytes)) = some (some (.agg #[.int .i64 0, .string ByteArray.empty]), 2, 24) := by kernel_rfl
/-- What info tells of a file: any sums. -/
def InfoS (A : ByteArray) (data : ByteArray) (time : Int) (id : ByteArray) (w : World) : Ending → World → Prop := fun e w' => ∃ sa n sc, e = .returned (.agg (infoArr A false data.size time (.slice sa n sc) id)) ∧ Below w.heap.size w w'
set_option maxHeartbeats 8000000 in
set_option maxRecDepth 100000 in
theorem infoS_file (w0 w : World) (T : Tabs) (B : Nat) (M : MB) (s : TSt) (rk : List ByteArray) (n : Nd) (hG : Gr w0 T) (hb0 : Below w0.heap.size w0 w) (hM : MemT w B M s) (hn : s.F rk.reverse = some n) (hkl : klen rk ≤ 4096) (hd : n.dir = false) (hmt : n.mt = .slice none 0 0) (hsz : n.data.size ≤ 1048576) :
  Calls Tryz.prog 42 #[ptr M.b, ptr n.b] w (InfoS (pathR s.F rk) n.data n.time (if hasB s.f 512 then n.id else ⟨#[]⟩) w) := by
 have HP := Lib.hid (fun W (hb : Below w.heap.size w W) => pathT_any B M.rb s.f s.F rk n W (hM.tree.under hb) hn hkl)
 have HC : Hid (∀ W, Below w.heap.size w W → W.cell? ⟨n.b, 1, none⟩ = some (.bool false) ∧ W.cell? ⟨n.b, 4, none⟩ = some (.string n.data) ∧ W.cell? ⟨n.b, 5, none⟩ = some (.int .i64 n.time) ∧ W.cell? ⟨n.b, 6, none⟩ = some (.slice none 0 0) ∧ W.cell? ⟨n.b, 7, none⟩ = some (.string n.id) ∧ W.cell? ⟨M.b, 1, none⟩ = some (.int .i64 s.f.sums)) := Lib.hid (fun W hb => by
  have hx := ((hM.tree.under hb).box _ _ hn).1
  have hf : W.cell? ⟨M.b, 1, none⟩ = some (.int .i64 s.f.sums) := (hM.below hb).box.cell (j := 1) rfl
  refine ⟨?_, hx.cell (j := 4) rfl, hx.cell (j := 5) rfl, ?_, hx.cell (j := 7) rfl, hf⟩
  ·rw [← hd]
   exact hx.cell (j := 1) rfl
  ·rw [← hmt]
   exact hx.cell (j := 6) rfl)
 have HH := Lib.hid (fun W (hb : Below w.heap.size w W) => has_any M.b s.f 512 W (hM.below hb).has)
 have HD := Lib.hid (show n.data.size ≤ maxLen from Nat.le_trans hsz (by decide))
 generalize hasB s.f 512 = t at *
 generalize s.f.sums = sm at *
 obtain ⟨ix, hix⟩ : ∃ ix, (if t = true then n.id else ⟨#[]⟩) = ix := ⟨_, rfl⟩
 have HIX := Lib.hid hix
 rw [hix]
 clear hix
 generalize pathR s.F rk = A at *
 generalize n.data = data at *
 generalize n.time = time at *
 generalize n.id = nid at *
 generalize n.b = nb at *
 generalize M.b = b at *
 clear hM hn hkl hd hmt
 go_enter Tryz.func42, Tryz.ntmps42
 go_upto_region 1 with fail
 have hb1 : Below w.heap.size w (w.alloc (.cells info0 37)) := bAlloc (Below.refl _ _) _
 have hx1 : BoxIs (w.alloc (.cells info0 37)) w.heap.size info0 37 := heap_alloc_new _ _
 obtain ⟨rz, hrz⟩ : ∃ rz, rz = w.heap.size := ⟨_, rfl⟩
 rw [← hrz] at hx1 ⊢
 have HRZ := Lib.hid hrz
 have HX1 := Lib.hid hx1
 have HB1 := Lib.hid hb1
 clear hrz hx1 hb1
 generalize w.alloc _ = w1 at *
 go_cut [5] (fun s5 wx => (∃ x, s5 = ptr x ∧ w.heap.size ≤ x ∧ rz ≠ x ∧ BoxIs wx x (info1 A false) 37) ∧ BoxIs wx rz info0 37 ∧ Below w.heap.size w wx)
 case first =>
  refine wp_region_inv2 (IJa w b nb rz A false) (by kernel_rfl) (by kernel_rfl) ?_ ?_ ?_
  ·exact ⟨_, _, _, _, _, _, _, _, rfl, IJ.start (HB1.out) (HX1.out)⟩
  ·intro i o ho L a' w' hI hnl hd K hK
   rcases i with _ | _ | _ | _ | _ | _ | _ | _ | _ | i
   ·obtain rfl : o = ⟨_, _, _, _, _, _⟩ := (Option.some.inj ho).symm
    obtain ⟨v5, v10, v11, v12, v13, v14, v15, v16, rfl, hN⟩ := hI
    rw [if_pos (by rfl)]
    have HN := Lib.hid hN
    clear hN hd
    go_wp2_with fail
    exact hK.out _ _ ⟨_, _, _, _, _, _, _, _, rfl, HN.out.s0⟩
   ·obtain rfl : o = ⟨_, _, _, _, _, _⟩ := (Option.some.inj ho).symm
    obtain ⟨v5, v10, v11, v12, v13, v14, v15, v16, rfl, hN⟩ := hI
    simp [Region.binds] at hd
    have d0 := hd
    have e0 := hN.q0 d0
    subst e0
    rw [if_pos (by rfl)]
    have HN := Lib.hid hN
    clear hN hd
    go_wp2_with (go_at_call 73; refine (HP.out _ HN.out.bel).mono ?_; rintro e w9 ⟨rfl, hb9⟩; have HN9 := Lib.hid (HN.out.up hb9))
    exact hK.out _ _ ⟨_, _, _, _, _, _, _, _, rfl, HN9.out.s1⟩
   ·obtain rfl : o = ⟨_, _, _, _, _, _⟩ := (Option.some.inj ho).symm
    obtain ⟨v5, v10, v11, v12, v13, v14, v15, v16, rfl, hN⟩ := hI
    rw [if_pos (by rfl)]
    have HN := Lib.hid hN
    clear hN hd
    go_wp2_with fail
    exact hK.out _ _ ⟨_, _, _, _, _, _, _, _, rfl, HN.out.s2⟩
   ·obtain rfl : o = ⟨_, _, _, _, _, _⟩ := (Option.some.inj ho).symm
    obtain ⟨v5, v10, v11, v12, v13, v14, v15, v16, rfl, hN⟩ := hI
    simp [Region.binds] at hd
    have d2 := hd
    have e2 := hN.q2 d2
    subst e2
    rw [if_pos (by rfl)]
    have HN := Lib.hid hN
    clear hN hd
    go_wp2_with fail
    exact hK.out _ _ ⟨_, _, _, _, _, _, _, _, rfl, HN.out.s3⟩
   ·obtain rfl : o = ⟨_, _, _, _, _, _⟩ := (Option.some.inj ho).symm
    obtain ⟨v5, v10, v11, v12, v13, v14, v15, v16, rfl, hN⟩ := hI
    simp [Region.binds] at hd
    have d3 := hd
    have e3 := hN.q3 d3
    subst e3
    rw [if_pos (by rfl)]
    have HN := Lib.hid hN
    clear hN hd
    go_wp2_with fail
    exact hK.out _ _ ⟨_, _, _, _, _, _, _, _, rfl, HN.out.s4⟩
   ·obtain rfl : o = ⟨_, _, _, _, _, _⟩ := (Option.some.inj ho).symm
    obtain ⟨v5, v10, v11, v12, v13, v14, v15, v16, rfl, hN⟩ := hI
    simp [Region.binds] at hd
    have d4 := hd
    have e4 := hN.q4 d4
    subst e4
    have hc := (HC.out _ hN.bel).1
    rw [if_pos (by rfl)]
    have HN := Lib.hid hN
    clear hN hd
    go_wp2_with fail
    exact hK.out _ _ ⟨_, _, _, _, _, _, _, _, rfl, HN.out.s5⟩
   ·obtain rfl : o = ⟨_, _, _, _, _, _⟩ := (Option.some.inj ho).symm
    obtain ⟨v5, v10, v11, v12, v13, v14, v15, v16, rfl, hN⟩ := hI
    simp [Region.binds] at hd
    have d1 := hd.1
    have d5 := hd.2
    have e1 := hN.q1 d1
    have e5 := hN.q5 d5
    subst e1
    subst e5
    rw [if_pos (by rfl)]
    have HN := Lib.hid hN
    clear hN hd
    go_wp2_with fail
    exact hK.out _ _ ⟨_, _, _, _, _, _, _, _, rfl, HN.out.s6⟩
   ·obtain rfl : o = ⟨_, _, _, _, _, _⟩ := (Option.some.inj ho).symm
    obtain ⟨v5, v10, v11, v12, v13, v14, v15, v16, rfl, hN⟩ := hI
    rw [if_pos (by rfl)]
    have HN := Lib.hid hN
    clear hN hd
    go_wp2_with fail
    exact hK.out _ _ ⟨_, _, _, _, _, _, _, _, rfl, HN.out.s7 hnl⟩
   ·obtain rfl : o = ⟨_, _, _, _, _, _⟩ := (Option.some.inj ho).symm
    obtain ⟨v5, v10, v11, v12, v13, v14, v15, v16, rfl, hN⟩ := hI
    simp [Region.binds] at hd
    have d6 : L 6 := by simp only [hd]
    have d7 : L 7 := by simp only [hd]
    have e6 := hN.q6 d6
    subst e6
    obtain ⟨x, arr, h1, h2, h3, h4, h5, _⟩ := hN.q7 d7
    obtain ⟨u0, u1, u2, u3, u4, u5, u6, rfl⟩ := seven_cells h5
    subst h1
    have HX := Lib.hid (And.intro h2 (And.intro h3 (And.intro h4 h5)))
    have p0 := h4.cell (j := 0) rfl
    have p1 := h4.cell (j := 1) rfl
    have p2 := h4.cell (j := 2) rfl
    have p3 := h4.cell (j := 3) rfl
    have p4 := h4.cell (j := 4) rfl
    have p5 := h4.cell (j := 5) rfl
    have p6 := h4.cell (j := 6) rfl
    have f0 : w'.frozen? ⟨x, 0, none⟩ = false := Lib.frozen_of_heap h4 0
    have f1 : w'.frozen? ⟨x, 1, none⟩ = false := Lib.frozen_of_heap h4 1
    have f2 : w'.frozen? ⟨x, 2, none⟩ = false := Lib.frozen_of_heap h4 2
    have f3 : w'.frozen? ⟨x, 3, none⟩ = false := Lib.frozen_of_heap h4 3
    have f4 : w'.frozen? ⟨x, 4, none⟩ = false := Lib.frozen_of_heap h4 4
    have f5 : w'.frozen? ⟨x, 5, none⟩ = false := Lib.frozen_of_heap h4 5
    have f6 : w'.frozen? ⟨x, 6, none⟩ = false := Lib.frozen_of_heap h4 6
    clear h2 h3 h4 h5
    rw [if_pos (by rfl)]
    have HN := Lib.hid hN
    clear hN hd
    go_wp2_with fail
    exact hK.out _ _ ⟨_, _, _, _, _, _, _, _, rfl, HN.out.s8 d7 rfl HX.out.1 HX.out.2.1 HX.out.2.2.1 HX.out.2.2.2⟩
   ·simp at ho
  ·rintro L a' w' ⟨v5, v10, v11, v12, v13, v14, v15, v16, rfl, hN⟩ hall
   obtain ⟨x, arr, h1, h2, h3, h4, h5, h6⟩ := hN.q7 (hall 7 (by decide))
   have h7 := h6 (hall 8 (by decide))
   subst h7
   have HN := Lib.hid (And.intro h3 (And.intro h4 (And.intro hN.box (And.intro hN.bel h2))))
   subst h1
   clear hN hall h2 h3 h4 h5 h6
   go_wp2_with fail
   go_meet
   exact ⟨⟨x, rfl, HN.out.2.2.2.2, HN.out.1, HN.out.2.1⟩, HN.out.2.2.1, HN.out.2.2.2.1⟩
 case rest =>
  obtain ⟨⟨xz, rfl, hlz, hrx, hbx⟩, hbz, hbl⟩ := hcut
  have hlr : w.heap.size ≤ rz := Nat.le_of_eq HRZ.out.symm
  have k1 := (HC.out _ hbl).1
  have HX2 := Lib.hid hbx
  have HX1b := Lib.hid hbz
  have hS := hbl
  clear hbx hbz hbl HP HX1 HB1
  have x2 : wc.cell? ⟨xz, 2, none⟩ = some (.int .i64 0) := HX2.out.cell (j := 2) rfl
  have x3 : wc.cell? ⟨xz, 3, none⟩ = some (.int .i64 0) := HX2.out.cell (j := 3) rfl
  have x5 : wc.cell? ⟨xz, 5, none⟩ = some (.slice none 0 0) := HX2.out.cell (j := 5) rfl
  have g2 : wc.frozen? ⟨xz, 2, none⟩ = false := Lib.frozen_of_heap HX2.out 2
  have g3 : wc.frozen? ⟨xz, 3, none⟩ = false := Lib.frozen_of_heap HX2.out 3
  have g5 : wc.frozen? ⟨xz, 5, none⟩ = false := Lib.frozen_of_heap HX2.out 5
  have HKi := Lib.hid kinds_any
  go_upto_region 4 with fail
  have hSd : Below w.heap.size w wc.drew := below_drewn hS
  have hS0 := hS
  clear k1 hS
  refine wp_region_seqQ (Below w.heap.size w) 1000 [(0, true), (1, true), (2, true), (3, true), (4, true), (5, true), (6, true), (7, true), (8, true), (9, true), (10, true), (11, true), (12, true), (13, true), (14, true), (15, false), (16, true), (17, false), (18, true), (19, false)] (by as_aux_lemma => kernel_rfl) (by as_aux_lemma => kernel_rfl) (by as_aux_lemma => kernel_rfl) (by decide) (by as_aux_lemma => kernel_rfl) (by decide) hSd ?_
  intro OPS HO
  iterate 13
   refine seqQ_take (o := ⟨_, _, _, _, _, _⟩) (v := ?_) (by rw [HO.out]; rfl) (by rfl) ?_ ?_
   rotate_left 1
   ·first | ((intro W _; go_simp) <;> with_reducible rfl) | (intro W hW; obtain ⟨k1, k2, k3, k4, k5, k6⟩ := HC.out _ hW; clear hW; (go_simp <;> with_reducible rfl))
   try simp only [Act.put, List.setIfInBounds_toArray, List.set_cons_zero, List.set_cons_succ]
  refine seqQ_quiet (o := ⟨_, _, _, _, _, _⟩) (by rw [HO.out]; rfl) (by rfl) 74 _ (fun W hW => ?_) _ (fun W hW => cloneM_nil W) ?_
  ·obtain ⟨k1, k2, k3, k4, k5, k6⟩ := HC.out _ hW; clear hW; (go_simp <;> with_reducible rfl)
  try simp only [Act.put, List.setIfInBounds_toArray, List.set_cons_zero, List.set_cons_succ]
  refine seqQ_take (o := ⟨_, _, _, _, _, _⟩) (v := ?_) (by rw [HO.out]; rfl) (by rfl) ?_ ?_
  rotate_left 1
  ·first | ((intro W _; go_simp) <;> with_reducible rfl) | (intro W hW; obtain ⟨k1, k2, k3, k4, k5, k6⟩ := HC.out _ hW; clear hW; (go_simp <;> with_reducible rfl))
  try simp only [Act.put, List.setIfInBounds_toArray, List.set_cons_zero, List.set_cons_succ]
  refine seqQ_do (o := ⟨_, _, _, _, _, _⟩) (by rw [HO.out]; rfl) (by rfl) (fun K hK => ?_)
  go_wp2_with fail
  have hS : Below w.heap.size w (wc.setCell ⟨xz, 2, none⟩ (.int .i64 data.size)).drew := below_drewn (Below.setCell hS0 (p := ⟨xz, 2, none⟩) hlz _)
  refine hK.out _ _ (fun _ => hS) ?_
  clear hK K
  try simp only [Act.put, List.setIfInBounds_toArray, List.set_cons_zero, List.set_cons_succ]
  refine seqQ_take (o := ⟨_, _, _, _, _, _⟩) (v := ?_) (by rw [HO.out]; rfl) (by rfl) ?_ ?_
  rotate_left 1
  ·first | ((intro W _; go_simp) <;> with_reducible rfl) | (intro W hW; obtain ⟨k1, k2, k3, k4, k5, k6⟩ := HC.out _ hW; clear hW; (go_simp <;> with_reducible rfl))
  try simp only [Act.put, List.setIfInBounds_toArray, List.set_cons_zero, List.set_cons_succ]
  refine seqQ_do (o := ⟨_, _, _, _, _, _⟩) (by rw [HO.out]; rfl) (by rfl) (fun K hK => ?_)
  go_wp2_with fail
  replace hS : Below w.heap.size w ((wc.setCell ⟨xz, 2, none⟩ (.int .i64 data.size)).setCell ⟨xz, 3, none⟩ (.int .i64 time)).drew := below_drewn (Below.setCell (Below.setCell hS0 (p := ⟨xz, 2, none⟩) hlz _) (p := ⟨xz, 3, none⟩) hlz _)
  refine hK.out _ _ (fun _ => hS) ?_
  clear hK K
  try simp only [Act.put, List.setIfInBounds_toArray, List.set_cons_zero, List.set_cons_succ]
  refine seqQ_take (o := ⟨_, _, _, _, _, _⟩) (v := ?_) (by rw [HO.out]; rfl) (by rfl) ?_ ?_
  rotate_left 1
  ·first | ((intro W _; go_simp) <;> with_reducible rfl) | (intro W hW; obtain ⟨k1, k2, k3, k4, k5, k6⟩ := HC.out _ hW; clear hW; (go_simp <;> with_reducible rfl))
  try simp only [Act.put, List.setIfInBounds_toArray, List.set_cons_zero, List.set_cons_succ]
  refine seqQ_do (o := ⟨_, _, _, _, _, _⟩) (by rw [HO.out]; rfl) (by rfl) (fun K hK => ?_)
  go_wp2_with fail
  replace hS : Below w.heap.size w (((wc.setCell ⟨xz, 2, none⟩ (.int .i64 data.size)).setCell ⟨xz, 3, none⟩ (.int .i64 time)).setCell ⟨xz, 5, none⟩ (.slice none 0 0)).drew := below_drewn (Below.setCell (Below.setCell (Below.setCell hS0 (p := ⟨xz, 2, none⟩) hlz _) (p := ⟨xz, 3, none⟩) hlz _) (p := ⟨xz, 5, none⟩) hlz _)
  refine hK.out _ _ (fun _ => hS) ?_
  clear hK K
  try simp only [Act.put, List.setIfInBounds_toArray, List.set_cons_zero, List.set_cons_succ]
  refine seqQ_done ?_
  have HX4 : Hid (BoxIs (((wc.setCell ⟨xz, 2, none⟩ (.int .i64 data.size)).setCell ⟨xz, 3, none⟩ (.int .i64 time)).setCell ⟨xz, 5, none⟩ (.slice none 0 0)).drew xz (infoArr A false data.size time (.slice none 0 0) ⟨#[]⟩) 37) := Lib.hid (BoxIs.putAt (BoxIs.putAt (BoxIs.putAt HX2.out 2 (.int .i64 data.size)) 3 (.int .i64 time)) 5 (.slice none 0 0))
  have HZ4 : Hid (BoxIs (((wc.setCell ⟨xz, 2, none⟩ (.int .i64 data.size)).setCell ⟨xz, 3, none⟩ (.int .i64 time)).setCell ⟨xz, 5, none⟩ (.slice none 0 0)).drew rz info0 37) := Lib.hid (HX1b.out.kp (F := fun i => i = xz) (((((Kp.refl (fun i => i = xz) wc).set (b := xz) (.inl rfl) 2 (.int .i64 data.size)).set (b := xz) (.inl rfl) 3 (.int .i64 time)).set (b := xz) (.inl rfl) 5 (.slice none 0 0)).drew 1) hrx)
  clear x2 x3 x5 g2 g3 g5 HX2 HX1b hS0 hSd
  generalize (World.setCell _ _ _).drew = w4 at *
  go_upto_region 6 with (go_at_call 68; refine (HKi.out _).mono ?_; rintro e w' ⟨rfl, rfl⟩)
  have HS5 := Lib.hid (bTrans hS (bAlloc (Below.refl w4.heap.size w4) (.cells #[.int .i64 1, .int .i64 2, .int .i64 3, .int .i64 4, .int .i64 5] 3)))
  have HX5 := Lib.hid (HX4.out.under (bAlloc (Below.refl w4.heap.size w4) (.cells #[.int .i64 1, .int .i64 2, .int .i64 3, .int .i64 4, .int .i64 5] 3)))
  have HZ5 := Lib.hid (HZ4.out.under (bAlloc (Below.refl w4.heap.size w4) (.cells #[.int .i64 1, .int .i64 2, .int .i64 3, .int .i64 4, .int .i64 5] 3)))
  have HK5 : Hid (BoxIs (w4.alloc (.cells #[.int .i64 1, .int .i64 2, .int .i64 3, .int .i64 4, .int .i64 5] 3)) w4.heap.size #[.int .i64 1, .int .i64 2, .int .i64 3, .int .i64 4, .int .i64 5] 3) := Lib.hid (heap_alloc_new _ _)
  obtain ⟨kz, hkz⟩ : ∃ kz, kz = w4.heap.size := ⟨_, rfl⟩
  rw [← hkz] at HK5 ⊢
  clear hS HX4 HZ4 hkz
  generalize w4.alloc _ = w5 at *
  go_loopg [41] 5 (fun gk s41 wx => ∃ (i : Nat) (rows : List (List Value)) (sa : Option Addr) (sc : Nat), i + gk = 5 ∧ s41 = .int .i64 i ∧ Hid (Below w.heap.size w wx) ∧ Hid (BoxIs wx xz (infoArr A false data.size time (.slice sa rows.length sc) ⟨#[]⟩) 37) ∧ Hid (RowG 155 2 wx w.heap.size sa sc rows) ∧ Hid (BoxIs wx kz #[.int .i64 1, .int .i64 2, .int .i64 3, .int .i64 4, .int .i64 5] 3) ∧ Hid (rows.length ≤ i) ∧ Hid (BoxIs wx rz info0 37))
  case atStart => exact ⟨0, [], none, 0, by omega, rfl, HS5, HX5, Lib.hid (RowG.nil _ _ _ _), HK5, Lib.hid (Nat.le_refl _), HZ5⟩
  case round =>
   clear HS5 HX5 HZ5 HK5
   obtain ⟨i, rows, sa, sc, hi, rfl, HSx, HXx, HRx, HKx, HLx, HZx⟩ := hrel
   by_cases hlt : i < 5
   ·obtain ⟨g, rfl⟩ : ∃ g, gk = g + 1 := ⟨gk - 1, by omega⟩
    obtain ⟨k, hk⟩ : ∃ k, k = i + 1 := ⟨_, rfl⟩
    have ck : wr.cell? ⟨kz, i, none⟩ = some (.int .i64 k) := HKx.out.cell (j := i) (by
     rw [hk]
     rcases (show i = 0 ∨ i = 1 ∨ i = 2 ∨ i = 3 ∨ i = 4 by omega) with rfl | rfl | rfl | rfl | rfl <;> rfl)
    have cs := (HC.out _ HSx.out).2.2.2.2.2
    have hi5 : (i : Int) < 5 := by omega
    have hk1 : 1 ≤ k ∧ k ≤ 5 := by omega
    have hk64 : (k : Int) < 64 := by omega
    have HKk := Lib.hid hk
    have hbr : Below w0.heap.size w0 wr := hb0.trans (Below.mono HSx.out hb0.size)
    have HOf := Lib.hid (of_any T k hk1 data wr (hG.tabsAt hbr) (fun j hj => hG.notab j (Nat.le_trans hbr.size hj)) hsz)
    obtain ⟨ss, hss⟩ : ∃ ss : ByteArray, ss = ⟨(sumOf T k data.data.toList).toArray⟩ := ⟨_, rfl⟩
    unfold OfPost at HOf
    rw [← hss] at HOf
    have HSS := Lib.hid hss
    have cn4 := (HC.out _ HSx.out).2.1
    obtain ⟨iv, hiv, hz0, hz1, hz2⟩ := info_parts infoSum
    have HI := Lib.hid (And.intro hiv (And.intro hz0 (And.intro hz1 hz2)))
    obtain ⟨rl, hrl⟩ : ∃ rl, rows.length = rl := ⟨_, rfl⟩
    have HRl := Lib.hid hrl
    rw [hrl] at HXx HLx
    have hrl6 : rl ≤ 5 := by have := HLx.out; omega
    clear hk hbr hss hiv hz0 hz1 hz2 hrl
    go_wp2_with (first
     | (go_at_call 75; refine HOf.out.mono ?_; rintro e w6 ⟨rfl, hb6⟩; have HX6 := Lib.hid (HXx.out.under hb6); have HR6 := Lib.hid (HRx.out.kp (Kp.of (F := fun _ => False) hb6) (fun _ _ e => e)); have HS6 := Lib.hid (bTrans HSx.out hb6); have HK6 := Lib.hid (HKx.out.under hb6); have HZ6 := Lib.hid (HZx.out.under hb6); have x4 : w6.cell? ⟨xz, 4, none⟩ = some (.slice sa rl sc) := HX6.out.cell (j := 4) rfl; clear hb6)
     | (at_builtin; refine wpList_appG HR6.out Tryz.underlying34 HI.out.1 HI.out.2.1 HI.out.2.2.1 HI.out.2.2.2 rfl (by decide) (by decide) [.int .i64 k, .string ss] rfl (by simp [Value.oneCell']) (by rw [HRl.out]; omega) HS6.out.size rfl (.tmp 64) (.tmp 68) rfl (by show Value.slice _ _ _ = Value.slice _ _ _; rw [HRl.out]) rfl (fun g7 cap7 w7 r1 r2 r3 => ?_); have HX7 := Lib.hid (HX6.out.kp r2 (HR6.out.ne HX6.out (by decide))); have y4 : w7.cell? ⟨xz, 4, none⟩ = some (.slice sa rl sc) := HX7.out.cell (j := 4) rfl; have y5 : w7.frozen? ⟨xz, 4, none⟩ = false := Lib.frozen_of_heap HX7.out 4; have HR7 := Lib.hid r1; have HK7 := Lib.hid (HK6.out.kp r2 (HR6.out.ne HK6.out (by decide))); have HZ7 := Lib.hid (HZ6.out.kp r2 (HR6.out.ne HZ6.out (by decide))); have HS7 : Hid (Below w.heap.size w w7) := Lib.hid (HS6.out.trans (r2.below (fun i hi => (HR6.out.base i hi).1) HS6.out.size)); clear r1 r2 r3))
    ·rename_i hbit
     have HBt := Lib.hid hbit
     clear hbit
     go_roundg g
     case measure => omega
     case rel =>
      have hk8 : Kp (fun i => i = xz) w7 (w7.setCell ⟨xz, 4, none⟩ (.slice (some ⟨g7, 0, none⟩) (rl + 1) cap7)) := (Kp.refl (fun i => i = xz) w7).set (b := xz) (.inl rfl) 4 _
      refine ⟨i + 1, rows ++ [[.int .i64 k, .string ss]], some ⟨g7, 0, none⟩, cap7, by omega, by go_num, Lib.hid ?_, Lib.hid ?_, Lib.hid ?_, Lib.hid ?_, Lib.hid ?_, Lib.hid ?_⟩
      ·rw [HRl.out]
       exact Below.setCell HS7.out (p := ⟨xz, 4, none⟩) hlz _
      ·rw [HRl.out, List.length_append, HRl.out]
       exact HX7.out.putAt 4 (.slice (some ⟨g7, 0, none⟩) (rl + 1) cap7)
      ·rw [HRl.out]
       exact HR7.out.kp hk8 (fun i hi e => HR7.out.ne HX7.out (by decide) (e ▸ hi))
      ·rw [HRl.out]
       exact HK7.out.kp hk8 (HK7.out.ne HX7.out (by decide))
      ·rw [List.length_append, HRl.out]
       exact Nat.succ_le_succ HLx.out
      ·rw [HRl.out]
       exact HZ7.out.kp hk8 hrx
    ·rename_i hbit
     have HBt := Lib.hid hbit
     clear hbit
     go_roundg g
     case measure => omega
     case rel => exact ⟨i + 1, rows, sa, sc, by omega, by go_num, HSx, Lib.hid (by rw [HRl.out]; exact HXx.out), HRx, HKx, Lib.hid (by rw [HRl.out]; exact Nat.le_succ_of_le HLx.out), HZx⟩
   ·obtain rfl : i = 5 := by omega
    have HHr := Lib.hid (HH.out _ HSx.out)
    have cn7 := (HC.out _ HSx.out).2.2.2.2.1
    have x6 : wr.cell? ⟨xz, 6, none⟩ = some (.string ⟨#[]⟩) := HXx.out.cell (j := 6) rfl
    have y6 : wr.frozen? ⟨xz, 6, none⟩ = false := Lib.frozen_of_heap HXx.out 6
    cases t
    ·go_upto_region 14 with (go_at_call 22; refine HHr.out.mono ?_; rintro e w' ⟨rfl, hw⟩; (have hw2 := hw.symm; clear hw; subst hw2))
     have HXf := HXx
     have HZf := HZx
     obtain ⟨q0, q1, q2, q3, q4, q5, q6⟩ := info_cells HXf.out
     obtain ⟨⟨p0, p1, p2, p3, p4, p5, p6⟩, f0, f1, f2, f3, f4, f5, f6⟩ := info_room HZf.out
     have hend : InfoS A data time ix w (.returned (.agg (infoArr A false data.size time (.slice sa rows.length sc) ⟨#[]⟩))) (((((((wr.setCell ⟨rz, 0, none⟩ (.string A)).setCell ⟨rz, 1, none⟩ (.bool false)).setCell ⟨rz, 2, none⟩ (.int .i64 data.size)).setCell ⟨rz, 3, none⟩ (.int .i64 time)).setCell ⟨rz, 4, none⟩ (.slice sa rows.length sc)).setCell ⟨rz, 5, none⟩ (.slice none 0 0)).setCell ⟨rz, 6, none⟩ (.string ⟨#[]⟩)) := by
      exact ⟨sa, rows.length, sc, by rw [← HIX.out]; rfl, Below.setCell (Below.setCell (Below.setCell (Below.setCell (Below.setCell (Below.setCell (Below.setCell HSx.out (p := ⟨rz, 0, none⟩) hlr _) (p := ⟨rz, 1, none⟩) hlr _) (p := ⟨rz, 2, none⟩) hlr _) (p := ⟨rz, 3, none⟩) hlr _) (p := ⟨rz, 4, none⟩) hlr _) (p := ⟨rz, 5, none⟩) hlr _) (p := ⟨rz, 6, none⟩) hlr _⟩
     clear HXx HRx HKx HZx HLx HKi HC HH HHr HXf HZf
     go_wp2_with fail
     try simp only [Exit.inBlock, Exit.then]
     refine bodyPost_ret (v := .agg (infoArr A false data.size time (.slice sa rows.length sc) ⟨#[]⟩)) ?_ rfl hend
     clear hend
     simp [results, Tryz.f42]
     go_simp
    ·go_upto_region 14 with (go_at_call 22; refine HHr.out.mono ?_; rintro e w' ⟨rfl, hw⟩; (have hw2 := hw.symm; clear hw; subst hw2))
     have hk8 : Kp (fun i => i = xz) wr (wr.setCell ⟨xz, 6, none⟩ (.string nid)) := (Kp.refl (fun i => i = xz) wr).set (b := xz) (.inl rfl) 6 _
     have HXf : Hid (BoxIs (wr.setCell ⟨xz, 6, none⟩ (.string nid)) xz (infoArr A false data.size time (.slice sa rows.length sc) nid) 37) := Lib.hid (HXx.out.putAt 6 (.string nid))
     have HZf : Hid (BoxIs (wr.setCell ⟨xz, 6, none⟩ (.string nid)) rz info0 37) := Lib.hid (HZx.out.kp hk8 hrx)
     have HSf : Hid (Below w.heap.size w (wr.setCell ⟨xz, 6, none⟩ (.string nid))) := Lib.hid (Below.setCell HSx.out (p := ⟨xz, 6, none⟩) hlz _)
     have HRf : Hid (RowG 155 2 (wr.setCell ⟨xz, 6, none⟩ (.string nid)) w.heap.size sa sc rows) := Lib.hid (HRx.out.kp hk8 (fun i hi e => HRx.out.ne HXx.out (by decide) (e ▸ hi)))
     clear x6 y6 cn7 hk8
     generalize wr.setCell ⟨xz, 6, none⟩ (.string nid) = w8 at *
     obtain ⟨q0, q1, q2, q3, q4, q5, q6⟩ := info_cells HXf.out
     obtain ⟨⟨p0, p1, p2, p3, p4, p5, p6⟩, f0, f1, f2, f3, f4, f5, f6⟩ := info_room HZf.out
     have hend : InfoS A data time ix w (.returned (.agg (infoArr A false data.size time (.slice sa rows.length sc) nid))) (((((((w8.setCell ⟨rz, 0, none⟩ (.string A)).setCell ⟨rz, 1, none⟩ (.bool false)).setCell ⟨rz, 2, none⟩ (.int .i64 data.size)).setCell ⟨rz, 3, none⟩ (.int .i64 time)).setCell ⟨rz, 4, none⟩ (.slice sa rows.length sc)).setCell ⟨rz, 5, none⟩ (.slice none 0 0)).setCell ⟨rz, 6, none⟩ (.string nid)) := by
      exact ⟨sa, rows.length, sc, by rw [← HIX.out]; rfl, Below.setCell (Below.setCell (Below.setCell (Below.setCell (Below.setCell (Below.setCell (Below.setCell HSf.out (p := ⟨rz, 0, none⟩) hlr _) (p := ⟨rz, 1, none⟩) hlr _) (p := ⟨rz, 2, none⟩) hlr _) (p := ⟨rz, 3, none⟩) hlr _) (p := ⟨rz, 4, none⟩) hlr _) (p := ⟨rz, 5, none⟩) hlr _) (p := ⟨rz, 6, none⟩) hlr _⟩
     clear HXx HRx HKx HZx HLx HKi HC HH HHr HXf HZf HRf HSf
     go_wp2_with fail
     try simp only [Exit.inBlock, Exit.then]
     refine bodyPost_ret (v := .agg (infoArr A false data.size time (.slice sa rows.length sc) nid)) ?_ rfl hend
     clear hend
     simp [results, Tryz.f42]
     go_simp
end Go.Proofs.YtchfhojighopkaaGreatDoor
