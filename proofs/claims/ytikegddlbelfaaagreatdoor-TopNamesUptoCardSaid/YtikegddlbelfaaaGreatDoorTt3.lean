/-
  TopNames: the walk.
-/
import Derived.Test.YtikegddlbelfaaaGreatDoorTtG
import Derived.Test.YtikegddlbelfaaaGreatDoorStoreFeat
namespace Go.Proofs.YtikegddlbelfaaaGreatDoor
open Go.RowKit

set_option maxHeartbeats 1000000 in
theorem newT_bad (f : Wh.Feat) (cb : Nat) (w : World) (z : Int) (hz : z ≠ 0) (HCf : ∀ W, Calls Tryz.prog 16 #[featVal f] W fun e w' => e = .returned (.int .i64 z) ∧ Below W.heap.size W w') :
    Calls Tryz.prog 5 #[featVal f, .pointer (some ⟨cb, 0, none⟩), .slice none 0 0] w fun e w' => e = .returned (.tuple #[.pointer none, .int .i64 z]) ∧ Below w.heap.size w w' := by
  have hb1 : Below w.heap.size w (w.alloc (featObj f)) := bAlloc (Below.refl _ _) _
  have HB := Lib.hid (featBox_new w f)
  have HC := Lib.hid HCf
  have hz1 : (z != 0) = true := by simp [hz]
  clear HCf
  unfold featVal
  go_enter Tryz.func5, Tryz.ntmps5
  go_upto_region 1 with fail
  unfold featObj at *
  generalize w.alloc (.cells #[.int .i64 f.has, .int .i64 f.sums, .int .i64 f.prec, .int .i64 f.maxName, .int .i64 f.maxPath, .int .i64 f.maxSize, .int .i64 f.page, .int .i64 f.partSize, .string f.forbid] 27) = w1 at *
  obtain ⟨k0, k1, k2, k3, k4, k5, k6, k7, k8, k9⟩ := HB.out
  go_wp2_with (go_at_call 16; refine (HC.out _).mono ?_; rintro e w2 ⟨rfl, hb2⟩)
  go_ret2
  exact ⟨rfl, bTrans hb1 hb2⟩
/-- How many names a text counts for. -/
def cntP (p : ByteArray) : Nat := 1 + Lib.countB p ⟨#[47]⟩
theorem names_le_cnt (p : ByteArray) : (Wh.namesOf p).length ≤ cntP p := by
  unfold Wh.namesOf cntP
  split
  · exact Nat.zero_le _
  · rw [Wh.pieces_length]
    omega
theorem cnt_le (p : ByteArray) : cntP p ≤ p.size + 1 := by
  have := Lib.countB_le ⟨#[47]⟩ (Nat.le_refl 1) p.size p (Nat.le_refl _)
  unfold cntP
  omega
theorem sum_take_le (g : ByteArray → Nat) (L : List ByteArray) (i : Nat) : ((L.take i).map g).sum ≤ (L.map g).sum := by
  conv => rhs; rw [← List.take_append_drop i L]
  rw [List.map_append, List.sum_append]
  omega
theorem sum_cnt_le (L : List ByteArray) : (L.map cntP).sum ≤ (L.map (fun p => p.size + 1)).sum := by
  induction L with
  | nil => exact Nat.le_refl _
  | cons p L ih =>
    rw [List.map_cons, List.map_cons, List.sum_cons, List.sum_cons]
    have := cnt_le p
    omega
theorem size_mem_le {L : List ByteArray} {p : ByteArray} (h : p ∈ L) : p.size + 1 ≤ (L.map (fun p => p.size + 1)).sum := by
  induction L with
  | nil => simp at h
  | cons q L ih =>
    rw [List.map_cons, List.sum_cons]
    rcases List.mem_cons.1 h with rfl | h
    · omega
    · have := ih h
      omega
set_option maxHeartbeats 8000000 in
set_option maxRecDepth 100000 in
theorem topNames_any (x : Wh.Enc) (a : Option Addr) (c : Nat) (la : Option Addr) (lc : Nat) (L : List ByteArray) (w : World) (hE : Env w) (hT : EnvT w) (hX : EncOk x a w) (hH : Holds w la (L.map Value.string)) (hsz : (L.map (fun p => p.size + 1)).sum ≤ 1048576) (hfl : x.forbid.size < 4294967281) :
    Calls Tryz.prog 3 #[encVal x a c, .slice la L.length lc] w fun e w' => e = .returned (.bool true) ∧ Below w.heap.size w w' := by
  have HLd := Lib.hid (fun W (hb : Below w.heap.size w W) => landedN_any W (hE.under hb))
  have hor : bits BinOp.or IntKind.i64 16 2 = 18 := by decide
  have HEx : Hid (BoxIs (w.alloc (.cells (encCells x a c) 24)) w.heap.size (encCells x a c) 24 ∧ Below w.heap.size w (w.alloc (.cells (encCells x a c) 24))) := Lib.hid ⟨BoxIs.new _ _ _, bAlloc (Below.refl _ _) _⟩
  have HCF := Lib.hid (fun W => stCheckFeat_any (topF x) ⟨(by decide : (-9223372036854775808 : Int) ≤ 0 ∧ (0 : Int) ≤ 9223372036854775807), by show x.forbid.size ≤ _; omega⟩ W)
  have HClk := Lib.hid (fun W => clock5_any W)
  unfold encVal encCells at *
  obtain ⟨fo, hd, tl, nm, cs, mx⟩ := x
  dsimp only at *
  go_enter Tryz.func3, Tryz.ntmps3
  go_upto_region 1 with fail
  obtain ⟨eb, heb⟩ : ∃ eb, w.heap.size = eb := ⟨_, rfl⟩
  have HEb := Lib.hid heb
  obtain ⟨hx1, hb1⟩ := HEx.out
  rw [heb] at hx1 ⊢
  have HX1 := Lib.hid hx1
  have HB1 : Hid (Below w.heap.size w _) := Lib.hid hb1
  clear hx1 hb1 heb HEx
  generalize w.alloc _ = w1 at *
  go_upto_region 3 with (go_at_call 4; refine (HLd.out _ HB1.out).mono ?_; rintro e w2 ⟨rfl, hb2⟩)
  have HX2 := Lib.hid (HX1.out.under hb2)
  have HB2 := Lib.hid (bTrans HB1.out hb2)
  have e0 : w2.cell? ⟨eb, 0, none⟩ = some (.string fo) := HX2.out.cell (j := 0) rfl
  have e4 : w2.cell? ⟨eb, 4, none⟩ = some (.bool cs) := HX2.out.cell (j := 4) rfl
  have e5 : w2.cell? ⟨eb, 5, none⟩ = some (.int .i64 mx) := HX2.out.cell (j := 5) rfl
  clear hb2 HX1 HB1 HLd
  go_upto_region 4 with fail
  obtain ⟨fb, hfb⟩ : ∃ fb, w2.heap.size = fb := ⟨_, rfl⟩
  have hf3 : BoxIs (w2.alloc (.cells #[.int .i64 16, .int .i64 0, .int .i64 1, .int .i64 mx, .int .i64 1024, .int .i64 1024, .int .i64 2, .int .i64 1, .string fo] 27)) w2.heap.size #[.int .i64 16, .int .i64 0, .int .i64 1, .int .i64 mx, .int .i64 1024, .int .i64 1024, .int .i64 2, .int .i64 1, .string fo] 27 := BoxIs.new _ _ _
  have hb3 : Below w2.heap.size w2 (w2.alloc (.cells #[.int .i64 16, .int .i64 0, .int .i64 1, .int .i64 mx, .int .i64 1024, .int .i64 1024, .int .i64 2, .int .i64 1, .string fo] 27)) := bAlloc (Below.refl _ _) _
  have HF3 := Lib.hid hf3
  have HB3 := Lib.hid hb3
  rw [hfb] at HF3 ⊢
  have e4' := (HX2.out.under hb3).cell (j := 4) rfl
  have e43 : (w2.alloc (.cells #[.int .i64 16, .int .i64 0, .int .i64 1, .int .i64 mx, .int .i64 1024, .int .i64 1024, .int .i64 2, .int .i64 1, .string fo] 27)).cell? ⟨eb, 4, none⟩ = some (.bool cs) := e4'
  have HFb := Lib.hid hfb
  clear hf3 hb3 hfb e0 e4 e5 e4'
  generalize w2.alloc _ = w3 at *
  go_upto_if 34 with fail
  go_cut [4] (fun s4 wx => s4 = .bool false ∧ Hid (BoxIs wx fb #[.int .i64 (topF ⟨fo, hd, tl, nm, cs, mx⟩).has, .int .i64 0, .int .i64 1, .int .i64 mx, .int .i64 1024, .int .i64 1024, .int .i64 2, .int .i64 1, .string fo] 27 ∧ Below w2.heap.size w2 wx))
  case first =>
    have f0 : w3.cell? ⟨fb, 0, none⟩ = some (.int .i64 16) := HF3.out.cell (j := 0) rfl
    have f0f : w3.frozen? ⟨fb, 0, none⟩ = false := Lib.frozen_of_heap HF3.out 0
    have hsz : w2.heap.size ≤ fb := Nat.le_of_eq HFb.out
    cases cs with
    | true =>
      go_wp2_with fail
      go_meet
      exact ⟨rfl, Lib.hid ⟨HF3.out, HB3.out⟩⟩
    | false =>
      go_wp2_with fail
      go_meet
      exact ⟨rfl, Lib.hid ⟨BoxIs.putAt HF3.out 0 (.int .i64 18), HB3.out.trans (((Kp.refl (fun i => i = fb) w3).set (b := fb) (.inl rfl) 0 (.int .i64 18)).below (fun i e => by rw [e]; exact hsz) HB3.out.size)⟩⟩
  case rest =>
    obtain ⟨rfl, HFX⟩ := hcut
    clear e43 HF3 HB3 w3
    generalize wc = wa at *
    go_upto_region 6 with fail
    obtain ⟨hs, hhs⟩ : ∃ hs, (topF ⟨fo, hd, tl, nm, cs, mx⟩).has = hs := ⟨_, rfl⟩
    have HHs := Lib.hid hhs
    rw [hhs] at HFX
    have HNw : Hid (Wh.featErr (topF ⟨fo, hd, tl, nm, cs, mx⟩) = 0 → ∀ (W : World) (cb : Nat), w.heap.size ≤ W.heap.size → BoxIs W cb #[.int .i64 5] 66 → Calls Tryz.prog 5 #[.agg #[.int .i64 hs, .int .i64 0, .int .i64 1, .int .i64 mx, .int .i64 1024, .int .i64 1024, .int .i64 2, .int .i64 1, .string fo], .pointer (some ⟨cb, 0, none⟩), .slice none 0 0] W (NewTPost w.heap.size (topF ⟨fo, hd, tl, nm, cs, mx⟩) cb 5 W)) := Lib.hid (fun h0 W cb h1 h2 => by
      rw [← hhs]
      exact newT_any w.heap.size (topF ⟨fo, hd, tl, nm, cs, mx⟩) cb 5 W (fun W' => by have := HCF.out W'; rw [h0] at this; exact this) h1 h2)
    unfold NewTPost at HNw
    have HNb : Hid (Wh.featErr (topF ⟨fo, hd, tl, nm, cs, mx⟩) ≠ 0 → ∀ (W : World) (cb : Nat), Calls Tryz.prog 5 #[.agg #[.int .i64 hs, .int .i64 0, .int .i64 1, .int .i64 mx, .int .i64 1024, .int .i64 1024, .int .i64 2, .int .i64 1, .string fo], .pointer (some ⟨cb, 0, none⟩), .slice none 0 0] W fun e w' => e = .returned (.tuple #[.pointer none, .int .i64 (Wh.featErr (topF ⟨fo, hd, tl, nm, cs, mx⟩))]) ∧ Below W.heap.size W w') := Lib.hid (fun h0 W cb => by
      rw [← hhs]
      exact newT_bad (topF ⟨fo, hd, tl, nm, cs, mx⟩) cb W _ h0 (fun W' => HCF.out W'))
    have HKf : Hid (∀ W, Below wa.heap.size wa W → W.cell? ⟨fb, 0, none⟩ = some (.int .i64 hs) ∧ W.cell? ⟨fb, 1, none⟩ = some (.int .i64 0) ∧ W.cell? ⟨fb, 2, none⟩ = some (.int .i64 1) ∧ W.cell? ⟨fb, 3, none⟩ = some (.int .i64 mx) ∧ W.cell? ⟨fb, 4, none⟩ = some (.int .i64 1024) ∧ W.cell? ⟨fb, 5, none⟩ = some (.int .i64 1024) ∧ W.cell? ⟨fb, 6, none⟩ = some (.int .i64 2) ∧ W.cell? ⟨fb, 7, none⟩ = some (.int .i64 1) ∧ W.cell? ⟨fb, 8, none⟩ = some (.string fo)) := Lib.hid (fun W hb => by
      have h := HFX.out.1.under hb
      exact ⟨h.cell (j := 0) rfl, h.cell (j := 1) rfl, h.cell (j := 2) rfl, h.cell (j := 3) rfl, h.cell (j := 4) rfl, h.cell (j := 5) rfl, h.cell (j := 6) rfl, h.cell (j := 7) rfl, h.cell (j := 8) rfl⟩)
    have HBc : Hid (Below w.heap.size w wa) := Lib.hid (bTrans HB2.out HFX.out.2)
    have HXc := Lib.hid (HX2.out.under HFX.out.2)
    have hS0 : Below wa.heap.size wa wa := Below.refl _ _
    obtain ⟨fe, hfe⟩ : ∃ fe, Wh.featErr (topF ⟨fo, hd, tl, nm, cs, mx⟩) = fe := ⟨_, rfl⟩
    rw [hfe] at HNb HNw
    have HFe := Lib.hid hfe
    clear hhs hfe HCF HFX HB2 HX2 HFb
    go_cut [6, 7] (fun s6 s7 wx => (∃ M : MB, s6 = ptr M.b ∧ s7 = .int .i64 0 ∧ Hid (fe = 0 ∧ MemT wx w.heap.size M ⟨topF ⟨fo, hd, tl, nm, cs, mx⟩, 5, 0, 0, tr0 M.rb M.kb⟩ ∧ Below wa.heap.size wa wx)) ∨ (s6 = .pointer none ∧ s7 = .int .i64 fe ∧ Hid (fe ≠ 0) ∧ Hid (Below wa.heap.size wa wx)))
    case first =>
      by_cases h0 : fe = 0
      case pos =>
        have hS : Below wa.heap.size wa wa := hS0
        refine wp_region_seq (Below wa.heap.size wa) [(0, true), (1, false), (2, false), (3, true), (4, true), (5, true), (6, true), (7, true)] (by as_aux_lemma => kernel_rfl) (by as_aux_lemma => kernel_rfl) (by decide) (by as_aux_lemma => kernel_rfl) (below_drewn hS) ?_
        intro OPS HO
        refine seq_take (o := ⟨_, _, _, _, _, _⟩) (v := ?_) (by rw [HO.out]; rfl) (by rfl) ?_ ?_
        rotate_left 1
        · first | ((intro W _; go_simp) <;> with_reducible rfl) | (intro W hW; obtain ⟨k0, k1, k2, k3, k4, k5, k6, k7, k8⟩ := HKf.out _ hW; (go_simp <;> with_reducible rfl))
        try simp only [Act.put, List.setIfInBounds_toArray, List.set_cons_zero, List.set_cons_succ]
        refine seq_do (o := ⟨_, _, _, _, _, _⟩) (by rw [HO.out]; rfl) (by rfl) (fun K hK => ?_)
        replace hS := below_drewn hS
        go_wp2_with (go_at_call 6; refine (HClk.out _).mono ?_; rintro e w4 ⟨rfl, hw4⟩; have hx4 : BoxIs w4 wa.heap.size #[.int .i64 5] 66 := (by rw [hw4]; exact BoxIs.new _ _ _); have hS4 : Below wa.heap.size wa w4 := (by rw [hw4]; exact bAlloc hS _); clear hw4)
        refine hK.out _ _ hS4 (fun _ => ?_)
        clear hK K
        try simp only [Act.put, List.setIfInBounds_toArray, List.set_cons_zero, List.set_cons_succ]
        have HNx := Lib.hid (fun W (hW : Below w4.heap.size w4 W) => HNw.out h0 W wa.heap.size (Nat.le_trans HBc.out.size (Nat.le_trans hS4.size hW.size)) (hx4.under hW))
        replace hS := hS4
        refine seq_do (o := ⟨_, _, _, _, _, _⟩) (by rw [HO.out]; rfl) (by rfl) (fun K hK => ?_)
        go_wp2_with (go_at_call 5; refine (HNx.out _ (Below.refl _ _)).mono ?_; rintro e w5 ⟨M, rfl, hM5, _, hb5⟩; have HM5 := Lib.hid hM5; have hS5 : Below wa.heap.size wa w5 := bTrans hS hb5; clear hM5 hb5)
        refine hK.out _ _ hS5 (fun _ => ?_)
        clear hK K
        try simp only [Act.put, List.setIfInBounds_toArray, List.set_cons_zero, List.set_cons_succ]
        refine seq_take (o := ⟨_, _, _, _, _, _⟩) (v := ?_) (by rw [HO.out]; rfl) (by rfl) ?_ ?_
        rotate_left 1
        · first | ((intro W _; go_simp) <;> with_reducible rfl) | (intro W hW; obtain ⟨k0, k1, k2, k3, k4, k5, k6, k7, k8⟩ := HKf.out _ hW; (go_simp <;> with_reducible rfl))
        try simp only [Act.put, List.setIfInBounds_toArray, List.set_cons_zero, List.set_cons_succ]
        refine seq_take (o := ⟨_, _, _, _, _, _⟩) (v := ?_) (by rw [HO.out]; rfl) (by rfl) ?_ ?_
        rotate_left 1
        · first | ((intro W _; go_simp) <;> with_reducible rfl) | (intro W hW; obtain ⟨k0, k1, k2, k3, k4, k5, k6, k7, k8⟩ := HKf.out _ hW; (go_simp <;> with_reducible rfl))
        try simp only [Act.put, List.setIfInBounds_toArray, List.set_cons_zero, List.set_cons_succ]
        refine seq_take (o := ⟨_, _, _, _, _, _⟩) (v := ?_) (by rw [HO.out]; rfl) (by rfl) ?_ ?_
        rotate_left 1
        · first | ((intro W _; go_simp) <;> with_reducible rfl) | (intro W hW; obtain ⟨k0, k1, k2, k3, k4, k5, k6, k7, k8⟩ := HKf.out _ hW; (go_simp <;> with_reducible rfl))
        try simp only [Act.put, List.setIfInBounds_toArray, List.set_cons_zero, List.set_cons_succ]
        refine seq_take (o := ⟨_, _, _, _, _, _⟩) (v := ?_) (by rw [HO.out]; rfl) (by rfl) ?_ ?_
        rotate_left 1
        · first | ((intro W _; go_simp) <;> with_reducible rfl) | (intro W hW; obtain ⟨k0, k1, k2, k3, k4, k5, k6, k7, k8⟩ := HKf.out _ hW; (go_simp <;> with_reducible rfl))
        try simp only [Act.put, List.setIfInBounds_toArray, List.set_cons_zero, List.set_cons_succ]
        refine seq_take (o := ⟨_, _, _, _, _, _⟩) (v := ?_) (by rw [HO.out]; rfl) (by rfl) ?_ ?_
        rotate_left 1
        · first | ((intro W _; go_simp) <;> with_reducible rfl) | (intro W hW; obtain ⟨k0, k1, k2, k3, k4, k5, k6, k7, k8⟩ := HKf.out _ hW; (go_simp <;> with_reducible rfl))
        try simp only [Act.put, List.setIfInBounds_toArray, List.set_cons_zero, List.set_cons_succ]
        refine seq_done ?_
        clear hx4 hS4 hS
        try clear HNx
        go_wp2_with fail
        go_meet
        exact .inl ⟨M, rfl, rfl, Lib.hid ⟨h0, HM5.out, hS5⟩⟩
      case neg =>
        have hS : Below wa.heap.size wa wa := hS0
        refine wp_region_seq (Below wa.heap.size wa) [(0, true), (1, false), (2, false), (3, true), (4, true), (5, true), (6, true), (7, true)] (by as_aux_lemma => kernel_rfl) (by as_aux_lemma => kernel_rfl) (by decide) (by as_aux_lemma => kernel_rfl) (below_drewn hS) ?_
        intro OPS HO
        refine seq_take (o := ⟨_, _, _, _, _, _⟩) (v := ?_) (by rw [HO.out]; rfl) (by rfl) ?_ ?_
        rotate_left 1
        · first | ((intro W _; go_simp) <;> with_reducible rfl) | (intro W hW; obtain ⟨k0, k1, k2, k3, k4, k5, k6, k7, k8⟩ := HKf.out _ hW; (go_simp <;> with_reducible rfl))
        try simp only [Act.put, List.setIfInBounds_toArray, List.set_cons_zero, List.set_cons_succ]
        refine seq_do (o := ⟨_, _, _, _, _, _⟩) (by rw [HO.out]; rfl) (by rfl) (fun K hK => ?_)
        replace hS := below_drewn hS
        go_wp2_with (go_at_call 6; refine (HClk.out _).mono ?_; rintro e w4 ⟨rfl, hw4⟩; have hx4 : BoxIs w4 wa.heap.size #[.int .i64 5] 66 := (by rw [hw4]; exact BoxIs.new _ _ _); have hS4 : Below wa.heap.size wa w4 := (by rw [hw4]; exact bAlloc hS _); clear hw4)
        refine hK.out _ _ hS4 (fun _ => ?_)
        clear hK K
        try simp only [Act.put, List.setIfInBounds_toArray, List.set_cons_zero, List.set_cons_succ]
        replace hS := hS4
        refine seq_do (o := ⟨_, _, _, _, _, _⟩) (by rw [HO.out]; rfl) (by rfl) (fun K hK => ?_)
        go_wp2_with (go_at_call 5; refine (HNb.out h0 _ _).mono ?_; rintro e w5 ⟨rfl, hb5⟩; have hS5 : Below wa.heap.size wa w5 := bTrans hS hb5; clear hb5)
        refine hK.out _ _ hS5 (fun _ => ?_)
        clear hK K
        try simp only [Act.put, List.setIfInBounds_toArray, List.set_cons_zero, List.set_cons_succ]
        refine seq_take (o := ⟨_, _, _, _, _, _⟩) (v := ?_) (by rw [HO.out]; rfl) (by rfl) ?_ ?_
        rotate_left 1
        · first | ((intro W _; go_simp) <;> with_reducible rfl) | (intro W hW; obtain ⟨k0, k1, k2, k3, k4, k5, k6, k7, k8⟩ := HKf.out _ hW; (go_simp <;> with_reducible rfl))
        try simp only [Act.put, List.setIfInBounds_toArray, List.set_cons_zero, List.set_cons_succ]
        refine seq_take (o := ⟨_, _, _, _, _, _⟩) (v := ?_) (by rw [HO.out]; rfl) (by rfl) ?_ ?_
        rotate_left 1
        · first | ((intro W _; go_simp) <;> with_reducible rfl) | (intro W hW; obtain ⟨k0, k1, k2, k3, k4, k5, k6, k7, k8⟩ := HKf.out _ hW; (go_simp <;> with_reducible rfl))
        try simp only [Act.put, List.setIfInBounds_toArray, List.set_cons_zero, List.set_cons_succ]
        refine seq_take (o := ⟨_, _, _, _, _, _⟩) (v := ?_) (by rw [HO.out]; rfl) (by rfl) ?_ ?_
        rotate_left 1
        · first | ((intro W _; go_simp) <;> with_reducible rfl) | (intro W hW; obtain ⟨k0, k1, k2, k3, k4, k5, k6, k7, k8⟩ := HKf.out _ hW; (go_simp <;> with_reducible rfl))
        try simp only [Act.put, List.setIfInBounds_toArray, List.set_cons_zero, List.set_cons_succ]
        refine seq_take (o := ⟨_, _, _, _, _, _⟩) (v := ?_) (by rw [HO.out]; rfl) (by rfl) ?_ ?_
        rotate_left 1
        · first | ((intro W _; go_simp) <;> with_reducible rfl) | (intro W hW; obtain ⟨k0, k1, k2, k3, k4, k5, k6, k7, k8⟩ := HKf.out _ hW; (go_simp <;> with_reducible rfl))
        try simp only [Act.put, List.setIfInBounds_toArray, List.set_cons_zero, List.set_cons_succ]
        refine seq_take (o := ⟨_, _, _, _, _, _⟩) (v := ?_) (by rw [HO.out]; rfl) (by rfl) ?_ ?_
        rotate_left 1
        · first | ((intro W _; go_simp) <;> with_reducible rfl) | (intro W hW; obtain ⟨k0, k1, k2, k3, k4, k5, k6, k7, k8⟩ := HKf.out _ hW; (go_simp <;> with_reducible rfl))
        try simp only [Act.put, List.setIfInBounds_toArray, List.set_cons_zero, List.set_cons_succ]
        refine seq_done ?_
        clear hx4 hS4 hS
        try clear HNx
        go_wp2_with fail
        go_meet
        exact .inr ⟨rfl, rfl, Lib.hid h0, Lib.hid hS5⟩
    case rest =>
      have HCt := Lib.hid hcut
      have HBd : Hid (Below wa.heap.size wa wc) := Lib.hid (by
        rcases hcut with ⟨M, _, _, h⟩ | ⟨_, _, _, h⟩
        · exact h.out.2.2
        · exact h.out)
      clear hcut HNw HNb HKf hS0 HClk
      have HBw : Hid (Below w.heap.size w wc) := Lib.hid (bTrans HBc.out HBd.out)
      have HXd := Lib.hid (HXc.out.under HBd.out)
      have HEd := Lib.hid (hE.under HBw.out)
      have HHd := Lib.hid (hH.under HBw.out)
      have HSz := Lib.hid hsz
      have HEw := Lib.hid (And.intro hE (And.intro hT (And.intro hX hfl)))
      have hLl : L.length ≤ 1048576 := by
        have : L.length ≤ (L.map (fun p => p.size + 1)).sum := by
          clear hsz hH HHd HSz
          induction L with
          | nil => exact Nat.zero_le _
          | cons q L ih =>
            rw [List.map_cons, List.sum_cons, List.length_cons]
            omega
        omega
      have HHw := Lib.hid hH
      clear hE hT hX hH hsz hfl HBd HBc HXc
      go_upto_region 9 with fail
      go_loopg [8, 47] L.length (fun gk s8 s47 wx => ∃ (i N : Nat), s47 = .int .i64 i ∧ s8 = .int .i64 N ∧ i + gk = L.length ∧ N ≤ 1048576 ∧ Hid (N = ((L.take i).map cntP).sum) ∧ wx = wc)
      case atStart => exact ⟨0, 0, rfl, rfl, by omega, by omega, Lib.hid rfl, rfl⟩
      case round =>
        obtain ⟨i, N, rfl, rfl, hig, hN, HN, hwr⟩ := hrel
        subst hwr
        by_cases hlt : i < L.length
        case pos =>
          have hltz : (i : Int) < (L.length : Int) := by omega
          obtain ⟨p, hp⟩ : ∃ p, L[i]? = some p := ⟨_, List.getElem?_eq_getElem hlt⟩
          obtain ⟨nb, off, rfl, hnb, hnc⟩ := HHd.out.at (k := i) (u := .string p) (by rw [List.getElem?_map, hp]; rfl)
          have hps := size_mem_le (List.mem_of_getElem? hp)
          have hps2 := HSz.out
          obtain ⟨mL, hmL⟩ := HEd.out
          have hct := Tryz.strings_Count_any p ⟨#[47]⟩ mL wr (by omega) hmL (by decide)
          have hN2 : Hid (N + cntP p = ((L.take (i + 1)).map cntP).sum) := Lib.hid (by
            rw [List.take_add_one, hp, List.map_append, List.sum_append, HN.out]
            simp)
          have hN3 : N + cntP p ≤ 1048576 := by
            rw [hN2.out]
            have h1 := sum_take_le cntP L (i + 1)
            have h2 := sum_cnt_le L
            omega
          obtain ⟨cb, hcb⟩ : ∃ cb, Lib.countB p ⟨#[47]⟩ = cb := ⟨_, rfl⟩
          have hcp : cntP p = 1 + cb := by unfold cntP; rw [hcb]
          rw [hcb] at hct
          rw [hcp] at hN2 hN3
          have HCn := Lib.hid hct
          clear hct hcb hcp hp hps hps2 hmL
          have hw1 : IntKind.i64.wrap ((1 : Int) + (cb : Int)) = ((1 + cb : Nat) : Int) := by rw [IntKind.wrap_i64]; omega
          obtain ⟨c1, hc1⟩ : ∃ c1, 1 + cb = c1 := ⟨_, rfl⟩
          rw [hc1] at hw1 hN2 hN3
          have hw2 : IntKind.i64.wrap ((N : Int) + (c1 : Int)) = ((N + c1 : Nat) : Int) := by rw [IntKind.wrap_i64]; omega
          obtain ⟨N2, hN2e⟩ : ∃ N2, N + c1 = N2 := ⟨_, rfl⟩
          rw [hN2e] at hw2 hN2 hN3
          clear hc1 hN2e
          go_wp2_with (go_at_call 7; refine HCn.out.mono ?_; rintro e w5 ⟨rfl, hw⟩; have hw2 := hw.symm; clear hw; subst hw2)
          go_roundg (gk - 1)
          case measure => omega
          case rel => exact ⟨i + 1, N2, by go_num, rfl, by omega, hN3, hN2, rfl⟩
        case neg =>
          have hltz : ¬ (i : Int) < (L.length : Int) := by omega
          have HNe : Hid (N = (L.map cntP).sum) := Lib.hid (by rw [HN.out, List.take_of_length_le (by omega)])
          clear HN
          rcases HCt.out with ⟨M, rfl, rfl, HMem⟩ | ⟨rfl, rfl, hfe, _⟩
          case inr =>
            have hz : (fe != 0) = true := by simpa using hfe.out
            go_wp2_with fail
            go_ret
            exact ⟨rfl, HBw.out⟩
          case inl =>
            have e0 : wr.cell? ⟨eb, 0, none⟩ = some (.string fo) := HXd.out.cell (j := 0) rfl
            have e1 : wr.cell? ⟨eb, 1, none⟩ = some (.string hd) := HXd.out.cell (j := 1) rfl
            have e2 : wr.cell? ⟨eb, 2, none⟩ = some (.string tl) := HXd.out.cell (j := 2) rfl
            have e3 : wr.cell? ⟨eb, 3, none⟩ = some (.slice a nm.length c) := HXd.out.cell (j := 3) rfl
            have e4 : wr.cell? ⟨eb, 4, none⟩ = some (.bool cs) := HXd.out.cell (j := 4) rfl
            have e5 : wr.cell? ⟨eb, 5, none⟩ = some (.int .i64 mx) := HXd.out.cell (j := 5) rfl
            have HCk : Hid (Calls Tryz.prog 8 #[.agg #[.string fo, .string hd, .string tl, .slice a nm.length c, .bool cs, .int .i64 mx]] wr fun e w' => e = .returned (.int .i64 (Wh.encErr ⟨fo, hd, tl, nm, cs, mx⟩)) ∧ Below wr.heap.size wr w') := Lib.hid (checkEnc ⟨fo, hd, tl, nm, cs, mx⟩ a c wr HEd.out (HEw.out.2.2.1.under HBw.out))
            obtain ⟨ee, hee⟩ : ∃ ee, Wh.encErr ⟨fo, hd, tl, nm, cs, mx⟩ = ee := ⟨_, rfl⟩
            rw [hee] at HCk
            have HEe := Lib.hid hee
            clear hee HCt
            by_cases hen : ee = 0
            case neg =>
              have hz : (ee != 0) = true := by simpa using hen
              go_wp2_with (go_at_call 8; refine HCk.out.mono ?_; rintro e w5 ⟨rfl, hb5⟩)
              go_ret
              exact ⟨rfl, bTrans HBw.out hb5⟩
            case pos =>
              by_cases hn4 : 4000 < N
              case pos =>
                have hn4z : (4000 : Int) < (N : Int) := by omega
                have hz : (ee != 0) = false := by simp [hen]
                go_wp2_with (go_at_call 8; refine HCk.out.mono ?_; rintro e w5 ⟨rfl, hb5⟩)
                go_ret
                exact ⟨rfl, bTrans HBw.out hb5⟩
              case neg =>
                have hn4z : ¬ (4000 : Int) < (N : Int) := by omega
                have hz : (ee != 0) = false := by simp [hen]
                go_upto_region 15 with (go_at_call 8; refine HCk.out.mono ?_; rintro e w5 ⟨rfl, hb5⟩)
                have HNz : Hid ((L.map cntP).sum ≤ 4000) := Lib.hid (by rw [← HNe.out]; omega)
                have hmm := @run_makeMap Tryz.prog
                obtain ⟨hfe0, hM0, _⟩ := HMem.out
                have hmb1 : Below w5.heap.size w5 (w5.alloc (.map #[] 0)) := bAlloc (Below.refl _ _) _
                have hmap := MapF.new w5
                have hbw5 := bTrans HBw.out hb5
                have htz : truths [] = fun _ => none := by
                  funext q
                  exact truths_out (by simp)
                have HZ0 : Hid (TopZ w ⟨fo, hd, tl, nm, cs, mx⟩ a c M eb w5.heap.size [] ⟨topF ⟨fo, hd, tl, nm, cs, mx⟩, 5, 0, 0, tr0 M.rb M.kb⟩ (w5.alloc (.map #[] 0))) := Lib.hid (by
                  refine ⟨hbw5.trans (Below.mono hmb1 hbw5.size), (hM0.below hb5).below hmb1, (HXd.out.under hb5).under hmb1, by rw [htz]; exact hmap, fun ho => ?_, ⟨Nat.le_of_eq HEb.out, hbw5.size⟩, TopI.nil _ _ _ _ _, ⟨rfl, rfl⟩, ⟨Int.le_refl _, by simp⟩, ⟨Int.le_refl _, by simp⟩⟩
                  have := (hM0.below hb5).tree.lt ho
                  omega)
                clear hmb1 hmap hbw5 htz hM0
                go_upto_region 16 with fail
                obtain ⟨mb, hmb⟩ : ∃ mb, w5.heap.size = mb := ⟨_, rfl⟩
                rw [hmb] at HZ0 ⊢
                clear hmb hmm e0 e1 e2 e3 e4 e5 hb5 HXd HHd HEd HCk HBw HMem
                generalize w5.alloc _ = w6 at *
                have hN4 : N ≤ 4000 := by omega
                have HEe2 : Hid (Wh.encErr ⟨fo, hd, tl, nm, cs, mx⟩ = 0 ∧ Wh.featErr (topF ⟨fo, hd, tl, nm, cs, mx⟩) = 0) := Lib.hid ⟨by rw [HEe.out, hen], by rw [HFe.out, hfe0]⟩
                clear hn4 hn4z hz hen hfe0 HEe HFe hig hltz hlt hN
                go_upto_region 17 with fail
                go_loopg [71] L.length (fun gk s71 wx => ∃ (j : Nat) (Wl : List ByteArray) (s : TSt), s71 = .int .i64 j ∧ j + gk = L.length ∧ Hid (TopZ w ⟨fo, hd, tl, nm, cs, mx⟩ a c M eb mb Wl s wx) ∧ Hid ((Wl.map (fun p => (Wh.namesOf p).length)).sum ≤ ((L.take j).map cntP).sum ∧ Wl.length ≤ j))
                case atStart => exact ⟨0, [], _, rfl, Nat.zero_add _, HZ0, Lib.hid ⟨Nat.le_refl _, Nat.le_refl _⟩⟩
                case round =>
                  clear HZ0
                  obtain ⟨j, Wl, s, rfl, hjg, HZ, HW⟩ := hrel
                  by_cases hlt : j < L.length
                  case neg =>
                    have hltz : ¬ (j : Int) < (L.length : Int) := by omega
                    have hcsx := HZ.out.cs
                    have hNm := HZ.out.top.named HEe2.out.1 hcsx HZ.out.mem.tree
                    have hmost : AtMost s.F 4000 := fun ls h1 h2 => Nat.le_trans (HZ.out.top.most ls h1 h2) (by
                      have h3 := HW.out.1
                      have h4 := sum_take_le cntP L j
                      have h5 := HNz.out
                      omega)
                    have hsf := HZ.out.sf.1
                    have HAl := Lib.hid (allT_any wr w M s 2 HZ.out.bel HEw.out.1 HZ.out.mem hNm hmost (by rw [hsf]; rfl) (by decide) (by rw [hsf]; rfl) (by rw [hsf]; exact (topF_bit _).2.2.2.1))
                    unfold AllT at HAl
                    have HOw := Lib.hid HZ.out.mown
                    have HGd : Hid (∀ q ∈ Wl, GoodP ⟨fo, hd, tl, nm, cs, mx⟩ q) := Lib.hid (fun q hq => HZ.out.top.good q hq)
                    have HSf := Lib.hid hsf
                    have HMo := Lib.hid hmost
                    clear hNm hmost hcsx hsf
                    go_upto_region 29 with (go_at_call 12; refine HAl.out.mono ?_; rintro e wA ⟨l, out, la2, lc2, rfl, hrows, hrd, hperm, hblk, hmA, hkA⟩)
                    have HAo : Hid (AllOk ⟨fo, hd, tl, nm, cs, mx⟩ Wl s l) := Lib.hid (allOk HEe2.out.1 HZ.out.cs HZ.out.mem.tree HZ.out.top hrd hperm)
                    have hll4 : l.length ≤ 4000 := by rw [hperm.length_eq]; exact hrd.length HMo.out
                    have HMA := Lib.hid hmA
                    have HBA : Hid (Below w.heap.size w wA) := Lib.hid (HZ.out.bel.trans (hkA.below (fun i h => h.elim (fun e => by rw [e]; exact HZ.out.mem.lo.2.1) (fun e => by rw [e]; exact HZ.out.mem.lo.2.2)) HZ.out.bel.size))
                    have hcasi : ∀ i, (i = M.ca ∨ i = M.si) → MTf M s.F i := fun i h => h.elim (fun e => .inr (.inl e)) (fun e => .inr (.inr (.inl e)))
                    have HXA : Hid (BoxIs wA eb #[.string fo, .string hd, .string tl, .slice a nm.length c, .bool cs, .int .i64 mx] 24) := Lib.hid (HZ.out.enc.kp hkA (fun h => HZ.out.eb_ne _ (hcasi _ h) rfl))
                    have HPA : Hid (MapF wA mb (truths Wl)) := Lib.hid (HZ.out.map.kp hkA (fun h => HZ.out.mb_ne _ (hcasi _ h) rfl))
                    have HRA := Lib.hid hrows
                    have HBl : Hid (∀ ad, la2 = some ad → (∀ i, MTf M s.F i → i ≠ ad.block) ∧ ad.block ≠ mb) := Lib.hid (fun ad h => by
                      have h1 := hblk ad h
                      refine ⟨fun i hi e => ?_, fun e => ?_⟩
                      · have := HZ.out.mem.lt (.inl hi)
                        omega
                      · have := HZ.out.map.lt
                        omega)
                    clear hrows hrd hperm hblk hmA hkA hcasi HAl
                    go_upto_region 30 with fail
                    go_loopg [114] l.length (fun gk s114 wx => ∃ (i : Nat) (g : ByteArray → Option Value), s114 = .int .i64 i ∧ i + gk = l.length ∧ Hid (LeftOk ⟨fo, hd, tl, nm, cs, mx⟩ Wl l i g) ∧ Hid (Below w.heap.size w wx) ∧ Hid (MemT wx w.heap.size M s) ∧ Hid (BoxIs wx eb #[.string fo, .string hd, .string tl, .slice a nm.length c, .bool cs, .int .i64 mx] 24) ∧ Hid (MapF wx mb g) ∧ Hid (HoldsR wx la2 7 (l.map Inf.row)))
                    case atStart => exact ⟨0, _, rfl, Nat.zero_add _, Lib.hid (LeftOk.start HAo.out), HBA, HMA, HXA, HPA, HRA⟩
                    case round =>
                      clear HBA HMA HXA HPA HRA
                      obtain ⟨i, g, rfl, hig, HLf, HBx, HMx, HXx, HPx, HRx⟩ := hrel
                      by_cases hlt3 : i < l.length
                      case neg =>
                        have hltz3 : ¬ (i : Int) < (l.length : Int) := by omega
                        have hlen : ∀ ty, (Builtin.len_ #[36] ty #[.map (some mb)]).run Tryz.prog wr = .ok (.int .i64 0) wr := fun ty => by
                          obtain ⟨n, h1, h2⟩ := HPx.out.len (P := Tryz.prog) Tryz.underlying36 ty
                          rw [h2.2 (HLf.out.done (by omega))] at h1
                          exact h1
                        go_wp2_with fail
                        go_ret
                        exact ⟨rfl, HBx.out⟩
                      case pos =>
                        have hltz3 : (i : Int) < (l.length : Int) := by omega
                        obtain ⟨y, hy⟩ : ∃ y, l[i]? = some y := ⟨_, List.getElem?_eq_getElem hlt3⟩
                        obtain ⟨yb, yo, rfl, hyb, hyc⟩ := HRx.out.at (k := i) (row := y.row) (by rw [List.getElem?_map, hy]; rfl)
                        have HY := Lib.hid hy
                        clear hy
                        obtain ⟨A, dd, z, t⟩ := y
                        have c0 : wr.cell? ⟨yb, yo + i * 7, none⟩ = some (.string A) := hyc 0 _ rfl
                        have c1 : wr.cell? ⟨yb, yo + i * 7 + 1, none⟩ = some (.bool dd) := hyc 1 _ rfl
                        have c2 : wr.cell? ⟨yb, yo + i * 7 + 2, none⟩ = some (.int .i64 z) := hyc 2 _ rfl
                        have c3 : wr.cell? ⟨yb, yo + i * 7 + 3, none⟩ = some (.int .i64 t) := hyc 3 _ rfl
                        have c4 : wr.cell? ⟨yb, yo + i * 7 + 4, none⟩ = some (.slice none 0 0) := hyc 4 _ rfl
                        have c5 : wr.cell? ⟨yb, yo + i * 7 + 5, none⟩ = some (.slice none 0 0) := hyc 5 _ rfl
                        have c6 : wr.cell? ⟨yb, yo + i * 7 + 6, none⟩ = some (.string ⟨#[]⟩) := hyc 6 _ rfl
                        clear hyc
                        go_upto_region 32 with fail
                        have hb5 : Below wr.heap.size wr (wr.alloc (.cells #[.string A, .bool dd, .int .i64 z, .int .i64 t, .slice none 0 0, .slice none 0 0, .string ⟨#[]⟩] 43)) := bAlloc (Below.refl _ _) _
                        have hx5 : BoxIs (wr.alloc (.cells #[.string A, .bool dd, .int .i64 z, .int .i64 t, .slice none 0 0, .slice none 0 0, .string ⟨#[]⟩] 43)) wr.heap.size #[.string A, .bool dd, .int .i64 z, .int .i64 t, .slice none 0 0, .slice none 0 0, .string ⟨#[]⟩] 43 := heap_alloc_new _ _
                        have HB5 : Hid (Below w.heap.size w _) := Lib.hid (HBx.out.trans (Below.mono hb5 HBx.out.size))
                        have HM5 := Lib.hid (HMx.out.below hb5)
                        have HX5 := Lib.hid (HXx.out.under hb5)
                        have HP5 := Lib.hid (HPx.out.kp (Kp.of (F := fun _ => False) hb5) (fun e => e))
                        have HR5 := Lib.hid (HRx.out.kp (Kp.of (F := fun _ => False) hb5) (fun _ _ e => e))
                        have HY5 := Lib.hid hx5
                        have d0 : (wr.alloc (.cells #[.string A, .bool dd, .int .i64 z, .int .i64 t, .slice none 0 0, .slice none 0 0, .string ⟨#[]⟩] 43)).cell? ⟨wr.heap.size, 0, none⟩ = some (.string A) := hx5.cell (j := 0) rfl
                        have d1 : (wr.alloc (.cells #[.string A, .bool dd, .int .i64 z, .int .i64 t, .slice none 0 0, .slice none 0 0, .string ⟨#[]⟩] 43)).cell? ⟨wr.heap.size, 1, none⟩ = some (.bool dd) := hx5.cell (j := 1) rfl
                        have hnw : w.heap.size ≤ wr.heap.size := HBx.out.size
                        have HNn : Hid (∀ i, (MTf M s.F i ∨ i = M.cb) → i ≠ wr.heap.size) := Lib.hid (fun i hi e => by have := HMx.out.lt hi; omega)
                        obtain ⟨nx, hnx⟩ : ∃ nx, wr.heap.size = nx := ⟨_, rfl⟩
                        rw [hnx] at d0 d1 HY5 HNn ⊢
                        clear hb5 hx5 c0 c1 c2 c3 c4 c5 c6 hnx hyb hnw HBx HMx HXx HPx HRx
                        generalize wr.alloc _ = w5 at *
                        have HLo := Lib.hid HZ.out.lo.2
                        clear HZ
                        cases dd with
                        | true =>
                          have HLn := Lib.hid (HLf.out.skip HY.out rfl)
                          go_wp2_with fail
                          go_roundg (gk - 1)
                          case measure => omega
                          case rel => exact ⟨i + 1, g, by go_num, by omega, HLn, HB5, HM5, HX5, HP5, HR5⟩
                        | false =>
                          obtain ⟨p, n, hpW, hpa, hF, hnd, hda⟩ := HAo.out.file _ (List.mem_of_getElem? HY.out) rfl
                          have hgp := HGd.out p hpW
                          have hA : A = Wh.encText ⟨fo, hd, tl, nm, cs, mx⟩ p := hpa
                          have hdec := hgp.decode HEe2.out.1
                          have hok := hgp.ok HEe2.out.1
                          have hkeys := hgp.keys s.f
                          rw [← hA] at hdec hok hkeys
                          have hps := Wh.path_size hgp.path
                          have hpm : p.size ≤ maxLen := Nat.le_trans hps (by decide)
                          have HDe : Hid (∀ W, Below w.heap.size w W → Calls Tryz.prog 13 #[.agg #[.string fo, .string hd, .string tl, .slice a nm.length c, .bool cs, .int .i64 mx], .string A] W fun e w' => e = .returned (.tuple #[.string p, .int .i64 0]) ∧ Below W.heap.size W w') := Lib.hid (fun W hb => by
                            have := decode_path ⟨fo, hd, tl, nm, cs, mx⟩ a c A W (HEw.out.1.under hb) (HEw.out.2.2.1.under hb) HEe2.out.1 hok.err
                            rw [hdec.1, hdec.2] at this
                            exact this)
                          have HWh : Hid (∀ W, Below w.heap.size w W → MemT W w.heap.size M s → Calls Tryz.prog 14 #[.iface 28 (ptr M.b), .string A] W fun e w' => e = .returned (.tuple #[.string p, .int .i64 0]) ∧ MemT w' w.heap.size M s ∧ Kp (MTf M s.F) W w') := Lib.hid (fun W hb hm => by
                            have := wholeT_any w W M s A n (by rw [hda]; omega) HEw.out.1 hb hm hok.size (by rw [hkeys]; exact hF) hnd (fun W' hb' => isFileT_ok (topF ⟨fo, hd, tl, nm, cs, mx⟩) A W' (HEw.out.1.under hb') hok)
                            rw [hda] at this
                            exact this)
                          have HLn := Lib.hid (HLf.out.take HAo.out HGd.out HY.out rfl hpW hpa)
                          have HGv : Hid (g p = some (.bool true)) := Lib.hid ((HLf.out.iff p).2 ⟨hpW, _, by rw [drop_split HY.out]; exact List.mem_cons_self, rfl, hpa⟩)
                          have e0 : w5.cell? ⟨eb, 0, none⟩ = some (.string fo) := HX5.out.cell (j := 0) rfl
                          have e1 : w5.cell? ⟨eb, 1, none⟩ = some (.string hd) := HX5.out.cell (j := 1) rfl
                          have e2 : w5.cell? ⟨eb, 2, none⟩ = some (.string tl) := HX5.out.cell (j := 2) rfl
                          have e3 : w5.cell? ⟨eb, 3, none⟩ = some (.slice a nm.length c) := HX5.out.cell (j := 3) rfl
                          have e4 : w5.cell? ⟨eb, 4, none⟩ = some (.bool cs) := HX5.out.cell (j := 4) rfl
                          have e5 : w5.cell? ⟨eb, 5, none⟩ = some (.int .i64 mx) := HX5.out.cell (j := 5) rfl
                          clear hpW hpa hF hnd hda hgp hA hdec hok hkeys hps
                          go_wp2_with (first
                            | (go_at_call 13; refine (HDe.out _ HB5.out).mono ?_; rintro e w6 ⟨rfl, hb6⟩; have d6 : w6.cell? ⟨nx, 0, none⟩ = some (.string A) := (HY5.out.under hb6).cell (j := 0) rfl; have HB6 := Lib.hid (HB5.out.trans (Below.mono hb6 HB5.out.size)); have HM6 := Lib.hid (HM5.out.below hb6); have HX6 := Lib.hid (HX5.out.under hb6); have HP6 := Lib.hid (HP5.out.kp (Kp.of (F := fun _ => False) hb6) (fun e => e)); have HR6 := Lib.hid (HR5.out.kp (Kp.of (F := fun _ => False) hb6) (fun _ _ e => e)); clear hb6)
                            | (go_at_call 14; refine (HWh.out _ HB6.out HM6.out).mono ?_; rintro e w7 ⟨rfl, hm7, hk7⟩; have HM7 := Lib.hid hm7; have HP7 := Lib.hid (HP6.out.kp hk7 (fun h => HM6.out.ne_map HP6.out HOw.out _ (.inl h) rfl)); have HX7 := Lib.hid (HX6.out.kp hk7 (HM6.out.ne_enc HX6.out)); have HR7 := Lib.hid (HR6.out.kp hk7 (fun ad e h => (HBl.out ad e).1 _ h rfl)); have HB7 := Lib.hid (HB6.out.trans (hk7.below (fun i h => HM6.out.mf h) HB6.out.size)); have hlk : (Instr.lookup 36 (.map (some mb)) (.string p) false).run Tryz.prog w7 = .ok (.bool true) w7 := (by have h9 := HP7.out.look (P := Tryz.prog) (key := p) Tryz.underlying9 hpm Tryz.underlying36 (zeroBoolT w7); rw [HGv.out] at h9; exact h9); obtain ⟨w8, hdl, hw8a, hw8b⟩ := HP7.out.drop (P := Tryz.prog) (key := p) Tryz.underlying9 hpm Tryz.underlying36 0; have HW8 := Lib.hid (And.intro hw8a hw8b); clear hm7 hk7 hw8a hw8b))
                          go_roundg (gk - 1)
                          case measure => omega
                          case rel =>
                          obtain ⟨hw8a, hw8b⟩ := HW8.out
                          refine ⟨i + 1, _, by go_num, by omega, HLn, Lib.hid (HB7.out.trans (hw8b.below (fun i e => by rw [e]; exact HLo.out) HB7.out.size)), Lib.hid (HM7.out.kp hw8b (fun i hi e => HM7.out.ne_map HP7.out HOw.out i hi e)), Lib.hid (HX7.out.kp hw8b (fun e => HX7.out.ne_f HP7.out e)), Lib.hid hw8a, Lib.hid (HR7.out.kp hw8b (fun ad e h => (HBl.out ad e).2 h))⟩
                  case pos =>
                    have hltz : (j : Int) < (L.length : Int) := by omega
                    obtain ⟨p, hp⟩ : ∃ p, L[j]? = some p := ⟨_, List.getElem?_eq_getElem hlt⟩
                    obtain ⟨nb, off, rfl, hnb, hnc⟩ := (HHw.out.under HZ.out.bel).at (k := j) (u := .string p) (by rw [List.getElem?_map, hp]; rfl)
                    have HEx := HZ.out.enc
                    have e0 : wr.cell? ⟨eb, 0, none⟩ = some (.string fo) := HEx.cell (j := 0) rfl
                    have e1 : wr.cell? ⟨eb, 1, none⟩ = some (.string hd) := HEx.cell (j := 1) rfl
                    have e2 : wr.cell? ⟨eb, 2, none⟩ = some (.string tl) := HEx.cell (j := 2) rfl
                    have e3 : wr.cell? ⟨eb, 3, none⟩ = some (.slice a nm.length c) := HEx.cell (j := 3) rfl
                    have e4 : wr.cell? ⟨eb, 4, none⟩ = some (.bool cs) := HEx.cell (j := 4) rfl
                    have e5 : wr.cell? ⟨eb, 5, none⟩ = some (.int .i64 mx) := HEx.cell (j := 5) rfl
                    have hps := size_mem_le (List.mem_of_getElem? hp)
                    have hps2 := HSz.out
                    have HEn : Hid (Calls Tryz.prog 9 #[.agg #[.string fo, .string hd, .string tl, .slice a nm.length c, .bool cs, .int .i64 mx], .string p] wr fun e w' => e = .returned (.tuple #[.string (encGives ⟨fo, hd, tl, nm, cs, mx⟩ p), .int .i64 (encCode ⟨fo, hd, tl, nm, cs, mx⟩ p)]) ∧ Below wr.heap.size wr w') := Lib.hid (encode_any ⟨fo, hd, tl, nm, cs, mx⟩ a c p wr (HEw.out.1.under HZ.out.bel) (HEw.out.2.2.1.under HZ.out.bel) (by omega))
                    have HPs := Lib.hid (show p.size ≤ 1048576 by omega)
                    have HSt : Hid (((L.take (j + 1)).map cntP).sum = ((L.take j).map cntP).sum + cntP p ∧ ((L.take (j + 1)).map cntP).sum ≤ 4000 ∧ j < 4000) := Lib.hid (by
                      have h1 : ((L.take (j + 1)).map cntP).sum = ((L.take j).map cntP).sum + cntP p := by rw [List.take_add_one, hp, List.map_append, List.sum_append]; simp
                      have h2 := sum_take_le cntP L (j + 1)
                      have h3 := HNz.out
                      have h4 : ∀ M : List ByteArray, M.length ≤ (M.map cntP).sum := fun M => by
                        induction M with
                        | nil => exact Nat.zero_le _
                        | cons q M ih =>
                          rw [List.map_cons, List.sum_cons, List.length_cons]
                          have : 1 ≤ cntP q := by unfold cntP; omega
                          omega
                      have h5 := h4 L
                      exact ⟨h1, by omega, by omega⟩)
                    have HCc : Hid (encCode ⟨fo, hd, tl, nm, cs, mx⟩ p = 0 → p.toList.isEmpty = false → GoodP ⟨fo, hd, tl, nm, cs, mx⟩ p ∧ encGives ⟨fo, hd, tl, nm, cs, mx⟩ p = Wh.encText ⟨fo, hd, tl, nm, cs, mx⟩ p) := Lib.hid (fun h1 h2 => code_good h1 h2)
                    obtain ⟨ec, hec⟩ : ∃ ec, encCode ⟨fo, hd, tl, nm, cs, mx⟩ p = ec := ⟨_, rfl⟩
                    obtain ⟨eg, heg⟩ : ∃ eg, encGives ⟨fo, hd, tl, nm, cs, mx⟩ p = eg := ⟨_, rfl⟩
                    rw [hec, heg] at HEn
                    rw [hec, heg] at HCc
                    have HWn : Hid ((Wl.map (fun p => (Wh.namesOf p).length)).sum ≤ ((L.take (j + 1)).map cntP).sum ∧ Wl.length ≤ j + 1) := Lib.hid ⟨by have := HSt.out.1; have := HW.out.1; omega, by have := HW.out.2; omega⟩
                    clear hec heg hps hps2 hp HEx
                    by_cases hec0 : ec = 0
                    case neg =>
                      have hz : (ec != 0) = true := by simpa using hec0
                      go_wp2_with (go_at_call 9; refine HEn.out.mono ?_; rintro e w7 ⟨rfl, hb7⟩)
                      go_roundg (gk - 1)
                      case measure => omega
                      case rel => exact ⟨j + 1, Wl, s, by go_num, by omega, Lib.hid (HZ.out.under hb7), HWn⟩
                    case pos =>
                      have hz : (ec != 0) = false := by simp [hec0]
                      cases hpe : p.toList.isEmpty with
                      | true =>
                        go_wp2_with (go_at_call 9; refine HEn.out.mono ?_; rintro e w7 ⟨rfl, hb7⟩)
                        go_roundg (gk - 1)
                        case measure => omega
                        case rel => exact ⟨j + 1, Wl, s, by go_num, by omega, Lib.hid (HZ.out.under hb7), HWn⟩
                      | false =>
                        obtain ⟨hgp, heg⟩ := HCc.out hec0 hpe
                        have HEg := Lib.hid heg
                        clear heg
                        have HGp := Lib.hid hgp
                        have HCl : Hid (∀ W, Below wr.heap.size wr W → Calls Tryz.prog 10 #[.map (some mb), .string p] W fun e w' => ∃ r : Bool, e = .returned (.bool r) ∧ (r = false → ∀ q v, truths Wl q = some v → under p q = false ∧ under q p = false) ∧ Below W.heap.size W w') := Lib.hid (fun W hb => clashes_any W mb (truths Wl) p (HZ.out.under hb).map (fun q v hq => Wh.path_size (HZ.out.top.good q (truths_mem hq)).path) (Wh.path_size hgp.path))
                        clear hgp HCc
                        go_upto_if 91 with (first
                          | (go_at_call 9; refine HEn.out.mono ?_; rintro e w7 ⟨rfl, hb7⟩; have HB7 := Lib.hid hb7; clear hb7)
                          | (go_at_call 10; refine (HCl.out _ HB7.out).mono ?_; rintro e w8 ⟨r, rfl, hr, hb8⟩; have HB8 := Lib.hid (bTrans HB7.out hb8); have HRr := Lib.hid hr; clear hb8 hr))
                        have HZ8 := Lib.hid (HZ.out.under HB8.out)
                        cases r with
                        | true =>
                          go_wp2_with fail
                          go_roundg (gk - 1)
                          case measure => omega
                          case rel => exact ⟨j + 1, Wl, s, by go_num, by omega, HZ8, HWn⟩
                        | false =>
                          have hno : NoClash (fun q => q ∈ Wl) p := fun q hq => HRr.out rfl q _ (truths_in hq)
                          have HPt : Hid (Calls Tryz.prog 11 #[ptr M.b, .string eg, .string p, .int .i64 0, .slice none 0 0] w8 (PutZ2 w ⟨fo, hd, tl, nm, cs, mx⟩ a c M eb mb Wl p)) := Lib.hid (by
                            rw [HEg.out]
                            refine HZ8.out.put HEw.out.1 HEw.out.2.1 HEe2.out.1 HEe2.out.2 HEw.out.2.2.2 HGp.out hno ?_ (by have := HW.out.2; have := HSt.out.2.2; omega)
                            rw [List.map_cons, List.sum_cons]
                            have h1 := names_le_cnt p
                            have h2 := HSt.out
                            have h3 := HW.out.1
                            omega)
                          unfold PutZ2 at HPt
                          have hpm : p.size ≤ maxLen := Nat.le_trans HPs.out (by decide)
                          have hlo := HZ8.out.lo
                          clear hno HRr
                          go_upto_region 22 with (go_at_call 11; refine HPt.out.mono ?_; rintro e w9 ⟨A, t, s', rfl, hb9, hm9, hx9, hmp9, hmo9, htop9, hsf9, hcnt9, hmade9⟩)
                          have hb10 : Below w9.heap.size w9 (w9.alloc (.cells #[.string A, .bool false, .int .i64 p.size, .int .i64 t, .slice none 0 0, .slice none 0 0, .string ⟨#[]⟩] 43)) := bAlloc (Below.refl _ _) _
                          have HMp := Lib.hid (hmp9.kp (Kp.of (F := fun _ => False) hb10) (fun e => e))
                          have HSp : Hid (∀ W2, MapF W2 mb (upd (truths Wl) p (some (.bool true))) → Kp (fun i => i = mb) (w9.alloc (.cells #[.string A, .bool false, .int .i64 p.size, .int .i64 t, .slice none 0 0, .slice none 0 0, .string ⟨#[]⟩] 43)) W2 → TopZ w ⟨fo, hd, tl, nm, cs, mx⟩ a c M eb mb (p :: Wl) s' W2) := Lib.hid (fun W2 h1 h2 => TopZ.step hlo hb9 hm9 hx9 hmp9 hmo9 htop9 hsf9 hcnt9 hmade9 hb10 h1 h2)
                          clear hb9 hm9 hx9 hmp9 hmo9 htop9 hsf9 hcnt9 hmade9 hb10 hlo
                          generalize w9.alloc (.cells #[.string A, .bool false, .int .i64 p.size, .int .i64 t, .slice none 0 0, .slice none 0 0, .string ⟨#[]⟩] 43) = w10 at *
                          go_wp2_with (at_mapUpdate; refine wpList_mapUpdate_f w10 HMp.out rfl _ _ _ _ rfl Tryz.underlying9 hpm Tryz.underlying36 rfl rfl _ rfl (fun w11 hw11a hw11b => ?_))
                          go_roundg (gk - 1)
                          case measure => omega
                          case rel =>
                            refine ⟨j + 1, p :: Wl, s', by go_num, by omega, Lib.hid (HSp.out _ hw11a hw11b), Lib.hid ⟨?_, ?_⟩⟩
                            · rw [List.map_cons, List.sum_cons]
                              have h1 := names_le_cnt p
                              have h2 := HSt.out.1
                              have h3 := HW.out.1
                              omega
                            · rw [List.length_cons]
                              have := HW.out.2
                              omega
end Go.Proofs.YtikegddlbelfaaaGreatDoor
