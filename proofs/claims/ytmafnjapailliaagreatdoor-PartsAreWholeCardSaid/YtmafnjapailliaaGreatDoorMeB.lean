/-
  The texts Me6, Me7, Me8, in one.
-/
import Derived.Test.YtmafnjapailliaaGreatDoorMe5
namespace Go.Proofs.YtmafnjapailliaaGreatDoor
open Go.RowKit

/-- From one state of the store's blocks to another one. -/
structure Goes (M M' : MB) (w w' : World) : Prop where
  b : M'.b = M.b
  cb : M'.cb = M.cb
  rb : M'.rb = M.rb
  kp : Kp (MF M) w w'
  mf : ∀ i, MF M' i → MF M i ∨ w.heap.size ≤ i
  nb : M.nb < w.heap.size → M'.nb < w'.heap.size
theorem Goes.refl (M : MB) (w : World) : Goes M M w w := ⟨rfl, rfl, rfl, Kp.refl _ _, fun _ h => .inl h, fun h => h⟩
theorem Goes.of {M : MB} {w w' : World} (hb : Below w.heap.size w w') : Goes M M w w' := ⟨rfl, rfl, rfl, Kp.of hb, fun _ h => .inl h, fun h => Nat.lt_of_lt_of_le h hb.size⟩
theorem Goes.same {M : MB} {F : Nat → Prop} {w w' : World} (hk : Kp F w w') (hF : ∀ i, F i → MF M i) : Goes M M w w' := ⟨rfl, rfl, rfl, hk.mono hF, fun _ h => .inl h, fun h => Nat.lt_of_lt_of_le h hk.size⟩
theorem Goes.trans {M M' M'' : MB} {w w' w'' : World} (h : Goes M M' w w') (k : Goes M' M'' w' w'') : Goes M M'' w w'' :=
  ⟨k.b.trans h.b, k.cb.trans h.cb, k.rb.trans h.rb, h.kp.chain k.kp h.mf, fun i hi => (k.mf i hi).elim (h.mf i) (fun e => .inr (Nat.le_trans h.kp.size e)), fun e => k.nb (h.nb e)⟩
theorem Goes.below {w0 w w' : World} {A : ByteArray} {M M' : MB} {s : MSt} (h : Goes M M' w w') (hM : MemAt w w0.heap.size A M s) (hb : Below w0.heap.size w0 w) : Below w0.heap.size w0 w' := hM.from hb h.kp

theorem Goes.versions {M : MB} {ra : Option Addr} {cap : Nat} {w w' : World} (hk : Kp (fun i => i = M.mb ∨ i = M.vb ∨ Go.Proofs.YtmafnjapailliaaGreatDoor.rb M.ra i) w w') (hr : ∀ i, Go.Proofs.YtmafnjapailliaaGreatDoor.rb ra i → Go.Proofs.YtmafnjapailliaaGreatDoor.rb M.ra i ∨ w.heap.size ≤ i) : Goes M { M with ra := ra, cap := cap } w w' := by
  refine ⟨rfl, rfl, rfl, hk.mono ?_, ?_, fun h => Nat.lt_of_lt_of_le h hk.size⟩
  · rintro i (e | e | e)
    · exact .inr (.inr (.inr (.inr (.inr (.inl e)))))
    · exact .inr (.inr (.inr (.inr (.inl e))))
    · exact .inr (.inr (.inr (.inr (.inr (.inr (.inr e))))))
  · rintro i (e | e | e | e | e | e | e | e)
    · exact .inl (.inl e)
    · exact .inl (.inr (.inl e))
    · exact .inl (.inr (.inr (.inl e)))
    · exact .inl (.inr (.inr (.inr (.inl e))))
    · exact .inl (.inr (.inr (.inr (.inr (.inl e)))))
    · exact .inl (.inr (.inr (.inr (.inr (.inr (.inl e))))))
    · exact .inl (.inr (.inr (.inr (.inr (.inr (.inr (.inl e)))))))
    · rcases hr i e with e | e
      · exact .inl (.inr (.inr (.inr (.inr (.inr (.inr (.inr e)))))))
      · exact .inr e
theorem Goes.node {M : MB} {nb : Nat} {w w' : World} {o : Obj} (hn : nb = w.heap.size) (hk : Kp (fun i => i = nb ∨ i = M.kb ∨ i = M.b) (w.alloc o) w') : Goes M { M with nb := nb } w w' := by
  have hal : Below w.heap.size w (w.alloc o) := bAlloc (Below.refl _ _) _
  refine ⟨rfl, rfl, rfl, ⟨hk.os.trans hal.os, hk.tape.trans hal.tape, hk.output.trans hal.output, Nat.le_trans hal.size hk.size, fun k hlt hF => ?_⟩, ?_, fun _ => Nat.lt_of_lt_of_le (show nb < (w.alloc o).heap.size by simp; omega) hk.size⟩
  · refine (hk.block k (Nat.lt_of_lt_of_le hlt hal.size) ?_).trans (hal.block k hlt)
    rintro (e | e | e)
    · omega
    · exact hF (.inr (.inl e))
    · exact hF (.inl e)
  · rintro i (e | e | e | e | e | e | e | e)
    · exact .inl (.inl e)
    · exact .inl (.inr (.inl e))
    · exact .inl (.inr (.inr (.inl e)))
    · exact .inl (.inr (.inr (.inr (.inl e))))
    · exact .inl (.inr (.inr (.inr (.inr (.inl e)))))
    · exact .inl (.inr (.inr (.inr (.inr (.inr (.inl e))))))
    · exact .inr (by rw [e]; exact Nat.le_of_eq hn.symm)
    · exact .inl (.inr (.inr (.inr (.inr (.inr (.inr (.inr e)))))))
/-- The file's contents change. -/
theorem MemAt.refile {w w' : World} {B : Nat} {A : ByteArray} {M : MB} {s : MSt} {c c' : FileSt} (h : MemAt w B A M s) (hc : s.cur = some c) (hk : Kp (fun i => i = M.nb) w w') (h1 : BoxIs w' M.nb (nodeArr A false (some ⟨M.rb, 0, none⟩) none c'.data c'.time c'.id) 174) :
    MemAt w' B A M { s with cur := some c' } := by
  have hap := h.apart
  have hn := hap.nb (by rw [hc]; simp)
  refine ⟨?_, h.clk.kp hk hn.2.1, h.root.kp hk hn.2.2.1, ?_, h.ca.kp hk hn.2.2.2.2.1, h.si.kp hk hn.2.2.2.2.2.1, fun c2 hc2 => ?_, h.nums.kp hk hn.2.2.2.2.2.2.2.1, h.vers.kp hk hn.2.2.2.2.2.2.1, h.row.kp hk (fun i hi e => hn.2.2.2.2.2.2.2.2 (e ▸ hi)), h.lo, h.ne1, h.ne2⟩
  · have h9 := h.box.kp hk hn.1
    rw [show s.cnt = 1 by unfold MSt.cnt; rw [hc]; rfl] at h9
    exact h9
  · have h9 := h.kids.kp hk hn.2.2.2.1
    rw [hc] at h9
    exact h9
  · injection hc2 with hc2
    subst hc2
    exact h1
/-- One more file was made. -/
theorem MemAt.remade {w : World} {B : Nat} {A : ByteArray} {M : MB} {s : MSt} (h : MemAt w B A M s) (n : Nat) : MemAt (w.setCell ⟨M.b, 12, none⟩ (.int .i64 n)) B A M { s with made := n } := by
  have hap := h.apart
  have hk : Kp (fun i => i = M.b) w (w.setCell ⟨M.b, 12, none⟩ (.int .i64 n)) := (Kp.refl (fun i => i = M.b) w).set (b := M.b) (.inl rfl) 12 _
  refine ⟨BoxIs.putAt h.box 12 (.int .i64 n), h.clk.kp hk (fun e => hap.b.1 e.symm), h.root.kp hk (fun e => hap.b.2.1 e.symm), h.kids.kp hk (fun e => hap.b.2.2.1 e.symm), h.ca.kp hk (fun e => hap.b.2.2.2.1 e.symm), h.si.kp hk (fun e => hap.b.2.2.2.2.1 e.symm), fun c hc => (h.file c hc).kp hk (fun e => (hap.nb (by rw [hc]; simp)).1 e.symm), h.nums.kp hk (fun e => hap.b.2.2.2.2.2.2.1 e.symm), h.vers.kp hk (fun e => hap.b.2.2.2.2.2.1 e.symm), h.row.kp hk (fun i hi e => hap.b.2.2.2.2.2.2.2 (e ▸ hi)), h.lo, h.ne1, h.ne2⟩

/-- What a Put makes of the store. -/
def MSt.put (s : MSt) (d : ByteArray) (t : Int) : MSt := match s.cur with
  | none => { s with made := s.made + 1, cur := some ⟨d, t, numS ((s.made + 1 : Nat) : Int)⟩ }
  | some c => { s.kept c with cur := some ⟨d, t, c.id⟩ }
/-- What is asked of the store's state. -/
structure StOk (s : MSt) : Prop where
  made : s.made ≤ 1000000
  num : s.num ≤ 1000000
  vers : s.vers.length ≤ 20
  has : s.cur ≠ none → hasB s.f 1024 = true
def SetPost (w0 : World) (A : ByteArray) (M : MB) (s : MSt) (d : ByteArray) (t : Int) (w : World) (e : Ending) (w' : World) : Prop :=
  ∃ M', e = .returned (ptr M'.nb) ∧ MemAt w' w0.heap.size A M' (s.put d t) ∧ Goes M M' w w'

/-- The end of setFile: the contents are stored. -/
theorem set_end {w0 : World} {A : ByteArray} {M M' : MB} {s s' : MSt} {c : FileSt} {d : ByteArray} {t : Int} {w w1 : World} (hM : MemAt w1 w0.heap.size A M' s') (hc : s'.cur = some c) (hg : Goes M M' w w1) (hs : s.put d t = { s' with cur := some ⟨d, t, c.id⟩ }) :
    SetPost w0 A M s d t w (.returned (ptr M'.nb)) (((w1.setCell ⟨M'.nb, 4, none⟩ (.string d)).setCell ⟨M'.nb, 5, none⟩ (.int .i64 t)).setCell ⟨M'.nb, 6, none⟩ (.slice none 0 0)) ∧
      ((((w1.setCell ⟨M'.nb, 4, none⟩ (.string d)).setCell ⟨M'.nb, 5, none⟩ (.int .i64 t)).setCell ⟨M'.nb, 6, none⟩ (.slice none 0 0)).cell? ⟨M'.nb, 6, none⟩ = some (.slice none 0 0)) ∧
      ((((w1.setCell ⟨M'.nb, 4, none⟩ (.string d)).setCell ⟨M'.nb, 5, none⟩ (.int .i64 t)).setCell ⟨M'.nb, 6, none⟩ (.slice none 0 0)).frozen? ⟨M'.nb, 6, none⟩ = false) ∧
      ((((w1.setCell ⟨M'.nb, 4, none⟩ (.string d)).setCell ⟨M'.nb, 5, none⟩ (.int .i64 t)).setCell ⟨M'.nb, 6, none⟩ (.slice none 0 0)).cell? ⟨M'.b, 0, none⟩ = some (.int .i64 s'.f.has)) ∧
      SetPost w0 A M s d t w (.returned (ptr M'.nb)) ((((w1.setCell ⟨M'.nb, 4, none⟩ (.string d)).setCell ⟨M'.nb, 5, none⟩ (.int .i64 t)).setCell ⟨M'.nb, 6, none⟩ (.slice none 0 0)).setCell ⟨M'.nb, 6, none⟩ (.slice none 0 0)) := by
  have hf := hM.file c hc
  have hk : Kp (fun i => i = M'.nb) w1 (((w1.setCell ⟨M'.nb, 4, none⟩ (.string d)).setCell ⟨M'.nb, 5, none⟩ (.int .i64 t)).setCell ⟨M'.nb, 6, none⟩ (.slice none 0 0)) := (((Kp.refl (fun i => i = M'.nb) w1).set (b := M'.nb) (.inl rfl) 4 (.string d)).set (b := M'.nb) (.inl rfl) 5 (.int .i64 t)).set (b := M'.nb) (.inl rfl) 6 (.slice none 0 0)
  have hx : BoxIs (((w1.setCell ⟨M'.nb, 4, none⟩ (.string d)).setCell ⟨M'.nb, 5, none⟩ (.int .i64 t)).setCell ⟨M'.nb, 6, none⟩ (.slice none 0 0)) M'.nb (nodeArr A false (some ⟨M'.rb, 0, none⟩) none d t c.id) 174 := BoxIs.putAt (BoxIs.putAt (BoxIs.putAt hf 4 (.string d)) 5 (.int .i64 t)) 6 (.slice none 0 0)
  have hm : ∀ i, i = M'.nb → MF M' i := fun i e => .inr (.inr (.inr (.inr (.inr (.inr (.inl e))))))
  have h1 := hM.refile (c' := ⟨d, t, c.id⟩) hc hk hx
  rw [← hs] at h1
  refine ⟨⟨M', rfl, h1, hg.trans (Goes.same hk hm)⟩, hx.cell (j := 6) rfl, Lib.frozen_of_heap hx 6, (hM.refile (c' := ⟨d, t, c.id⟩) hc hk hx).has, ⟨M', rfl, ?_, hg.trans (Goes.same (hk.set (b := M'.nb) (.inl rfl) 6 (.slice none 0 0)) hm)⟩⟩
  rw [hs]
  exact hM.refile (c' := ⟨d, t, c.id⟩) hc (hk.set (b := M'.nb) (.inl rfl) 6 (.slice none 0 0)) (BoxIs.putAt hx 6 (.slice none 0 0))

set_option maxHeartbeats 4000000 in
set_option maxRecDepth 100000 in
theorem setFile_any (w0 : World) (T : Tabs) (A : ByteArray) (M : MB) (s : MSt) (d : ByteArray) (t : Int) (w : World) (hG : Gr w0 T) (hb0 : Below w0.heap.size w0 w) (hM : MemAt w w0.heap.size A M s) (hA : PathA A) (hs : StOk s) :
    Calls Tryz.prog 86 #[ptr M.b, .string A, .string d, .int .i64 t, .slice none 0 0] w (SetPost w0 A M s d t w) := by
  have hE := hG.env.below hb0 (Nat.le_refl _)
  have HF := Lib.hid (find_any w w0.heap.size A M s hM hA hE)
  have HCl := Lib.hid cloneM_nil
  cases hcu : s.cur with
  | some c =>
    rw [show nodeP M s = some ⟨M.nb, 0, none⟩ by unfold nodeP; rw [hcu]; rfl] at HF
    have HK := Lib.hid (fun W (hb : Below w.heap.size w W) => keep_any W w0.heap.size A M s c (hM.below hb) hcu hA (hs.has (by rw [hcu]; simp)) hs.num hs.vers (Nat.le_trans hb0.size hb.size))
    clear hM hs
    go_enter Tryz.func86, Tryz.ntmps86
    go_upto_region 6 with (first | (go_at_call 82; refine HF.out.mono ?_; rintro e w1 ⟨rfl, hb1⟩) | (go_at_call 31; refine (HK.out _ hb1).mono ?_; rintro e w2 ⟨rfl, ra2, cap2, hm2, hk2, hr2⟩))
    have hg2 : Goes M { M with ra := ra2, cap := cap2 } w w2 := (Goes.of hb1).trans (Goes.versions hk2 hr2)
    have hc2 : (s.kept c).cur = some c := hcu
    have hset : s.put d t = { s.kept c with cur := some ⟨d, t, c.id⟩ } := by unfold MSt.put; rw [hcu]
    obtain ⟨E1, E2, E3, E4, E5⟩ := set_end hm2 hc2 hg2 hset
    have hf2 := hm2.file c hc2
    have y4 : w2.cell? ⟨M.nb, 4, none⟩ = some (.string c.data) := hf2.cell (j := 4) rfl
    have y5 : w2.cell? ⟨M.nb, 5, none⟩ = some (.int .i64 c.time) := hf2.cell (j := 5) rfl
    have y6 : w2.cell? ⟨M.nb, 6, none⟩ = some (.slice none 0 0) := hf2.cell (j := 6) rfl
    have g4 : w2.frozen? ⟨M.nb, 4, none⟩ = false := Lib.frozen_of_heap hf2 4
    have g5 : w2.frozen? ⟨M.nb, 5, none⟩ = false := Lib.frozen_of_heap hf2 5
    have g6 : w2.frozen? ⟨M.nb, 6, none⟩ = false := Lib.frozen_of_heap hf2 6
    have HE1 := Lib.hid E1
    have HE5 := Lib.hid E5
    have HHs := Lib.hid (has_any M.b s.f 256 _ E4)
    generalize hasB s.f 256 = q at HHs
    clear HF HK hm2 hk2 hr2 hg2 hf2 hset E1 E5 hb1
    go_upto_region 7 with fail
    clear y4 y5 y6 g4 g5 g6
    simp only [] at E2 E3 E4 HE1 HE5 HHs
    generalize World.setCell (World.setCell _ _ _) _ _ = w3 at *
    cases q
    · go_wp2_with (go_at_call 36; refine HHs.out.mono ?_; rintro e w' ⟨rfl, hw⟩; (have hw2 := hw.symm; clear hw; subst hw2))
      go_ret
      exact HE1.out
    · go_wp2_with (first | (go_at_call 36; refine HHs.out.mono ?_; rintro e w' ⟨rfl, hw⟩; (have hw2 := hw.symm; clear hw; subst hw2)) | (go_at_call 40; refine (HCl.out _).mono ?_; rintro e w' ⟨rfl, hw⟩; (have hw2 := hw.symm; clear hw; subst hw2)))
      go_ret
      exact HE5.out
  | none =>
    rw [show nodeP M s = none by unfold nodeP; rw [hcu]; rfl] at HF
    obtain ⟨n1, hn1⟩ : ∃ n1, n1 = s.made + 1 := ⟨_, rfl⟩
    have hmd := hs.made
    have e1 : wrap64 ((s.made : Int) + 1) = (n1 : Int) := by rw [IntWalk.wrap64_in _ ⟨by omega, by omega⟩]; omega
    have e2 : (s.made : Int) + 1 = (n1 : Int) := by omega
    have e3 : wrap64 (n1 : Int) = (n1 : Int) := IntWalk.wrap64_in _ ⟨by omega, by omega⟩
    have HN1 := Lib.hid hn1
    have HIt := Lib.hid (fun W (hb : Below w0.heap.size w0 W) => itoa_any (n1 : Int) W (Lib.tabBelow_of_tabIs hG.pow W hb) (by omega) (by omega))
    have HM := Lib.hid hM
    have HA := Lib.hid hA
    clear hM hs hA hmd hn1
    go_enter Tryz.func86, Tryz.ntmps86
    go_upto_region 3 with (go_at_call 82; refine HF.out.mono ?_; rintro e w1 ⟨rfl, hb1⟩)
    have HM1 := Lib.hid (HM.out.below hb1)
    have c12 := HM1.out.madec
    have f12 : w1.frozen? ⟨M.b, 12, none⟩ = false := Lib.frozen_of_heap HM1.out.box 12
    have HG1 : Hid (Goes M M w w1) := Lib.hid (Goes.of hb1)
    clear hb1
    go_upto_region 4 with fail
    have HM2 : Hid (MemAt (w1.setCell ⟨M.b, 12, none⟩ (.int .i64 n1)) w0.heap.size A M { s with made := n1 }) := Lib.hid (HM1.out.remade n1)
    have HG2 : Hid (Goes M M w (w1.setCell ⟨M.b, 12, none⟩ (.int .i64 n1))) := Lib.hid (HG1.out.trans (Goes.same (F := fun i => i = M.b) ((Kp.refl (fun i => i = M.b) w1).set (b := M.b) (.inl rfl) 12 _) (fun i e => .inl e)))
    clear c12 f12 HM1 HG1
    generalize w1.setCell ⟨M.b, 12, none⟩ (.int .i64 n1) = w2 at *
    have hb2 : Below w0.heap.size w0 w2 := HG2.out.below HM.out hb0
    have hb2d : Below w0.heap.size w0 w2.drew := below_drewn hb2
    have HGr := Lib.hid (grow_any w2.drew w0.heap.size A M { s with made := n1 } HM2.out.drew HA.out (hG.env.below hb2d (Nat.le_refl _)))
    have HLa := Lib.hid (fun W => last_any A W HA.out)
    have s12 : w2.drew.cell? ⟨M.b, 12, none⟩ = some (.int .i64 n1) := HM2.out.madec
    obtain ⟨z0, hz0⟩ : ∃ z0, z0 = w2.heap.size := ⟨_, rfl⟩
    --R4
    refine wp_region_seq (fun W => W.cell? ⟨M.b, 12, none⟩ = some (.int .i64 n1)) [(0, true), (1, true), (2, true), (4, true), (6, true), (7, true), (8, true), (9, true), (3, false), (5, false), (10, false), (11, true), (12, false), (13, false), (14, true)] (by as_aux_lemma => kernel_rfl) (by as_aux_lemma => kernel_rfl) (by decide) (by as_aux_lemma => kernel_rfl) s12 ?_
    intro OPS HO
    refine seq_take (o := ⟨_, _, _, _, _, _⟩) (v := ?_) (by rw [HO.out]; rfl) (by rfl) ?_ ?_
    rotate_left 1
    · first | ((intro W _; go_simp) <;> with_reducible rfl) | (intro W hW; skip; (go_simp <;> with_reducible rfl))
    try simp only [Act.put, List.setIfInBounds_toArray, List.set_cons_zero, List.set_cons_succ]
    refine seq_take (o := ⟨_, _, _, _, _, _⟩) (v := ?_) (by rw [HO.out]; rfl) (by rfl) ?_ ?_
    rotate_left 1
    · first | ((intro W _; go_simp) <;> with_reducible rfl) | (intro W hW; skip; (go_simp <;> with_reducible rfl))
    try simp only [Act.put, List.setIfInBounds_toArray, List.set_cons_zero, List.set_cons_succ]
    refine seq_take (o := ⟨_, _, _, _, _, _⟩) (v := ?_) (by rw [HO.out]; rfl) (by rfl) ?_ ?_
    rotate_left 1
    · first | ((intro W _; go_simp) <;> with_reducible rfl) | (intro W hW; skip; (go_simp <;> with_reducible rfl))
    try simp only [Act.put, List.setIfInBounds_toArray, List.set_cons_zero, List.set_cons_succ]
    refine seq_take (o := ⟨_, _, _, _, _, _⟩) (v := ?_) (by rw [HO.out]; rfl) (by rfl) ?_ ?_
    rotate_left 1
    · first | ((intro W _; go_simp) <;> with_reducible rfl) | (intro W hW; skip; (go_simp <;> with_reducible rfl))
    try simp only [Act.put, List.setIfInBounds_toArray, List.set_cons_zero, List.set_cons_succ]
    refine seq_take (o := ⟨_, _, _, _, _, _⟩) (v := ?_) (by rw [HO.out]; rfl) (by rfl) ?_ ?_
    rotate_left 1
    · first | ((intro W _; go_simp) <;> with_reducible rfl) | (intro W hW; skip; (go_simp <;> with_reducible rfl))
    try simp only [Act.put, List.setIfInBounds_toArray, List.set_cons_zero, List.set_cons_succ]
    refine seq_take (o := ⟨_, _, _, _, _, _⟩) (v := ?_) (by rw [HO.out]; rfl) (by rfl) ?_ ?_
    rotate_left 1
    · first | ((intro W _; go_simp) <;> with_reducible rfl) | (intro W hW; skip; (go_simp <;> with_reducible rfl))
    try simp only [Act.put, List.setIfInBounds_toArray, List.set_cons_zero, List.set_cons_succ]
    refine seq_take (o := ⟨_, _, _, _, _, _⟩) (v := ?_) (by rw [HO.out]; rfl) (by rfl) ?_ ?_
    rotate_left 1
    · first | ((intro W _; go_simp) <;> with_reducible rfl) | (intro W hW; skip; (go_simp <;> with_reducible rfl))
    try simp only [Act.put, List.setIfInBounds_toArray, List.set_cons_zero, List.set_cons_succ]
    refine seq_take (o := ⟨_, _, _, _, _, _⟩) (v := ?_) (by rw [HO.out]; rfl) (by rfl) ?_ ?_
    rotate_left 1
    · first | ((intro W _; go_simp) <;> with_reducible rfl) | (intro W hW; skip; (go_simp <;> with_reducible rfl))
    try simp only [Act.put, List.setIfInBounds_toArray, List.set_cons_zero, List.set_cons_succ]
    refine seq_do (o := ⟨_, _, _, _, _, _⟩) (by rw [HO.out]; rfl) (by rfl) (fun K hK => ?_)
    go_wp2_with (go_at_call 137; refine HGr.out.mono ?_; rintro e w3 ⟨rfl, hb3⟩)
    have hS : w3.cell? ⟨M.b, 12, none⟩ = some (.int .i64 n1) := cell_kp (Kp.of (F := fun _ => False) hb3) s12 (fun e => e)
    refine hK.out _ _ hS (fun _ => ?_)
    clear hK K
    try simp only [Act.put, List.setIfInBounds_toArray, List.set_cons_zero, List.set_cons_succ]
    refine seq_do (o := ⟨_, _, _, _, _, _⟩) (by rw [HO.out]; rfl) (by rfl) (fun K hK => ?_)
    go_wp2_with (go_at_call 138; refine (HLa.out _).mono ?_; rintro e w' ⟨rfl, hw⟩; (have hw2 := hw.symm; clear hw; subst hw2))
    refine hK.out _ _ hS (fun _ => ?_)
    clear hK K
    try simp only [Act.put, List.setIfInBounds_toArray, List.set_cons_zero, List.set_cons_succ]
    refine seq_do (o := ⟨_, _, _, _, _, _⟩) (by rw [HO.out]; rfl) (by rfl) (fun K hK => ?_)
    have hbw3 : Below w0.heap.size w0 w3 := hb2d.trans (Below.mono hb3 hb2d.size)
    go_wp2_with (go_at_call 139; refine (HIt.out _ hbw3).mono ?_; rintro e w4 ⟨rfl, hb4⟩)
    have hS2 : w4.cell? ⟨M.b, 12, none⟩ = some (.int .i64 n1) := cell_kp (Kp.of (F := fun _ => False) hb4) hS (fun e => e)
    replace hS := hS2
    clear hS2
    refine hK.out _ _ hS (fun _ => ?_)
    clear hK K
    try simp only [Act.put, List.setIfInBounds_toArray, List.set_cons_zero, List.set_cons_succ]
    refine seq_take (o := ⟨_, _, _, _, _, _⟩) (v := ?_) (by rw [HO.out]; rfl) (by rfl) ?_ ?_
    rotate_left 1
    · first | ((intro W _; go_simp) <;> with_reducible rfl) | (intro W hW; skip; (go_simp <;> with_reducible rfl))
    try simp only [Act.put, List.setIfInBounds_toArray, List.set_cons_zero, List.set_cons_succ]
    refine seq_do (o := ⟨_, _, _, _, _, _⟩) (by rw [HO.out]; rfl) (by rfl) (fun K hK => ?_)
    go_wp2_with fail
    have hS2 : (w4.alloc (.cells (nodeArr A false none none ⟨#[]⟩ 0 (numS (n1 : Int))) 174)).cell? ⟨M.b, 12, none⟩ = some (.int .i64 n1) := cell_kp (Kp.of (F := fun _ => False) (bAlloc (Below.refl _ _) _)) hS (fun e => e)
    replace hS := hS2
    clear hS2
    refine hK.out _ _ hS (fun _ => ?_)
    clear hK K
    try simp only [Act.put, List.setIfInBounds_toArray, List.set_cons_zero, List.set_cons_succ]
    refine seq_do (o := ⟨_, _, _, _, _, _⟩) (by rw [HO.out]; rfl) (by rfl) (fun K hK => ?_)
    obtain ⟨z, hz⟩ : ∃ z, z = w4.heap.size := ⟨_, rfl⟩
    have hal : Below w4.heap.size w4 (w4.alloc (.cells (nodeArr A false none none ⟨#[]⟩ 0 (numS (n1 : Int))) 174)) := bAlloc (Below.refl _ _) _
    have hM4 := ((HM2.out.drew.below hb3).below hb4).below hal
    have hNd : BoxIs (w4.alloc (.cells (nodeArr A false none none ⟨#[]⟩ 0 (numS (n1 : Int))) 174)) z (nodeArr A false none none ⟨#[]⟩ 0 (numS (n1 : Int))) 174 := by
      rw [hz]
      exact heap_alloc_new _ _
    have hGn : ∀ w', Kp (fun i => i = z ∨ i = M.kb ∨ i = M.b) (w4.alloc (.cells (nodeArr A false none none ⟨#[]⟩ 0 (numS (n1 : Int))) 174)) w' → Goes M { M with nb := z } w4 w' := fun w' h => Goes.node hz h
    have hlow : w0.heap.size ≤ z := by rw [hz]; exact Nat.le_trans hbw3.size hb4.size
    rw [← hz]
    obtain ⟨wa, hwa⟩ : ∃ wa, wa = (w4.alloc (.cells (nodeArr A false none none ⟨#[]⟩ 0 (numS (n1 : Int))) 174)) := ⟨_, rfl⟩
    rw [← hwa] at hM4 hNd hGn hS ⊢
    clear hwa hal
    obtain ⟨id1, hid1⟩ : ∃ id1, id1 = numS (n1 : Int) := ⟨_, rfl⟩
    rw [← hid1] at hNd ⊢
    have HId := Lib.hid hid1
    clear hid1
    have HAd := Lib.hid (add_any wa w0.heap.size A M { s with made := n1 } z ⟨⟨#[]⟩, 0, id1⟩ hM4 hcu hNd hlow HA.out)
    have HGn := Lib.hid hGn
    clear hM4 hNd hGn hz
    go_wp2_with (go_at_call 136; refine HAd.out.mono ?_; rintro e w6 ⟨rfl, hm6, hk6⟩)
    have hS2 : w6.cell? ⟨M.b, 12, none⟩ = some (.int .i64 n1) := hm6.madec
    replace hS := hS2
    clear hS2
    refine hK.out _ _ hS (fun _ => ?_)
    clear hK K
    try simp only [Act.put, List.setIfInBounds_toArray, List.set_cons_zero, List.set_cons_succ]
    refine seq_take (o := ⟨_, _, _, _, _, _⟩) (v := ?_) (by rw [HO.out]; rfl) (by rfl) ?_ ?_
    rotate_left 1
    · first | ((intro W _; go_simp) <;> with_reducible rfl) | (intro W hW; skip; (go_simp <;> with_reducible rfl))
    try simp only [Act.put, List.setIfInBounds_toArray, List.set_cons_zero, List.set_cons_succ]
    refine seq_done ?_
    --ENDR4
    have HM6 := Lib.hid hm6
    have HG6 : Hid (Goes M { M with nb := z } w w6) := Lib.hid (HG2.out.trans ((Goes.of (bTrans (Below.undrew hb3) hb4)).trans (HGn.out _ hk6)))
    have hc6 : ({ ({ s with made := n1 } : MSt) with cur := some ⟨⟨#[]⟩, 0, id1⟩ } : MSt).cur = some ⟨⟨#[]⟩, 0, id1⟩ := rfl
    have hset : s.put d t = { ({ ({ s with made := n1 } : MSt) with cur := some ⟨⟨#[]⟩, 0, id1⟩ } : MSt) with cur := some ⟨d, t, id1⟩ } := by
      unfold MSt.put
      rw [hcu, HId.out, HN1.out]
    clear hm6 hk6 hb3 hb4 hS s12 hb2 hb2d HGr HLa HIt HM2 HG2 HF HM
    obtain ⟨E1, E2, E3, E4, E5⟩ := set_end HM6.out hc6 HG6.out hset
    have hf2 := HM6.out.file _ hc6
    have y4 : w6.cell? ⟨z, 4, none⟩ = some (.string ⟨#[]⟩) := hf2.cell (j := 4) rfl
    have y5 : w6.cell? ⟨z, 5, none⟩ = some (.int .i64 0) := hf2.cell (j := 5) rfl
    have y6 : w6.cell? ⟨z, 6, none⟩ = some (.slice none 0 0) := hf2.cell (j := 6) rfl
    have g4 : w6.frozen? ⟨z, 4, none⟩ = false := Lib.frozen_of_heap hf2 4
    have g5 : w6.frozen? ⟨z, 5, none⟩ = false := Lib.frozen_of_heap hf2 5
    have g6 : w6.frozen? ⟨z, 6, none⟩ = false := Lib.frozen_of_heap hf2 6
    have HE1 := Lib.hid E1
    have HE5 := Lib.hid E5
    have HHs := Lib.hid (has_any M.b s.f 256 _ E4)
    generalize hasB s.f 256 = q at HHs
    clear HM6 HG6 hf2 hset E1 E5
    go_upto_region 7 with fail
    clear y4 y5 y6 g4 g5 g6
    simp only [] at E2 E3 E4 HE1 HE5 HHs
    generalize World.setCell (World.setCell _ _ _) _ _ = w3 at *
    cases q
    · go_wp2_with (go_at_call 36; refine HHs.out.mono ?_; rintro e w' ⟨rfl, hw⟩; (have hw2 := hw.symm; clear hw; subst hw2))
      go_ret
      exact HE1.out
    · go_wp2_with (first | (go_at_call 36; refine HHs.out.mono ?_; rintro e w' ⟨rfl, hw⟩; (have hw2 := hw.symm; clear hw; subst hw2)) | (go_at_call 40; refine (HCl.out _).mono ?_; rintro e w' ⟨rfl, hw⟩; (have hw2 := hw.symm; clear hw; subst hw2)))
      go_ret
      exact HE5.out
end Go.Proofs.YtmafnjapailliaaGreatDoor
namespace Go.Proofs.YtmafnjapailliaaGreatDoor
open Go.RowKit Wh.Sha

theorem MemAt.mfl {w : World} {B : Nat} {A : ByteArray} {M : MB} {s : MSt} (h : MemAt w B A M s) (hnb : M.nb < w.heap.size) {i : Nat} (hi : MF M i ∨ i = M.cb ∨ i = M.rb) : i < w.heap.size := by
  obtain ⟨ac, hac, _⟩ := h.ca
  obtain ⟨asi, has, _⟩ := h.si
  obtain ⟨om, hom, _⟩ := h.nums
  obtain ⟨ov, hov, _⟩ := h.vers
  rcases hi with (e | e | e | e | e | e | e | e) | e | e
  · rw [e]; exact h.box.lt
  · rw [e]; exact h.kids.lt
  · rw [e]; exact hac.lt
  · rw [e]; exact has.lt
  · rw [e]; exact hov.lt
  · rw [e]; exact hom.lt
  · rw [e]; exact hnb
  · exact (h.row.base i e).2
  · rw [e]; exact h.clk.lt
  · rw [e]; exact h.root.lt
/-- An Info is stored into its block. -/
def set7 (w : World) (b : Nat) (A : ByteArray) (d : Bool) (n t : Int) (v : Value) (id : ByteArray) : World :=
  ((((((w.setCell ⟨b, 0, none⟩ (.string A)).setCell ⟨b, 1, none⟩ (.bool d)).setCell ⟨b, 2, none⟩ (.int .i64 n)).setCell ⟨b, 3, none⟩ (.int .i64 t)).setCell ⟨b, 4, none⟩ v).setCell ⟨b, 5, none⟩ (.slice none 0 0)).setCell ⟨b, 6, none⟩ (.string id)
theorem set7_kp {F : Nat → Prop} {w0 w : World} (h : Kp F w0 w) {b : Nat} (hb : F b ∨ w0.heap.size ≤ b) (A : ByteArray) (d : Bool) (n t : Int) (v : Value) (id : ByteArray) : Kp F w0 (set7 w b A d n t v id) := by
  have h0 := h.set hb 0 (.string A)
  have h1 := h0.set hb 1 (.bool d)
  have h2 := h1.set hb 2 (.int .i64 n)
  have h3 := h2.set hb 3 (.int .i64 t)
  have h4 := h3.set hb 4 v
  have h5 := h4.set hb 5 (.slice none 0 0)
  exact h5.set hb 6 (.string id)
theorem set7_box {w : World} {b : Nat} {A0 id0 : ByteArray} {d0 : Bool} {n0 t0 : Int} {v0 : Value} (h : BoxIs w b (infoArr A0 d0 n0 t0 v0 id0) 42) (A : ByteArray) (d : Bool) (n t : Int) (v : Value) (id : ByteArray) : BoxIs (set7 w b A d n t v id) b (infoArr A d n t v id) 42 := by
  have h0 : BoxIs (w.setCell ⟨b, 0, none⟩ (.string A)) b (infoArr A d0 n0 t0 v0 id0) 42 := BoxIs.putAt h 0 (.string A)
  have h1 : BoxIs ((w.setCell ⟨b, 0, none⟩ (.string A)).setCell ⟨b, 1, none⟩ (.bool d)) b (infoArr A d n0 t0 v0 id0) 42 := BoxIs.putAt h0 1 (.bool d)
  have h2 : BoxIs (((w.setCell ⟨b, 0, none⟩ (.string A)).setCell ⟨b, 1, none⟩ (.bool d)).setCell ⟨b, 2, none⟩ (.int .i64 n)) b (infoArr A d n t0 v0 id0) 42 := BoxIs.putAt h1 2 (.int .i64 n)
  have h3 : BoxIs ((((w.setCell ⟨b, 0, none⟩ (.string A)).setCell ⟨b, 1, none⟩ (.bool d)).setCell ⟨b, 2, none⟩ (.int .i64 n)).setCell ⟨b, 3, none⟩ (.int .i64 t)) b (infoArr A d n t v0 id0) 42 := BoxIs.putAt h2 3 (.int .i64 t)
  have h4 : BoxIs (((((w.setCell ⟨b, 0, none⟩ (.string A)).setCell ⟨b, 1, none⟩ (.bool d)).setCell ⟨b, 2, none⟩ (.int .i64 n)).setCell ⟨b, 3, none⟩ (.int .i64 t)).setCell ⟨b, 4, none⟩ v) b (infoArr A d n t v id0) 42 := BoxIs.putAt h3 4 v
  have h5 : BoxIs ((((((w.setCell ⟨b, 0, none⟩ (.string A)).setCell ⟨b, 1, none⟩ (.bool d)).setCell ⟨b, 2, none⟩ (.int .i64 n)).setCell ⟨b, 3, none⟩ (.int .i64 t)).setCell ⟨b, 4, none⟩ v).setCell ⟨b, 5, none⟩ (.slice none 0 0)) b (infoArr A d n t v id0) 42 := BoxIs.putAt h4 5 (.slice none 0 0)
  have h6 : BoxIs (((((((w.setCell ⟨b, 0, none⟩ (.string A)).setCell ⟨b, 1, none⟩ (.bool d)).setCell ⟨b, 2, none⟩ (.int .i64 n)).setCell ⟨b, 3, none⟩ (.int .i64 t)).setCell ⟨b, 4, none⟩ v).setCell ⟨b, 5, none⟩ (.slice none 0 0)).setCell ⟨b, 6, none⟩ (.string id)) b (infoArr A d n t v id) 42 := BoxIs.putAt h5 6 (.string id)
  exact h6

/-- What is asked of the features, beside. -/
structure FOk (f : Wh.Feat) (A : ByteArray) : Prop where
  a : FeatA f A
  prec : 1 ≤ f.prec ∧ f.prec ≤ 9223372036854775807
  size : f.maxSize ≤ 1048576
/-- What put returns. -/
def PutPost (w0 : World) (T : Tabs) (A : ByteArray) (M : MB) (s : MSt) (d : ByteArray) (t : Int) (w : World) (e : Ending) (w' : World) : Prop :=
  ∃ M' sa n sc, e = .returned (.tuple #[.agg (infoArr A false d.size (tOf s t) (.slice sa n sc) (if hasB s.f 512 then ((s.put d (tOf s t)).cur.map FileSt.id).getD ⟨#[]⟩ else ⟨#[]⟩)), .int .i64 0]) ∧ (sumRows T s.f.sums d.data.toList 5).length = n ∧ RowG 256 2 w' w.heap.size sa sc (sumRows T s.f.sums d.data.toList 5) ∧ MemAt w' w0.heap.size A M' (s.put d (tOf s t)) ∧ Goes M M' w w'
theorem put_f (s : MSt) (d : ByteArray) (t : Int) : (s.put d t).f = s.f := by unfold MSt.put MSt.kept; cases s.cur <;> rfl
theorem put_now (s : MSt) (d : ByteArray) (t : Int) : (s.put d t).now = s.now := by unfold MSt.put MSt.kept; cases s.cur <;> rfl
theorem put_cur (s : MSt) (d : ByteArray) (t : Int) : ∃ id, (s.put d t).cur = some ⟨d, t, id⟩ := by unfold MSt.put MSt.kept; cases s.cur <;> exact ⟨_, rfl⟩

set_option maxHeartbeats 2000000 in
set_option maxRecDepth 100000 in
theorem put_any (w0 : World) (T : Tabs) (A : ByteArray) (M : MB) (s : MSt) (d : ByteArray) (t : Int) (w : World) (hG : Gr w0 T) (hb0 : Below w0.heap.size w0 w) (hM : MemAt w w0.heap.size A M s) (hnb : M.nb < w.heap.size) (hA : PathA A) (hs : StOk s) (hf : FOk s.f A) (hd : (d.size : Int) ≤ s.f.maxSize)
    (ht : -9223372036854775808 ≤ t ∧ t ≤ 9223372036854775807) (hn : -9223372036854775808 ≤ s.now ∧ s.now ≤ 9223372036854775807) :
    Calls Tryz.prog 35 #[ptr M.b, .string A, .string d, .int .i64 t, .slice none 0 0] w (PutPost w0 T A M s d t w) := by
  have HPF := Lib.hid (fun W (hb : Below w.heap.size w W) => putFault_any d.size W w0.heap.size A M s hd (hM.below hb) hA (hG.env.below (hb0.trans (Below.mono hb hb0.size)) (Nat.le_refl _)))
  have HTo := Lib.hid (fun W (hb : Below w.heap.size w W) => timeOf_any t W w0.heap.size A M s (hM.below hb) ht hn hf.prec)
  have HSf := Lib.hid (fun W (hb : Below w.heap.size w W) => setFile_any w0 T A M s d (tOf s t) W hG (hb0.trans (Below.mono hb hb0.size)) (hM.below hb) hA hs)
  have HM := Lib.hid hM
  have HMl := Lib.hid (fun i (hi : MF M i ∨ i = M.cb ∨ i = M.rb) => hM.mfl hnb hi)
  have hdz : d.size ≤ 1048576 := by have := hf.size; omega
  obtain ⟨id, hid⟩ := put_cur s d (tOf s t)
  have HIn := Lib.hid (fun W M' (hb : Below w0.heap.size w0 W) (h : MemAt W w0.heap.size A M' (s.put d (tOf s t))) => info_any w0 T A M' (s.put d (tOf s t)) ⟨d, tOf s t, id⟩ W hG hb h hid hdz)
  unfold InfoPost at HIn
  rw [put_f] at HIn
  obtain ⟨idv, hidv⟩ : ∃ idv, (if hasB s.f 512 then id else (⟨#[]⟩ : ByteArray)) = idv := ⟨_, rfl⟩
  simp only [hidv] at HIn
  have HId : Hid ((if hasB s.f 512 then ((s.put d (tOf s t)).cur.map FileSt.id).getD ⟨#[]⟩ else (⟨#[]⟩ : ByteArray)) = idv) := Lib.hid (by rw [hid, ← hidv]; rfl)
  have HB0 := Lib.hid hb0
  have hx1 : BoxIs (w.alloc (.cells (infoArr ⟨#[]⟩ false 0 0 (.slice none 0 0) ⟨#[]⟩) 42)) w.heap.size (infoArr ⟨#[]⟩ false 0 0 (.slice none 0 0) ⟨#[]⟩) 42 := heap_alloc_new _ _
  have hb1 : Below w.heap.size w (w.alloc (.cells (infoArr ⟨#[]⟩ false 0 0 (.slice none 0 0) ⟨#[]⟩) 42)) := bAlloc (Below.refl _ _) _
  clear hM hs hf hd ht hn hb0 hid hidv
  go_enter Tryz.func35, Tryz.ntmps35
  go_upto_region 1 with fail
  obtain ⟨rz, hrz⟩ : ∃ rz, rz = w.heap.size := ⟨_, rfl⟩
  rw [← hrz] at hx1 ⊢
  have HRz := Lib.hid hrz
  have HX1 := Lib.hid hx1
  have HB1 := Lib.hid hb1
  clear hrz hx1 hb1
  generalize w.alloc _ = w1 at *
  go_upto_region 4 with (go_at_call 37; refine (HPF.out _ HB1.out).mono ?_; rintro e w2 ⟨rfl, hb2⟩)
  have HB2 := Lib.hid (bTrans HB1.out hb2)
  have HX2 := Lib.hid (HX1.out.under hb2)
  clear hb2 HX1 HB1 HPF
  have HTo2 := Lib.hid (HTo.out w2 HB2.out)
  have HSf2 := Lib.hid (HSf.out w2 HB2.out)
  obtain ⟨tt, htt⟩ : ∃ tt, tOf s t = tt := ⟨_, rfl⟩
  have HTt := Lib.hid htt
  rw [htt] at HTo2 HSf2 HIn HId
  clear HTo HSf htt
  have HGz : Hid (∀ (M' : MB) (W : World), Goes M M' w2 W → BoxIs W rz (infoArr ⟨#[]⟩ false 0 0 (.slice none 0 0) ⟨#[]⟩) 42 ∧ Below w0.heap.size w0 W) := Lib.hid (fun M' W hg =>
    ⟨HX2.out.kp hg.kp (fun e => by have := HMl.out _ (.inl e); rw [← HRz.out] at this; omega), hg.below (HM.out.below HB2.out) (HB0.out.trans (Below.mono HB2.out HB0.out.size))⟩)
  go_wp2_with (first
    | (go_at_call 87; refine HTo2.out.mono ?_; rintro e w' ⟨rfl, hw⟩; (have hw2 := hw.symm; clear hw; subst hw2))
    | (go_at_call 86; refine HSf2.out.mono ?_; rintro e w3 ⟨M', rfl, hm3, hg3⟩; have HM3 := Lib.hid hm3; have HG3 := Lib.hid hg3; have HX3 := Lib.hid (HGz.out M' w3 hg3); have HIn3 := Lib.hid (HIn.out w3 M' HX3.out.2 hm3); have hMb := hg3.b; clear hm3 hg3)
    | (rw [← hMb]; go_at_call 85; refine HIn3.out.mono ?_; rintro e w4 ⟨sa, n, sc, rfl, hl, hr, hb4⟩; have HX4 := Lib.hid (HX3.out.1.under hb4); have HLn := Lib.hid hl; have HR4 := Lib.hid hr; have HB4 := Lib.hid hb4; clear hl hr hb4; obtain ⟨⟨p0, p1, p2, p3, p4, p5, p6⟩, f0, f1, f2, f3, f4, f5, f6⟩ := info_room HX4.out))
  have hend : PutPost w0 T A M s d t w (.returned (.tuple #[.agg (infoArr A false d.size tt (.slice sa n sc) idv), .int .i64 0])) (set7 w4 rz A false d.size tt (.slice sa n sc) idv) := by
    refine ⟨M', sa, n, sc, ?_, HLn.out, ?_, ?_, ?_⟩
    · rw [HTt.out, HId.out]
    · refine (HR4.out.lower ?_).kp (F := fun i => i = rz) (set7_kp (Kp.refl (fun i => i = rz) w4) (.inl rfl) _ _ _ _ _ _) (fun i hi e => HR4.out.ne HX4.out (by decide) (e ▸ hi))
      exact Nat.le_trans HB2.out.size HG3.out.kp.size
    · rw [HTt.out]
      refine (HM3.out.below HB4.out).kp (F := fun i => i = rz) (set7_kp (Kp.refl (fun i => i = rz) w4) (.inl rfl) _ _ _ _ _ _) (fun i hi e => ?_)
      have hz2 := HX2.out.lt
      rcases hi with hi | hi | hi
      · rcases HG3.out.mf i hi with h | h
        · have := HMl.out _ (.inl h)
          rw [← HRz.out] at this
          omega
        · omega
      · rw [HG3.out.cb] at hi
        have := HMl.out _ (.inr (.inl rfl))
        rw [← HRz.out] at this
        omega
      · rw [HG3.out.rb] at hi
        have := HMl.out _ (.inr (.inr rfl))
        rw [← HRz.out] at this
        omega
    · have hg := (Goes.of HB2.out).trans (HG3.out.trans (Goes.of HB4.out))
      have hk := set7_kp hg.kp (b := rz) (.inr (by rw [HRz.out]; exact Nat.le_refl _)) A false d.size tt (.slice sa n sc) idv
      refine ⟨hg.b, hg.cb, hg.rb, hk, hg.mf, fun h => ?_⟩
      have h2 := hg.nb h
      have h3 : (set7 w4 rz A false d.size tt (.slice sa n sc) idv).heap.size = w4.heap.size := by simp [set7, World.setCell]
      omega
  unfold set7 at hend
  try simp only [Exit.inBlock, Exit.then]
  refine bodyPost_ret (v := .tuple #[.agg (infoArr A false d.size tt (.slice sa n sc) idv), .int .i64 0]) ?_ rfl hend
  clear hend
  simp [results, Tryz.f35]
  go_simp
end Go.Proofs.YtmafnjapailliaaGreatDoor
namespace Go.Proofs.YtmafnjapailliaaGreatDoor
open Go.RowKit Wh.Sha

theorem Goes.counted {M : MB} {w w' : World} (hk : Kp (fun i => i = M.ca ∨ i = M.si) w w') : Goes M M w w' :=
  Goes.same hk (fun _i e => e.elim (fun e => .inr (.inr (.inl e))) (fun e => .inr (.inr (.inr (.inl e)))))

set_option maxHeartbeats 2000000 in
set_option maxRecDepth 100000 in
theorem putC_any (w0 : World) (T : Tabs) (A : ByteArray) (M : MB) (s : MSt) (d : ByteArray) (t : Int) (w : World) (hG : Gr w0 T) (hb0 : Below w0.heap.size w0 w) (hM : MemAt w w0.heap.size A M s) (hnb : M.nb < w.heap.size) (hA : PathA A) (hs : StOk s) (hf : FOk s.f A) (hd : (d.size : Int) ≤ s.f.maxSize)
    (ht : -9223372036854775808 ≤ t ∧ t ≤ 9223372036854775807) (hn : -9223372036854775808 ≤ s.now ∧ s.now ≤ 9223372036854775807) :
    Calls Tryz.prog 12 #[ptr M.b, .string A, .string d, .int .i64 t, .slice none 0 0] w (PutPost w0 T A M s d t w) := by
  have HCa := Lib.hid (fun W (hb : Below w.heap.size w W) => call_any 3 (by decide) W w0.heap.size A M s (hM.below hb))
  have HNw := Lib.hid (fun W (hb : Below w0.heap.size w0 W) (h : MemAt W w0.heap.size A M s) => isNew_any M.b s.f A W hA (hG.env.below hb (Nat.le_refl _)) hf.a h.feats)
  have HPu := Lib.hid (fun W (hb : Below w0.heap.size w0 W) (h : MemAt W w0.heap.size A M s) (hz : M.nb < W.heap.size) => put_any w0 T A M s d t W hG hb h hz hA hs hf hd ht hn)
  unfold PutPost at HPu
  have HM := Lib.hid hM
  have HMl := Lib.hid (fun i (hi : MF M i ∨ i = M.cb ∨ i = M.rb) => hM.mfl hnb hi)
  have HB0 := Lib.hid hb0
  obtain ⟨idv, hidv⟩ : ∃ idv, (if hasB s.f 512 then ((s.put d (tOf s t)).cur.map FileSt.id).getD ⟨#[]⟩ else (⟨#[]⟩ : ByteArray)) = idv := ⟨_, rfl⟩
  simp only [hidv] at HPu
  have HId := Lib.hid hidv
  have hx1 : BoxIs (w.alloc (.cells (infoArr ⟨#[]⟩ false 0 0 (.slice none 0 0) ⟨#[]⟩) 42)) w.heap.size (infoArr ⟨#[]⟩ false 0 0 (.slice none 0 0) ⟨#[]⟩) 42 := heap_alloc_new _ _
  have hb1 : Below w.heap.size w (w.alloc (.cells (infoArr ⟨#[]⟩ false 0 0 (.slice none 0 0) ⟨#[]⟩) 42)) := bAlloc (Below.refl _ _) _
  clear hM hs hf hd ht hn hb0 hidv
  go_enter Tryz.func12, Tryz.ntmps12
  go_upto_region 1 with fail
  obtain ⟨rz, hrz⟩ : ∃ rz, rz = w.heap.size := ⟨_, rfl⟩
  rw [← hrz] at hx1 ⊢
  have HRz := Lib.hid hrz
  have HX1 := Lib.hid hx1
  have HB1 := Lib.hid hb1
  clear hrz hx1 hb1
  generalize w.alloc _ = w1 at *
  go_upto_region 2 with (go_at_call 33; refine (HCa.out _ HB1.out).mono ?_; rintro e w2 ⟨rfl, hm2, hk2, hz2⟩)
  have HG2 : Hid (Goes M M w w2) := Lib.hid ((Goes.of HB1.out).trans (Goes.counted hk2))
  have HX2 := Lib.hid (HX1.out.kp hk2 (fun e => e.elim (fun e => by have := HMl.out _ (.inl (.inr (.inr (.inl e)))); rw [← HRz.out] at this; omega) (fun e => by have := HMl.out _ (.inl (.inr (.inr (.inr (.inl e))))); rw [← HRz.out] at this; omega)))
  have HM2 := Lib.hid hm2
  have hb2 : Below w0.heap.size w0 w2 := HG2.out.below HM.out HB0.out
  have HB2 := Lib.hid hb2
  clear hm2 hk2 hz2 HB1 HCa hb2
  go_upto_region 6 with (go_at_call 34; refine (HNw.out _ HB2.out HM2.out).mono ?_; rintro e w3 ⟨rfl, hb3⟩)
  have HG3 : Hid (Goes M M w w3) := Lib.hid (HG2.out.trans (Goes.of hb3))
  have HX3 := Lib.hid (HX2.out.under hb3)
  have HM3 := Lib.hid (HM2.out.below hb3)
  have HB3 : Hid (Below w0.heap.size w0 w3) := Lib.hid (HG3.out.below HM.out HB0.out)
  have HPu3 := Lib.hid (HPu.out w3 HB3.out HM3.out (HG3.out.nb hnb))
  clear hb3 HPu HNw HX2 HM2 HG2 HB2
  go_wp2_with (go_at_call 35; refine HPu3.out.mono ?_; rintro e w4 ⟨M', sa, n, sc, rfl, hl, hr, hm4, hg4⟩; have HX4 := Lib.hid (HX3.out.kp hg4.kp (fun e => by have := HMl.out _ (.inl e); rw [← HRz.out] at this; omega)); have HLn := Lib.hid hl; have HR4 := Lib.hid hr; have HM4 := Lib.hid hm4; have HG4 := Lib.hid hg4; clear hl hr hm4 hg4; obtain ⟨⟨p0, p1, p2, p3, p4, p5, p6⟩, f0, f1, f2, f3, f4, f5, f6⟩ := info_room HX4.out)
  obtain ⟨tt, htt⟩ : ∃ tt, tOf s t = tt := ⟨_, rfl⟩
  have HTt := Lib.hid htt
  have hend : PutPost w0 T A M s d t w (.returned (.tuple #[.agg (infoArr A false d.size (tOf s t) (.slice sa n sc) idv), .int .i64 0])) (set7 w4 rz A false d.size (tOf s t) (.slice sa n sc) idv) := by
    refine ⟨M', sa, n, sc, ?_, HLn.out, ?_, ?_, ?_⟩
    · rw [HId.out]
    · refine (HR4.out.lower ?_).kp (F := fun i => i = rz) (set7_kp (Kp.refl (fun i => i = rz) w4) (.inl rfl) _ _ _ _ _ _) (fun i hi e => HR4.out.ne HX4.out (by decide) (e ▸ hi))
      exact HG3.out.kp.size
    · refine HM4.out.kp (F := fun i => i = rz) (set7_kp (Kp.refl (fun i => i = rz) w4) (.inl rfl) _ _ _ _ _ _) (fun i hi e => ?_)
      have hz2 := HX3.out.lt
      rcases hi with hi | hi | hi
      · rcases HG4.out.mf i hi with h | h
        · have := HMl.out _ (.inl h)
          rw [← HRz.out] at this
          omega
        · omega
      · rw [HG4.out.cb] at hi
        have := HMl.out _ (.inr (.inl rfl))
        rw [← HRz.out] at this
        omega
      · rw [HG4.out.rb] at hi
        have := HMl.out _ (.inr (.inr rfl))
        rw [← HRz.out] at this
        omega
    · have hg := HG3.out.trans HG4.out
      have hk := set7_kp hg.kp (b := rz) (.inr (by rw [HRz.out]; exact Nat.le_refl _)) A false d.size (tOf s t) (.slice sa n sc) idv
      refine ⟨hg.b, hg.cb, hg.rb, hk, hg.mf, fun h => ?_⟩
      have h2 := hg.nb h
      have h3 : (set7 w4 rz A false d.size (tOf s t) (.slice sa n sc) idv).heap.size = w4.heap.size := by simp [set7, World.setCell]
      omega
  unfold set7 at hend
  rw [htt] at hend
  try simp only [Exit.inBlock, Exit.then]
  try rw [htt]
  refine bodyPost_ret (v := .tuple #[.agg (infoArr A false d.size tt (.slice sa n sc) idv), .int .i64 0]) ?_ rfl hend
  clear hend
  simp [results, Tryz.f12]
  go_simp

/-- The file is removed. -/
def MSt.rem (s : MSt) (c : FileSt) : MSt := { s.kept c with cur := none }
def RemPost (w0 : World) (A : ByteArray) (M : MB) (s : MSt) (c : FileSt) (w : World) (e : Ending) (w' : World) : Prop := e = .returned (.int .i64 0) ∧ ∃ M', MemAt w' w0.heap.size A M' (s.rem c) ∧ Goes M M' w w'
set_option maxHeartbeats 2000000 in
set_option maxRecDepth 100000 in
theorem remove_any (w0 : World) (T : Tabs) (A : ByteArray) (M : MB) (s : MSt) (c : FileSt) (w : World) (hG : Gr w0 T) (hb0 : Below w0.heap.size w0 w) (hM : MemAt w w0.heap.size A M s) (hc : s.cur = some c) (hA : PathA A) (hs : StOk s) :
    Calls Tryz.prog 11 #[ptr M.b, .string A] w (RemPost w0 A M s c w) := by
  have HBe := Lib.hid (begin_any 4 (by decide) w w0.heap.size A M s hM)
  have HIs := Lib.hid (fun W (hb : Below w0.heap.size w0 W) => isFile_any A W hA (hG.env.below hb (Nat.le_refl _)))
  have HFi := Lib.hid (fun W (hb : Below w0.heap.size w0 W) (h : MemAt W w0.heap.size A M s) => file_any W w0.heap.size A M s c hc h hA (hG.env.below hb (Nat.le_refl _)))
  have HKe := Lib.hid (fun W (hb : Below w0.heap.size w0 W) (h : MemAt W w0.heap.size A M s) => keep_any W w0.heap.size A M s c h hc hA (hs.has (by rw [hc]; simp)) hs.num hs.vers hb.size)
  have HDr := Lib.hid (fun W ra cap (h : MemAt W w0.heap.size A { M with ra := ra, cap := cap } (s.kept c)) => show Calls Tryz.prog 32 #[ptr M.b, ptr M.nb] W _ from drop_any W w0.heap.size A { M with ra := ra, cap := cap } (s.kept c) c h hc hA)
  have HM := Lib.hid hM
  have HB0 := Lib.hid hb0
  clear hM hs hb0 hc
  go_enter Tryz.func11, Tryz.ntmps11
  go_upto_region 4 with (go_at_call 28; refine HBe.out.mono ?_; rintro e w1 ⟨rfl, hm1, hk1, hz1⟩)
  have HG1 : Hid (Goes M M w w1) := Lib.hid (Goes.counted hk1)
  have HM1 := Lib.hid hm1
  have HB1 : Hid (Below w0.heap.size w0 w1) := Lib.hid (HG1.out.below HM.out HB0.out)
  clear hm1 hk1 hz1 HBe
  go_upto_region 7 with (go_at_call 29; refine (HIs.out _ HB1.out).mono ?_; rintro e w2 ⟨rfl, hb2⟩)
  have HG2 : Hid (Goes M M w w2) := Lib.hid (HG1.out.trans (Goes.of hb2))
  have HM2 := Lib.hid (HM1.out.below hb2)
  have HB2 : Hid (Below w0.heap.size w0 w2) := Lib.hid (HG2.out.below HM.out HB0.out)
  clear hb2 HG1 HM1 HB1 HIs
  go_upto_region 10 with (go_at_call 30; refine (HFi.out _ HB2.out HM2.out).mono ?_; rintro e w3 ⟨rfl, hb3⟩)
  have HG3 : Hid (Goes M M w w3) := Lib.hid (HG2.out.trans (Goes.of hb3))
  have HM3 := Lib.hid (HM2.out.below hb3)
  have HB3 : Hid (Below w0.heap.size w0 w3) := Lib.hid (HG3.out.below HM.out HB0.out)
  clear hb3 HG2 HM2 HB2 HFi
  go_upto_region 11 with (go_at_call 31; refine (HKe.out _ HB3.out HM3.out).mono ?_; rintro e w4 ⟨rfl, ra4, cap4, hm4, hk4, hr4⟩)
  have HG4 : Hid (Goes M { M with ra := ra4, cap := cap4 } w w4) := Lib.hid (HG3.out.trans (Goes.versions hk4 hr4))
  have HD4 := Lib.hid (HDr.out w4 ra4 cap4 hm4)
  clear hm4 hk4 hr4 HDr HKe
  go_wp2_with (go_at_call 32; refine HD4.out.mono ?_; rintro e w5 ⟨rfl, hm5, hk5⟩)
  go_ret
  exact ⟨rfl, { M with ra := ra4, cap := cap4 }, hm5, HG4.out.trans (Goes.same hk5 (fun i e => e.elim (fun e => .inr (.inl e)) (fun e => .inl e)))⟩
end Go.Proofs.YtmafnjapailliaaGreatDoor
