/-
  Parts of the proof: Un2, Un3, Un4, Un5.
-/
import Derived.Test.YtchfhojighopkaaGreatDoorGuAV
namespace Go.Proofs.YtchfhojighopkaaGreatDoor
open Go.RowKit Wh.Sha

/-- What setFile of a file that is there has done. -/
def TurnPost (w : World) (B : Nat) (M : MB) (s : TSt) (ks : List ByteArray) (m : Nd) (d : ByteArray) (t : Int) (e : Ending) (w' : World) : Prop :=
 e = .returned (ptr m.b) ∧ MemT w' B M { s with F := s.F.put ks { m with data := d, time := t, mt := .slice none 0 0 } } ∧ Kp (fun i => i = m.b) w w'
set_option maxHeartbeats 4000000 in
set_option maxRecDepth 100000 in
theorem setFileT_old (w : World) (B : Nat) (M : MB) (s : TSt) (p d : ByteArray) (t : Int) (m : Nd) (hM : MemT w B M s) (hE : Env w) (hs : p.size ≤ 1024) (hF : s.F (kysOf s.f p) = some m) (hv : hasB s.f 1024 = false) :
  Calls Tryz.prog 43 #[ptr M.b, .string p, .string d, .int .i64 t, .slice none 0 0] w (TurnPost w B M s (kysOf s.f p) m d t) := by
 have HF := Lib.hid (findT_any w B M s p hM hE hs)
 rw [hF] at HF
 simp only [Option.map_some, adr] at HF
 have HHm := Lib.hid (fun W (h : W.cell? ⟨M.b, 0, none⟩ = some (.int .i64 s.f.has)) => has_any M.b s.f 256 W h)
 have HCl := Lib.hid cloneM_nil
 generalize hasB s.f 256 = hasv at *
 have HKe := Lib.hid (fun W (h : W.cell? ⟨M.b, 0, none⟩ = some (.int .i64 s.f.has)) => keepT_off M.b m.b s.f W h hv)
 have HM := Lib.hid hM
 have HF0 := Lib.hid hF
 clear hM hE hs hF hv
 generalize kysOf s.f p = ks at *
 obtain ⟨z, hz⟩ : ∃ z, m.b = z := ⟨_, rfl⟩
 have HZ := Lib.hid hz
 rw [hz] at HF HKe
 clear hz
 go_enter Tryz.func43, Tryz.ntmps43
 go_upto_region 3 with (go_at_call 76; refine HF.out.mono ?_; rintro e w1 ⟨rfl, hb1⟩)
 have HM1 := Lib.hid (HM.out.below hb1)
 have HB1 := Lib.hid hb1
 have HK1 := Lib.hid (HKe.out w1 HM1.out.has)
 clear hb1
 have hbx : BoxIs w1 z (ndArr m (s.F.up ks)) 108 := by
  rw [← HZ.out]
  exact (HM1.out.tree.box _ _ HF0.out).1
 have c4 : w1.cell? ⟨z, 4, none⟩ = some (.string m.data) := hbx.cell (j := 4) rfl
 have c5 : w1.cell? ⟨z, 5, none⟩ = some (.int .i64 m.time) := hbx.cell (j := 5) rfl
 have c6 : w1.cell? ⟨z, 6, none⟩ = some m.mt := hbx.cell (j := 6) rfl
 have f4 : w1.frozen? ⟨z, 4, none⟩ = false := Lib.frozen_of_heap hbx 4
 have f5 : w1.frozen? ⟨z, 5, none⟩ = false := Lib.frozen_of_heap hbx 5
 have f6 : w1.frozen? ⟨z, 6, none⟩ = false := Lib.frozen_of_heap hbx 6
 have HBx := Lib.hid hbx
 clear hbx
 go_upto_region 7 with (go_at_call 80; refine HK1.out.mono ?_; rintro e w' ⟨rfl, hw⟩; (have hw2 := hw.symm; clear hw; subst hw2))
 obtain ⟨nd1, hnd1⟩ : ∃ nd1 : Nd, nd1 = { m with data := d, time := t, mt := .slice none 0 0 } := ⟨_, rfl⟩
 have hk7 : Kp (fun i => i = z) w1 (((w1.setCell ⟨z, 4, none⟩ (.string d)).setCell ⟨z, 5, none⟩ (.int .i64 t)).setCell ⟨z, 6, none⟩ (.slice none 0 0)) := (((Kp.refl (fun i => i = z) w1).set (b := z) (.inl rfl) 4 _).set (b := z) (.inl rfl) 5 _).set (b := z) (.inl rfl) 6 _
 have hbx7 : BoxIs (((w1.setCell ⟨z, 4, none⟩ (.string d)).setCell ⟨z, 5, none⟩ (.int .i64 t)).setCell ⟨z, 6, none⟩ (.slice none 0 0)) z (ndArr nd1 (s.F.up ks)) 108 := by
  rw [hnd1]
  exact ((HBx.out.putAt 4 (.string d)).putAt 5 (.int .i64 t)).putAt 6 (.slice none 0 0)
 have hb1 : nd1.b = m.b ∧ nd1.kb = m.kb ∧ nd1.dir = m.dir ∧ nd1.name = m.name := by rw [hnd1]; exact ⟨rfl, rfl, rfl, rfl⟩
 have hm7 := HM1.out.turn (n := nd1) HF0.out hb1.1 hb1.2.1 hb1.2.2.1 hb1.2.2.2 (by rw [hb1.1, HZ.out]; exact hbx7) (by rw [HZ.out]; exact hk7)
 have HNd1 := Lib.hid hnd1
 have HZ1 : Hid (nd1.b = z) := Lib.hid (hb1.1.trans HZ.out)
 have HM7 := Lib.hid hm7
 have HKW7 : Hid (Kp (fun i => i = m.b) w _) := Lib.hid ((Kp.of HB1.out).trans (by rw [HZ.out]; exact hk7))
 clear c4 c5 c6 f4 f5 f6 hk7 hbx7 hb1 hm7 hnd1 HBx
 generalize ((w1.setCell ⟨z, 4, none⟩ (.string d)).setCell ⟨z, 5, none⟩ (.int .i64 t)).setCell ⟨z, 6, none⟩ (.slice none 0 0) = w7 at *
 have HHs7 := Lib.hid (HHm.out w7 HM7.out.has)
 have hbx9 : BoxIs w7 z (ndArr nd1 ((s.F.put ks nd1).up ks)) 108 := by
  rw [← HZ1.out]
  exact (HM7.out.tree.box ks nd1 (Tr.put_same _ _ _)).1
 have c6 : w7.cell? ⟨z, 6, none⟩ = some nd1.mt := hbx9.cell (j := 6) rfl
 have f6 : w7.frozen? ⟨z, 6, none⟩ = false := Lib.frozen_of_heap hbx9 6
 have HBx9 := Lib.hid hbx9
 clear hbx9
 cases hasv with
 | false =>
  go_wp2_with (go_at_call 22; refine HHs7.out.mono ?_; rintro e w' ⟨rfl, hw⟩; (have hw2 := hw.symm; clear hw; subst hw2))
  go_ret
  exact ⟨by rw [HZ.out]; rfl, by rw [← HNd1.out]; exact HM7.out, HKW7.out⟩
 | true =>
  go_wp2_with (first
   | (go_at_call 22; refine HHs7.out.mono ?_; rintro e w' ⟨rfl, hw⟩; (have hw2 := hw.symm; clear hw; subst hw2))
   | (go_at_call 74; refine (HCl.out _).mono ?_; rintro e w' ⟨rfl, hw⟩; (have hw2 := hw.symm; clear hw; subst hw2)))
  go_ret
  have hk9 : Kp (fun i => i = z) w7 (w7.setCell ⟨z, 6, none⟩ (.slice none 0 0)) := (Kp.refl (fun i => i = z) w7).set (b := z) (.inl rfl) 6 _
  have hbx : BoxIs (w7.setCell ⟨z, 6, none⟩ (.slice none 0 0)) z (ndArr nd1 ((s.F.put ks nd1).up ks)) 108 := by
   have := HBx9.out.putAt 6 (.slice none 0 0)
   have hmt : nd1.mt = .slice none 0 0 := by rw [HNd1.out]
   unfold ndArr at this ⊢
   rw [hmt]
   exact this
  have hm9 := HM7.out.turn (n := nd1) (Tr.put_same _ _ _) rfl rfl rfl rfl (by rw [HZ1.out]; exact hbx) (by rw [HZ1.out]; exact hk9)
  simp only [Tr.put_put] at hm9
  exact ⟨by rw [HZ.out]; rfl, by rw [← HNd1.out]; exact hm9, HKW7.out.trans (by rw [HZ.out]; exact hk9)⟩
/-- What a store comes to when a file gets contents. -/
def SetS (s s' : TSt) (ks ns : List ByteArray) (n : Nd) : Prop :=
 (s.F ks = none ∧ s'.made = s.made + 1 ∧ ns.getLast? = some n.name ∧ (∃ i0 n0, WayIs s.F ks i0 n0 ∧ s'.cnt = s.cnt + ((ks.length : Int) - i0)) ∧ (∀ ls m, s.F ls = some m → s'.F ls = some m) ∧
  ∀ ls m, s'.F ls = some m → s.F ls = some m ∨ ls = ks ∨ (m.dir = true ∧ ∃ i, i + 1 < ks.length ∧ ls = ks.take (i + 1) ∧ ns[i]? = some m.name)) ∨
 (∃ m, s.F ks = some m ∧ s' = { s with F := s.F.put ks n } ∧ n.name = m.name)
def SetT (w : World) (B : Nat) (M : MB) (s : TSt) (ks ns : List ByteArray) (d : ByteArray) (t : Int) (e : Ending) (w' : World) : Prop :=
 ∃ s' n, e = .returned (ptr n.b) ∧ MemT w' B M s' ∧ (s'.f = s.f ∧ s'.now = s.now) ∧ s'.F ks = some n ∧ (n.dir = false ∧ n.data = d ∧ n.time = t ∧ n.mt = .slice none 0 0) ∧ Kp (fun i => i = M.b ∨ s.F.own i) w w' ∧ (∀ i, s'.F.own i → s.F.own i ∨ w.heap.size ≤ i) ∧ SetS s s' ks ns n
theorem setT_any (w0 w : World) (M : MB) (s : TSt) (p d : ByteArray) (t : Int) (hb0 : Below w0.heap.size w0 w) (hM : MemT w w0.heap.size M s) (hE : Env w0) (hT : EnvT w0) (hs : p.size ≤ 1024) (h0 : p.toList.isEmpty = false)
  (hc : 0 ≤ s.cnt ∧ s.cnt ≤ 5000) (hmd : 0 ≤ s.made ∧ s.made ≤ 1000000) (hd : ∀ i n, WayIs s.F (kysOf s.f p) i n → n.dir = true) (hfile : ∀ m, s.F (kysOf s.f p) = some m → m.dir = false) (hv : hasB s.f 1024 = false) :
  Calls Tryz.prog 43 #[ptr M.b, .string p, .string d, .int .i64 t, .slice none 0 0] w (SetT w w0.heap.size M s (kysOf s.f p) (Wh.namesOf p) d t) := by
 cases hF : s.F (kysOf s.f p) with
 | none =>
  refine (setFileT_new w0 w M s p d t hb0 hM hE hT hs h0 hF hc hmd hd).mono ?_
  rintro e w' ⟨c, F, n, i0, n0, r1, r2, r3, r4, r5, ⟨r6, r7, r8, r9⟩, r10, r11, r12, r13, r14⟩
  exact ⟨_, n, r1, r2, ⟨rfl, rfl⟩, r5, ⟨r6, r7, r8, r9⟩, r10, r11, .inl ⟨hF, rfl, r12, ⟨i0, n0, r3, r4⟩, r13, r14⟩⟩
 | some m =>
  refine (setFileT_old w w0.heap.size M s p d t m hM (hE.below hb0 (Nat.le_refl _)) hs hF hv).mono ?_
  rintro e w' ⟨r1, r2, r3⟩
  refine ⟨_, { m with data := d, time := t, mt := .slice none 0 0 }, r1, r2, ⟨rfl, rfl⟩, Tr.put_same _ _ _, ⟨hfile m hF, rfl, rfl, rfl⟩, r3.mono (fun i e => .inr (by rw [e]; exact ⟨_, m, hF, .inl rfl⟩)), fun i hi => ?_, .inr ⟨m, hF, rfl, rfl⟩⟩
  obtain ⟨ls, m', hm', e'⟩ := hi
  dsimp only at hm'
  by_cases hl : ls = kysOf s.f p
  ·rw [hl, Tr.put_same] at hm'
   injection hm' with hm'
   subst hm'
   rcases e' with e' | ⟨e', _⟩
   ·exact .inl ⟨_, m, hF, .inl e'⟩
   ·exact absurd (e'.symm.trans (hfile m hF)) (by decide)
  ·rw [Tr.put_other _ _ hl] at hm'
   exact .inl ⟨ls, m', hm', e'⟩
/-- What put has done. -/
def PutT (w : World) (B : Nat) (M : MB) (s : TSt) (ks ns : List ByteArray) (d : ByteArray) (t : Int) (e : Ending) (w' : World) : Prop :=
 ∃ s' n sa sn sc ix, e = .returned (.tuple #[.agg (infoArr (pathR s'.F ks.reverse) false d.size t (.slice sa sn sc) ix), .int .i64 0]) ∧ MemT w' B M s' ∧ (s'.f = s.f ∧ s'.now = s.now) ∧ s'.F ks = some n ∧ (n.dir = false ∧ n.data = d ∧ n.time = t ∧ n.mt = .slice none 0 0) ∧ Kp (fun i => i = M.b ∨ s.F.own i) w w' ∧ (∀ i, s'.F.own i → s.F.own i ∨ w.heap.size ≤ i) ∧ SetS s s' ks ns n
def set7 (w : World) (b : Nat) (A : ByteArray) (d : Bool) (n t : Int) (v : Value) (id : ByteArray) : World :=
 ((((((w.setCell ⟨b, 0, none⟩ (.string A)).setCell ⟨b, 1, none⟩ (.bool d)).setCell ⟨b, 2, none⟩ (.int .i64 n)).setCell ⟨b, 3, none⟩ (.int .i64 t)).setCell ⟨b, 4, none⟩ v).setCell ⟨b, 5, none⟩ (.slice none 0 0)).setCell ⟨b, 6, none⟩ (.string id)
theorem set7_kp {F : Nat → Prop} {w0 w : World} (h : Kp F w0 w) {b : Nat} (hb : F b ∨ w0.heap.size ≤ b) (A : ByteArray) (d : Bool) (n t : Int) (v : Value) (id : ByteArray) : Kp F w0 (set7 w b A d n t v id) :=
 ((((((h.set hb 0 (.string A)).set hb 1 (.bool d)).set hb 2 (.int .i64 n)).set hb 3 (.int .i64 t)).set hb 4 v).set hb 5 (.slice none 0 0)).set hb 6 (.string id)
set_option maxHeartbeats 4000000 in
set_option maxRecDepth 100000 in
theorem putT_any (w0 w : World) (T : Tabs) (M : MB) (s : TSt) (p d : ByteArray) (t : Int) (hb0 : Below w0.heap.size w0 w) (hM : MemT w w0.heap.size M s) (hE : Env w0) (hT : EnvT w0) (hs : p.size ≤ 1024) (h0 : p.toList.isEmpty = false)
  (hc : 0 ≤ s.cnt ∧ s.cnt ≤ 5000) (hmd : 0 ≤ s.made ∧ s.made ≤ 1000000) (hd : ∀ i n, WayIs s.F (kysOf s.f p) i n → n.dir = true) (hfile : ∀ m, s.F (kysOf s.f p) = some m → m.dir = false) (hv : hasB s.f 1024 = false)
  (hz : ∀ z, PutZ s.f s.F (kysOf s.f p) s.cnt d.size [] z → z = 0) (hkl : klen (kysOf s.f p).reverse ≤ 4096) (hds : d.size ≤ 1048576) (hG : Gr w0 T)
  (ht : -9223372036854775808 ≤ t ∧ t ≤ 9223372036854775807) (hn : -9223372036854775808 ≤ s.now ∧ s.now ≤ 9223372036854775807) (hp : 1 ≤ s.f.prec ∧ s.f.prec ≤ 9223372036854775807) :
  Calls Tryz.prog 21 #[ptr M.b, .string p, .string d, .int .i64 t, .slice none 0 0] w (PutT w w0.heap.size M s (kysOf s.f p) (Wh.namesOf p) d (tOfT s t)) := by
 have hb0' : ∀ W, Below w.heap.size w W → Below w0.heap.size w0 W := fun W hb => hb0.trans (Below.mono hb hb0.size)
 have HPF : Hid (∀ W, Below w.heap.size w W → Calls Tryz.prog 23 #[ptr M.b, .string p, .int .i64 d.size, .slice none 0 0] W fun e w' => e = .returned (.int .i64 0) ∧ Below W.heap.size W w') := Lib.hid (fun W hb => by
  refine (putFaultT_any d.size [] none 0 W w0.heap.size M s p (hM.below hb) (hE.below (hb0' W hb) (Nat.le_refl _)) hs h0 hc (by decide) (.inl rfl)).mono ?_
  rintro e w' ⟨z, r1, r2, r3⟩
  rw [hz z r2] at r1
  exact ⟨r1, r3⟩)
 have HTo := Lib.hid (fun W (hb : Below w.heap.size w W) => timeOfT_any t W w0.heap.size M s (hM.below hb) ht hn hp)
 have HSf := Lib.hid (fun W (hb : Below w.heap.size w W) => setT_any w0 W M s p d (tOfT s t) (hb0' W hb) (hM.below hb) hE hT hs h0 hc hmd hd hfile hv)
 unfold SetT at HSf
 obtain ⟨ks, hks⟩ : ∃ ks, kysOf s.f p = ks := ⟨_, rfl⟩
 rw [hks] at HSf hkl ⊢
 have HIn := Lib.hid (fun W s' n (hbW : Below w0.heap.size w0 W) (h : MemT W w0.heap.size M s') (hf : s'.f = s.f) (hn : s'.F ks = some n) (hd : n.dir = false) (hda : n.data = d) (hmt : n.mt = .slice none 0 0) => (infoS_file w0 W T w0.heap.size M s' ks.reverse n hG hbW h (by rw [List.reverse_reverse]; exact hn) hkl hd hmt (by rw [hda]; exact hds)).mono (R' := fun e w' => ∃ sa sn sc ix, e = .returned (.agg (infoArr (pathR s'.F ks.reverse) false n.data.size n.time (.slice sa sn sc) ix)) ∧ Below W.heap.size W w') (fun e w' ⟨sa, sn, sc, h1, h2⟩ => ⟨sa, sn, sc, _, h1, h2⟩))
 have HM := Lib.hid hM
 have HB0 := Lib.hid hb0'
 have HLt := Lib.hid (fun i (h : i = M.b ∨ s.F.own i) => hM.lt (i := i) (.inl (h.elim .inl (fun h => .inr (.inr (.inr h))))))
 have hx1 : BoxIs (w.alloc (.cells info0 37)) w.heap.size info0 37 := heap_alloc_new _ _
 have hb1 : Below w.heap.size w (w.alloc (.cells info0 37)) := bAlloc (Below.refl _ _) _
 generalize Wh.namesOf p = ns at *
 clear hM hE hT hs h0 hc hmd hd hfile hv hz hkl hds ht hn hp hG hb0 hb0' hks
 obtain ⟨tt, htt⟩ : ∃ tt, tOfT s t = tt := ⟨_, rfl⟩
 rw [htt] at HTo HSf ⊢
 clear htt
 go_enter Tryz.func21, Tryz.ntmps21
 go_upto_region 1 with fail
 obtain ⟨rz, hrz⟩ : ∃ rz, rz = w.heap.size := ⟨_, rfl⟩
 rw [← hrz] at hx1 ⊢
 have HRz := Lib.hid hrz
 have HX1 := Lib.hid hx1
 have HB1 := Lib.hid hb1
 clear hrz hx1 hb1
 generalize w.alloc _ = w1 at *
 go_upto_region 4 with (go_at_call 23; refine (HPF.out _ HB1.out).mono ?_; rintro e w2 ⟨rfl, hb2⟩)
 have HB2 := Lib.hid (bTrans HB1.out hb2)
 have HX2 := Lib.hid (HX1.out.under hb2)
 clear hb2 HX1 HB1 HPF
 have HTo2 := Lib.hid (HTo.out w2 HB2.out)
 have HSf2 := Lib.hid (HSf.out w2 HB2.out)
 clear HTo HSf
 go_wp2_with (first
  | (go_at_call 44; refine HTo2.out.mono ?_; rintro e w' ⟨rfl, hw⟩; (have hw2 := hw.symm; clear hw; subst hw2))
  | (go_at_call 43; refine HSf2.out.mono ?_; rintro e w3 ⟨s', n, rfl, hm3, hf3, hn3, hd3, hk3, ho3, hs3⟩; have HM3 := Lib.hid hm3; have HF3 := Lib.hid (And.intro hf3 (And.intro hn3 (And.intro hd3 (And.intro ho3 hs3)))); have HK3 := Lib.hid hk3; have HX3 := Lib.hid (HX2.out.kp hk3 (fun e => by have h1 := HLt.out _ e; rw [← HRz.out] at h1; omega)); have HIn3 := Lib.hid (HIn.out w3 s' n ((HB0.out _ HB2.out).trans (hk3.below (fun i h => h.elim (fun h => by rw [h]; exact HM.out.lo.1) (fun h => HM.out.tree.lo h)) (HB0.out _ HB2.out).size)) hm3 hf3.1 hn3 hd3.1 hd3.2.1 hd3.2.2.2); rw [hd3.2.1, hd3.2.2.1] at HIn3; clear hm3 hf3 hn3 hd3 hk3 ho3 hs3)
  | (go_at_call 42; refine HIn3.out.mono ?_; rintro e w4 ⟨sa, sn, sc, ix, rfl, hb4⟩; have HX4 := Lib.hid (HX3.out.under hb4); have HB4 := Lib.hid hb4; clear hb4; obtain ⟨⟨p0, p1, p2, p3, p4, p5, p6⟩, f0, f1, f2, f3, f4, f5, f6⟩ := info_room HX4.out))
 have hkk : Kp (fun i => i = M.b ∨ s.F.own i) w w4 := (Kp.of HB2.out).trans (HK3.out.trans (Kp.of HB4.out))
 have hend : PutT w w0.heap.size M s ks ns d tt (.returned (.tuple #[.agg (infoArr (pathR s'.F ks.reverse) false d.size tt (.slice sa sn sc) ix), .int .i64 0])) (set7 w4 rz (pathR s'.F ks.reverse) false d.size tt (.slice sa sn sc) ix) := by
  obtain ⟨g1, g2, g3, g4, g5⟩ := HF3.out
  have hown : ∀ i, s'.F.own i → s.F.own i ∨ w2.heap.size ≤ i := g4
  refine ⟨s', n, sa, sn, sc, ix, rfl, ?_, g1, g2, g3, set7_kp hkk (.inr (Nat.le_of_eq HRz.out.symm)) _ _ _ _ _ _, fun i hi => (g4 i hi).imp (fun h => h) (fun h => Nat.le_trans HB2.out.size h), g5⟩
  refine (HM3.out.below HB4.out).kp (G := fun i => i = rz) (set7_kp (Kp.refl (fun i => i = rz) w4) (.inl rfl) _ _ _ _ _ _) (fun i hi e => ?_)
  have hz2 := HX2.out.lt
  have hr := HRz.out
  have hlt : i < w.heap.size ∨ w2.heap.size ≤ i := by
   rcases hi with (h | h | h | h) | h
   ·exact .inl (HM.out.lt (.inl (.inl h)))
   ·exact .inl (HM.out.lt (.inl (.inr (.inl h))))
   ·exact .inl (HM.out.lt (.inl (.inr (.inr (.inl h)))))
   ·exact (hown i h).imp (fun h => HM.out.lt (.inl (.inr (.inr (.inr h))))) (fun h => h)
   ·exact .inl (HM.out.lt (.inr h))
  omega
 unfold set7 at hend
 clear hkk
 try simp only [Exit.inBlock, Exit.then]
 refine bodyPost_ret (v := .tuple #[.agg (infoArr (pathR s'.F ks.reverse) false d.size tt (.slice sa sn sc) ix), .int .i64 0]) ?_ rfl hend
 clear hend
 simp [results, Tryz.f21]
 go_simp
/-- What Put has done. -/
def PutC (w : World) (B : Nat) (M : MB) (s : TSt) (ks ns : List ByteArray) (d : ByteArray) (t : Int) (e : Ending) (w' : World) : Prop :=
 ∃ s' n sa sn sc ix, e = .returned (.tuple #[.agg (infoArr (pathR s'.F ks.reverse) false d.size t (.slice sa sn sc) ix), .int .i64 0]) ∧ MemT w' B M s' ∧ (s'.f = s.f ∧ s'.now = s.now) ∧ s'.F ks = some n ∧ (n.dir = false ∧ n.data = d ∧ n.time = t ∧ n.mt = .slice none 0 0) ∧ Kp (MTf M s.F) w w' ∧ (∀ i, s'.F.own i → s.F.own i ∨ w.heap.size ≤ i) ∧ SetS s s' ks ns n
set_option maxHeartbeats 4000000 in
set_option maxRecDepth 100000 in
theorem putCT_any (w0 w : World) (T : Tabs) (M : MB) (s : TSt) (p d : ByteArray) (t : Int) (hb0 : Below w0.heap.size w0 w) (hM : MemT w w0.heap.size M s) (hE : Env w0) (hT : EnvT w0) (hs : p.size ≤ 1024) (h0 : p.toList.isEmpty = false)
  (hNw : ∀ W, Below w0.heap.size w0 W → FeatBox W M.b s.f → Calls Tryz.prog 20 #[ptr M.b, .string p] W fun e w' => e = .returned (.int .i64 0) ∧ Below W.heap.size W w')
  (hc : 0 ≤ s.cnt ∧ s.cnt ≤ 5000) (hmd : 0 ≤ s.made ∧ s.made ≤ 1000000) (hd : ∀ i n, WayIs s.F (kysOf s.f p) i n → n.dir = true) (hfile : ∀ m, s.F (kysOf s.f p) = some m → m.dir = false) (hv : hasB s.f 1024 = false)
  (hz : ∀ z, PutZ s.f s.F (kysOf s.f p) s.cnt d.size [] z → z = 0) (hkl : klen (kysOf s.f p).reverse ≤ 4096) (hds : d.size ≤ 1048576) (hG : Gr w0 T)
  (ht : -9223372036854775808 ≤ t ∧ t ≤ 9223372036854775807) (hn : -9223372036854775808 ≤ s.now ∧ s.now ≤ 9223372036854775807) (hp : 1 ≤ s.f.prec ∧ s.f.prec ≤ 9223372036854775807) :
  Calls Tryz.prog 6 #[ptr M.b, .string p, .string d, .int .i64 t, .slice none 0 0] w (PutC w w0.heap.size M s (kysOf s.f p) (Wh.namesOf p) d (tOfT s t)) := by
 have HCa := Lib.hid (fun W (hb : Below w.heap.size w W) => callT_any 3 (by decide) W w0.heap.size M s (hM.below hb))
 have HNw := Lib.hid hNw
 have HPu := Lib.hid (fun W (hb : Below w0.heap.size w0 W) (h : MemT W w0.heap.size M s) => putT_any w0 W T M s p d t hb h hE hT hs h0 hc hmd hd hfile hv hz hkl hds hG ht hn hp)
 unfold PutT at HPu
 have HM := Lib.hid hM
 have HLt := Lib.hid (fun i (h : MTf M s.F i) => hM.lt (i := i) (.inl h))
 have HLo := Lib.hid (fun i (h : MTf M s.F i) => hM.mf h)
 have HB0 := Lib.hid hb0
 have hx1 : BoxIs (w.alloc (.cells info0 37)) w.heap.size info0 37 := heap_alloc_new _ _
 have hb1 : Below w.heap.size w (w.alloc (.cells info0 37)) := bAlloc (Below.refl _ _) _
 generalize Wh.namesOf p = ns at *
 generalize kysOf s.f p = ks at *
 generalize tOfT s t = tt at *
 clear hM hE hT hs h0 hNw hc hmd hd hfile hv hz hkl hds ht hn hp hG hb0
 go_enter Tryz.func6, Tryz.ntmps6
 go_upto_region 1 with fail
 obtain ⟨rz, hrz⟩ : ∃ rz, rz = w.heap.size := ⟨_, rfl⟩
 rw [← hrz] at hx1 ⊢
 have HRz := Lib.hid hrz
 have HX1 := Lib.hid hx1
 have HB1 := Lib.hid hb1
 clear hrz hx1 hb1
 generalize w.alloc _ = w1 at *
 go_upto_region 2 with (go_at_call 19; refine (HCa.out _ HB1.out).mono ?_; rintro e w2 ⟨rfl, hm2, hk2, hz2⟩)
 have hkm : ∀ i, (i = M.ca ∨ i = M.si) → MTf M s.F i := fun i e => e.elim (fun e => .inr (.inl e)) (fun e => .inr (.inr (.inl e)))
 have HK2 : Hid (Kp (MTf M s.F) w w2) := Lib.hid ((Kp.of HB1.out).trans (hk2.mono hkm))
 have HX2 := Lib.hid (HX1.out.kp hk2 (fun e => by have h1 := HLt.out _ (hkm _ e); rw [← HRz.out] at h1; omega))
 have HM2 := Lib.hid hm2
 have HB2 := Lib.hid (HB0.out.trans (HK2.out.below HLo.out HB0.out.size))
 clear hm2 hk2 hz2 HB1 HCa hkm
 go_upto_region 6 with (go_at_call 20; refine (HNw.out _ HB2.out HM2.out.feats).mono ?_; rintro e w3 ⟨rfl, hb3⟩)
 have HK3 : Hid (Kp (MTf M s.F) w w3) := Lib.hid (HK2.out.trans (Kp.of hb3))
 have HX3 := Lib.hid (HX2.out.under hb3)
 have HM3 := Lib.hid (HM2.out.below hb3)
 have HB3 := Lib.hid (HB2.out.trans (Below.mono hb3 HB2.out.size))
 have HPu3 := Lib.hid (HPu.out w3 HB3.out HM3.out)
 clear hb3 HPu HNw HX2 HM2 HB2
 go_wp2_with (go_at_call 21; refine HPu3.out.mono ?_; rintro e w4 ⟨s', n, sa, sn, sc, ix, rfl, hm4, hf4, hn4, hd4, hk4, ho4, hs4⟩; have HX4 := Lib.hid (HX3.out.kp hk4 (fun e => by have h1 := HLt.out _ (e.elim .inl (fun h => .inr (.inr (.inr h)))); rw [← HRz.out] at h1; omega)); have HM4 := Lib.hid hm4; have HK4 := Lib.hid hk4; have HF4 := Lib.hid (And.intro hf4 (And.intro hn4 (And.intro hd4 (And.intro ho4 hs4)))); clear hm4 hf4 hn4 hd4 hk4 ho4 hs4; obtain ⟨⟨p0, p1, p2, p3, p4, p5, p6⟩, f0, f1, f2, f3, f4, f5, f6⟩ := info_room HX4.out)
 have hkk : Kp (MTf M s.F) w w4 := HK3.out.trans (HK4.out.mono (fun i e => e.elim .inl (fun h => .inr (.inr (.inr h)))))
 have hend : PutC w w0.heap.size M s ks ns d tt (.returned (.tuple #[.agg (infoArr (pathR s'.F ks.reverse) false d.size tt (.slice sa sn sc) ix), .int .i64 0])) (set7 w4 rz (pathR s'.F ks.reverse) false d.size tt (.slice sa sn sc) ix) := by
  obtain ⟨g1, g2, g3, g4, g5⟩ := HF4.out
  refine ⟨s', n, sa, sn, sc, ix, rfl, ?_, g1, g2, g3, set7_kp hkk (.inr (Nat.le_of_eq HRz.out.symm)) _ _ _ _ _ _, fun i hi => (g4 i hi).imp (fun h => h) (fun h => Nat.le_trans HK3.out.size h), g5⟩
  refine HM4.out.kp (G := fun i => i = rz) (set7_kp (Kp.refl (fun i => i = rz) w4) (.inl rfl) _ _ _ _ _ _) (fun i hi e => ?_)
  have hz2 := HX3.out.lt
  have hr := HRz.out
  have hlt : i < w.heap.size ∨ w3.heap.size ≤ i := by
   rcases hi with (h | h | h | h) | h
   ·exact .inl (HM.out.lt (.inl (.inl h)))
   ·exact .inl (HM.out.lt (.inl (.inr (.inl h))))
   ·exact .inl (HM.out.lt (.inl (.inr (.inr (.inl h)))))
   ·exact (g4 i h).imp (fun h => HM.out.lt (.inl (.inr (.inr (.inr h))))) (fun h => h)
   ·exact .inl (HM.out.lt (.inr h))
  omega
 unfold set7 at hend
 clear hkk
 try simp only [Exit.inBlock, Exit.then]
 refine bodyPost_ret (v := .tuple #[.agg (infoArr (pathR s'.F ks.reverse) false d.size tt (.slice sa sn sc) ix), .int .i64 0]) ?_ rfl hend
 clear hend
 simp [results, Tryz.f6]
 go_simp
end Go.Proofs.YtchfhojighopkaaGreatDoor
namespace Go.Proofs.YtchfhojighopkaaGreatDoor
open Go.RowKit Wh.Sha

def Tr.del (F : Tr) (ks : List ByteArray) : Tr := fun ls => if ls = ks then none else F ls
theorem Tr.del_same (F : Tr) (ks : List ByteArray) : F.del ks ks = none := by simp [Tr.del]
theorem Tr.del_other (F : Tr) {ks ls : List ByteArray} (h : ls ≠ ks) : F.del ks ls = F ls := by simp [Tr.del, h]
theorem Tr.del_some {F : Tr} {ks ls : List ByteArray} {n : Nd} (h : F.del ks ls = some n) : ls ≠ ks ∧ F ls = some n := by
 unfold Tr.del at h
 split at h
 ·cases h
 ·exact ⟨‹_›, h⟩
theorem Tr.del_own {F : Tr} {ks : List ByteArray} {i : Nat} (h : (F.del ks).own i) : F.own i := by
 obtain ⟨ls, n, hn, e⟩ := h
 exact ⟨ls, n, (Tr.del_some hn).2, e⟩
section
variable {w w' : World} {B rb : Nat} {K : ByteArray → ByteArray} {F : Tr}
theorem TreeAt.del {G : Nat → Prop} (h : TreeAt w B rb K F) {k : ByteArray} {n r : Nd} (hr : F [] = some r) (hn : F [k] = some n) (hd : n.dir = false) (hmap : MapF w' r.kb (upd (F.kid []) k none)) (hk : Kp G w w') (hG : ∀ i, G i → i = r.kb ∨ ¬ F.own i) :
  TreeAt w' B rb K (F.del [k]) := by
 have hrd : r.dir = true := by
  obtain ⟨r', h1, _, h3⟩ := h.root
  rw [hr] at h1
  injection h1 with h1
  rw [h1]; exact h3
 have hrk := (h.kids [] r hr hrd).1
 have hup : ∀ ks m, F ks = some m → (F.del [k]).up ks = F.up ks := fun ks m hm => by
  rcases List.eq_nil_or_concat ks with rfl | ⟨l, x, rfl⟩
  ·simp [Tr.up]
  ·rw [List.concat_eq_append] at hm ⊢
   rw [Tr.up_snoc, Tr.up_snoc, Tr.del_other]
   rintro rfl
   obtain ⟨⟨p, hp, hpd⟩, _⟩ := h.dirs _ _ _ hm
   rw [hn] at hp
   injection hp with hp
   rw [hp, hpd] at hd
   cases hd
 refine ⟨?_, ?_, ?_, ?_, ?_⟩
 ·obtain ⟨r', h1, h2⟩ := h.root
  exact ⟨r', by rw [Tr.del_other F (by simp)]; exact h1, h2⟩
 ·intro ks x m hm
  obtain ⟨h1, h2⟩ := Tr.del_some hm
  obtain ⟨⟨p, h3, h4⟩, h5⟩ := h.dirs ks x m h2
  refine ⟨⟨p, ?_, h4⟩, h5⟩
  rw [Tr.del_other F]
  ·exact h3
  ·rintro rfl
   rw [hn] at h3
   injection h3 with h3
   rw [h3, h4] at hd
   cases hd
 ·intro ks m hm
  obtain ⟨h1, h2⟩ := Tr.del_some hm
  obtain ⟨h3, h4⟩ := h.box ks m h2
  rw [hup ks m h2]
  refine ⟨h3.kp hk (fun g => ?_), h4⟩
  rcases hG _ g with e | e
  ·exact h3.ne_f hrk e
  ·exact e ⟨ks, m, h2, .inl rfl⟩
 ·intro ks m hm hmd
  obtain ⟨h1, h2⟩ := Tr.del_some hm
  obtain ⟨h3, h4⟩ := h.kids ks m h2 hmd
  refine ⟨?_, h4⟩
  by_cases h0 : ks = []
  ·subst h0
   rw [hr] at h2
   injection h2 with h2
   subst h2
   have : (F.del [k]).kid [] = upd (F.kid []) k none := by
    funext x
    unfold Tr.kid upd
    by_cases hx : x = k
    ·rw [hx, if_pos rfl, List.nil_append, Tr.del_same]; rfl
    ·rw [if_neg hx, List.nil_append, Tr.del_other F (by simpa using hx)]
     rfl
   rw [this]
   exact hmap
  ·have : (F.del [k]).kid ks = F.kid ks := by
    funext x
    unfold Tr.kid
    rw [Tr.del_other F]
    intro e
    have := congrArg List.length e
    rw [List.length_append] at this
    simp at this
    exact h0 this
   rw [this]
   refine h3.kp hk (fun g => ?_)
   rcases hG _ g with e | e
   ·exact h0 (h.inj ks [] m r h2 hr (.inr ⟨hmd, hrd, e⟩))
   ·exact e ⟨ks, m, h2, .inr ⟨hmd, rfl⟩⟩
 ·intro ks ls a b ha hb he
  exact h.inj ks ls a b (Tr.del_some ha).2 (Tr.del_some hb).2 he
end
theorem MemT.del {w w' : World} {B : Nat} {M : MB} {s : TSt} (h : MemT w B M s) {k : ByteArray} {n r : Nd} (hr : s.F [] = some r) (hn : s.F [k] = some n) (hd : n.dir = false) (hmap : MapF w' r.kb (upd (s.F.kid []) k none)) (hk : Kp (fun i => i = r.kb) w w') :
  MemT w' B M { s with F := s.F.del [k] } := by
 have hrd : r.dir = true := by
  obtain ⟨r', h1, _, h3⟩ := h.tree.root
  rw [hr] at h1
  injection h1 with h1
  rw [h1]; exact h3
 have ho : s.F.own r.kb := ⟨[], r, hr, .inr ⟨hrd, rfl⟩⟩
 obtain ⟨b1, b2, b3, b4⟩ := h.b_ne
 exact ⟨h.box.kp hk (fun e => b4 (e ▸ ho)), h.clk.kp hk (fun e => h.cb_ne (e ▸ ho)), h.ca.kp hk (fun e => h.ca_ne.2 (e ▸ ho)), h.si.kp hk (fun e => h.si_ne.2 (e ▸ ho)), h.ne1, h.tree.del hr hn hd hmap hk (fun i e => .inl e), h.lo⟩
theorem MemT.counts {w : World} {B : Nat} {M : MB} {s : TSt} (h : MemT w B M s) (n : Int) : MemT (w.setCell ⟨M.b, 11, none⟩ (.int .i64 n)) B M { s with cnt := n } := by
 have hk : Kp (fun i => i = M.b) w (w.setCell ⟨M.b, 11, none⟩ (.int .i64 n)) := (Kp.refl (fun i => i = M.b) w).set (b := M.b) (.inl rfl) 11 _
 obtain ⟨b1, b2, b3, b4⟩ := h.b_ne
 exact ⟨h.box.putAt 11 (.int .i64 n), h.clk.kp hk (fun e => b3 e.symm), h.ca.kp hk (fun e => b1 e.symm), h.si.kp hk (fun e => b2 e.symm), h.ne1, h.tree.kp hk (fun i hi e => b4 (e ▸ hi)), h.lo⟩
end Go.Proofs.YtchfhojighopkaaGreatDoor
namespace Go.Proofs.YtchfhojighopkaaGreatDoor
open Go.RowKit Wh.Sha

def nmN : ByteArray := ⟨#[110, 101, 119]⟩
def nmP : ByteArray := ⟨#[112]⟩
def nmQ : ByteArray := ⟨#[113]⟩
def nmR : ByteArray := ⟨#[114]⟩
/-- The names, in their order. -/
def nm4 : List ByteArray := [nmN, nmP, nmQ, nmR]
/-- What the stores can do. -/
def wideF : Wh.Feat := ⟨3071, 16, 1, 255, 1024, 100000, 4, 1, ⟨#[]⟩⟩
theorem nm4_cases {p : ByteArray} (h : p ∈ nm4) : p = nmN ∨ p = nmP ∨ p = nmQ ∨ p = nmR := by simpa [nm4] using h
theorem nm4_names {p : ByteArray} (h : p ∈ nm4) : Wh.namesOf p = [p] := by
 rcases nm4_cases h with rfl | rfl | rfl | rfl <;> decide
theorem ky_wide (n : ByteArray) : kyOf wideF n = n := by
 unfold kyOf
 rw [if_pos (by decide)]
theorem nm4_keys {p : ByteArray} (h : p ∈ nm4) : kysOf wideF p = [p] := by
 unfold kysOf
 rw [nm4_names h]
 simp [ky_wide]
theorem nm4_size {p : ByteArray} (h : p ∈ nm4) : p.size ≤ 3 := by
 rcases nm4_cases h with rfl | rfl | rfl | rfl <;> decide
theorem nm4_ok {p : ByteArray} (h : p ∈ nm4) : PathOk wideF p := by
 rcases nm4_cases h with rfl | rfl | rfl | rfl <;> exact ⟨by rw [Lib.toList_data]; rfl, by decide, by decide⟩
/-- A file of these stores. -/
structure FileN (k : ByteArray) (n : Nd) : Prop where
 mem : k ∈ nm4
 name : n.name = k
 dir : n.dir = false
 mt : n.mt = .slice none 0 0
 data : n.data.size ≤ 1000
 time : -9223372036854775808 ≤ n.time ∧ n.time ≤ 9223372036854775807
/-- A store that holds such files alone. -/
structure FlatS (N : Int) (s : TSt) : Prop where
 feat : s.f = wideF
 only : ∀ ks n, s.F ks = some n → ks = [] ∨ ∃ k, ks = [k] ∧ FileN k n
 cnt : s.cnt = ((nm4.filter (fun k => (s.F [k]).isSome)).length : Int)
 made : 0 ≤ s.made ∧ s.made ≤ N
 now : -9223372036854775808 ≤ s.now ∧ s.now ≤ 9223372036854775807
section
variable {N : Int} {s : TSt}
theorem FlatS.file (h : FlatS N s) {k : ByteArray} {n : Nd} (hn : s.F [k] = some n) : FileN k n := by
 rcases h.only _ _ hn with e | ⟨k', e, hf⟩
 ·cases e
 ·injection e with e _
  subst e
  exact hf
theorem FlatS.cnt_le (h : FlatS N s) : 0 ≤ s.cnt ∧ s.cnt ≤ 4 := by
 rw [h.cnt]
 have := List.length_filter_le (fun k => (s.F [k]).isSome) nm4
 have e : nm4.length = 4 := rfl
 omega
theorem FlatS.way (_h : FlatS N s) {p : ByteArray} {i : Nat} {n : Nd} {w : World} {B rb : Nat} (hT : TreeAt w B rb (kyOf s.f) s.F) (hw : WayIs s.F [p] i n) : i = 0 ∧ s.F [] = some n ∧ n.dir = true := by
 obtain ⟨h1, h2, _⟩ := hw
 have hi : i = 0 := by simp at h1; omega
 subst hi
 have h3 : s.F [] = some n := h2
 obtain ⟨r, h4, _, h5⟩ := hT.root
 rw [h3] at h4
 injection h4 with h4
 exact ⟨rfl, h3, by rw [h4]; exact h5⟩
theorem FlatS.noPutZ (h : FlatS N s) {p : ByteArray} (_hp : p ∈ nm4) {w : World} {B rb : Nat} (hT : TreeAt w B rb (kyOf s.f) s.F) {d : Nat} (hd : d ≤ 1000) {z : Int} (hz : PutZ s.f s.F [p] s.cnt d [] z) : z = 0 := by
 obtain ⟨i, nd, hw, hc⟩ := hz
 obtain ⟨rfl, h1, h2⟩ := h.way hT hw
 have hpl : placeZ s.f s.F [p] 0 nd = 0 := by
  unfold placeZ
  rw [if_neg (by rw [h2]; decide)]
  rw [if_neg, if_neg]
  ·simp
  ·cases hF : s.F [p] with
   | none => simp
   | some m => simp [(h.file hF).dir]
 rcases hc with ⟨e, _⟩ | ⟨_, ⟨_, e⟩ | ⟨_, e⟩ | ⟨_, _, fr, hfr, e⟩⟩
 ·exact absurd hpl e
 ·exact absurd rfl e
 ·rw [h.feat] at e
  simp only [wideF] at e
  omega
 ·rw [e, if_neg]
  have hcl := h.cnt_le
  rcases hfr with ⟨_, rfl⟩ | ⟨_, j, m, hj, rfl⟩
  ·omega
  ·simp
   omega
end
/-- One of the files is told otherwise. -/
theorem count_upd {F F' : Tr} {p : ByteArray} (hp : p ∈ nm4) (ho : ∀ k, k ≠ p → (F' [k]).isSome = (F [k]).isSome) :
  ((nm4.filter (fun k => (F' [k]).isSome)).length : Int) = ((nm4.filter (fun k => (F [k]).isSome)).length : Int) + (if (F' [p]).isSome then 1 else 0) - (if (F [p]).isSome then 1 else 0) := by
 have hNP : nmN ≠ nmP := by decide
 have hNQ : nmN ≠ nmQ := by decide
 have hNR : nmN ≠ nmR := by decide
 have hPQ : nmP ≠ nmQ := by decide
 have hPR : nmP ≠ nmR := by decide
 have hQR : nmQ ≠ nmR := by decide
 have key : ∀ G : Tr, ((nm4.filter (fun k => (G [k]).isSome)).length : Int) = (if (G [nmN]).isSome then 1 else 0) + (if (G [nmP]).isSome then 1 else 0) + (if (G [nmQ]).isSome then 1 else 0) + (if (G [nmR]).isSome then 1 else 0) := fun G => by
  unfold nm4
  simp only [List.filter_cons, List.filter_nil]
  cases (G [nmN]).isSome <;> cases (G [nmP]).isSome <;> cases (G [nmQ]).isSome <;> cases (G [nmR]).isSome <;> rfl
 rw [key, key]
 rcases nm4_cases hp with rfl | rfl | rfl | rfl
 ·rw [ho nmP hNP.symm, ho nmQ hNQ.symm, ho nmR hNR.symm]; omega
 ·rw [ho nmN hNP, ho nmQ hPQ.symm, ho nmR hPR.symm]; omega
 ·rw [ho nmN hNQ, ho nmP hPQ, ho nmR hQR.symm]; omega
 ·rw [ho nmN hNR, ho nmP hPR, ho nmQ hQR]; omega
end Go.Proofs.YtchfhojighopkaaGreatDoor
namespace Go.Proofs.YtchfhojighopkaaGreatDoor
open Go.RowKit Wh.Sha

/-- A call that may have changed the store. -/
def PutF (w : World) (B : Nat) (M : MB) (s : TSt) (N : Int) (e : Ending) (w' : World) : Prop :=
 ∃ s' A z t' sa sn sc ix, e = .returned (.tuple #[.agg (infoArr A false z t' (.slice sa sn sc) ix), .int .i64 0]) ∧ MemT w' B M s' ∧ FlatS N s' ∧ Kp (MTf M s.F) w w' ∧ (∀ i, s'.F.own i → s.F.own i ∨ w.heap.size ≤ i)
theorem putF_any (w0 w : World) (T : Tabs) (M : MB) (s : TSt) (N : Int) (p d : ByteArray) (t : Int) (hG : Gr w0 T) (hb0 : Below w0.heap.size w0 w) (hM : MemT w w0.heap.size M s) (hS : FlatS N s) (hN : N ≤ 1000) (hp : p ∈ nm4) (hd : d.size ≤ 1000) (ht : -9223372036854775808 ≤ t ∧ t ≤ 9223372036854775807) :
  Calls Tryz.prog 6 #[ptr M.b, .string p, .string d, .int .i64 t, .slice none 0 0] w (PutF w w0.heap.size M s (N + 1)) := by
 have hk : kysOf s.f p = [p] := by rw [hS.feat]; exact nm4_keys hp
 have ho := nm4_ok hp
 have hcl := hS.cnt_le
 have hmd := hS.made
 refine (putCT_any w0 w T M s p d t hb0 hM hG.env hG.pow ho.size ho.ne (fun W hb hfb => ?_) ⟨hcl.1, by omega⟩ ⟨hmd.1, by omega⟩ (fun i n hw => ?_) (fun m hm => ?_) ?_ (fun z hz => ?_) ?_ (by omega) hG ht hS.now ?_).mono ?_
 ·rw [hS.feat] at hfb
  exact isNewT_ok M.b wideF p W (hG.env.below hb (Nat.le_refl _)) ho hfb (by decide) (by intro b hb; simp [wideF] at hb)
 ·rw [hk] at hw
  exact (hS.way hM.tree hw).2.2
 ·rw [hk] at hm
  exact (hS.file hm).dir
 ·rw [hS.feat]; decide
 ·rw [hk] at hz
  exact hS.noPutZ hp hM.tree hd hz
 ·rw [hk]
  have := nm4_size hp
  show klen [p] ≤ 4096
  simp [klen]
  omega
 ·rw [hS.feat]; decide
 ·rintro e w' ⟨s', n, sa, sn, sc, ix, he, h1, ⟨h2, h2'⟩, h3, ⟨h4, h5, h6, h7⟩, h8, h9, h10⟩
  rw [hk] at h3 h10
  rw [nm4_names hp] at h10
  refine ⟨s', _, _, _, _, _, _, _, he, h1, ?_, h8, h9⟩
  have hnow := hS.now
  have htime : -9223372036854775808 ≤ n.time ∧ n.time ≤ 9223372036854775807 := by
   rw [h6]
   unfold tOfT
   rw [hS.feat]
   have e1 : hasB wideF 4 = true := by decide
   rw [e1, if_pos rfl, show wideF.prec = 1 from rfl, Int.emod_one]
   omega
  have hother : ∀ ls, ls ≠ [p] → s'.F ls = s.F ls := fun ls hl => by
   rcases h10 with ⟨_, _, _, _, q1, q2⟩ | ⟨m, _, q1, _⟩
   ·cases hs' : s'.F ls with
    | none =>
     cases hs : s.F ls with
     | none => rfl
     | some m => rw [q1 ls m hs] at hs'; cases hs'
    | some m =>
     rcases q2 ls m hs' with q | q | ⟨_, i, q, _⟩
     ·rw [q]
     ·exact absurd q hl
     ·simp at q
   ·rw [q1]
    exact Tr.put_other _ _ hl
  have hname : n.name = p := by
   rcases h10 with ⟨_, _, q, _⟩ | ⟨m, q, _, q2⟩
   ·simp at q
    exact q.symm
   ·rw [q2]
    exact (hS.file q).name
  refine ⟨by rw [h2]; exact hS.feat, fun ks m hm => ?_, ?_, ?_, by rw [h2']; exact hnow⟩
  ·by_cases hl : ks = [p]
   ·subst hl
    rw [h3] at hm
    injection hm with hm
    subst hm
    exact .inr ⟨p, rfl, hp, hname, h4, h7, by rw [h5]; exact hd, htime⟩
   ·rw [hother ks hl] at hm
    exact hS.only ks m hm
  ·rw [count_upd hp (fun k hkp => by rw [hother [k] (by simpa using hkp)]), h3, ← hS.cnt]
   rcases h10 with ⟨q0, _, _, ⟨i0, n0, hw, q⟩, _⟩ | ⟨m, q0, q, _⟩
   ·obtain ⟨rfl, _⟩ := hS.way hM.tree hw
    rw [q, q0]
    simp
   ·rw [q, q0]
    simp
  ·rcases h10 with ⟨_, q, _⟩ | ⟨m, _, q, _⟩
   ·rw [q]; omega
   ·rw [q]; exact ⟨hmd.1, by show s.made ≤ N + 1; omega⟩
end Go.Proofs.YtchfhojighopkaaGreatDoor
