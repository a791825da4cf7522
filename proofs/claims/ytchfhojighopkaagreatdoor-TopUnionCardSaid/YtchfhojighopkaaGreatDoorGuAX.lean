/-
  Parts of the proof: Un6, Ub1, Ins, PlainOrder, Ord, TrL.
-/
import Derived.Test.YtchfhojighopkaaGreatDoorGuAW
import Derived.Shelf.SlSortCmp.KitK
import Derived.Sort.Lot0
import Derived.Sort.WalkB2
import Derived.Sort.WalkB12
import Derived.Deep.LoopGhost
import Derived.IntWalk
import Derived.Test.YtchfhojighopkaaGreatDoorGuAA
import Derived.Lib.Small
import Derived.Test.YtchfhojighopkaaGreatDoorGuAB
import Derived.Test.YtchfhojighopkaaGreatDoorGuAC
import Derived.Laws.EntriesVeiled
import Derived.Test.YtchfhojighopkaaGreatDoorGuAU
namespace Go.Proofs.YtchfhojighopkaaGreatDoor
open Go.RowKit Wh.Sha

theorem root_dir {w : World} {B rb : Nat} {K : ByteArray → ByteArray} {F : Tr} (h : TreeAt w B rb K F) {r : Nd} (hr : F [] = some r) : r.dir = true := by
 obtain ⟨r', h1, _, h3⟩ := h.root
 rw [hr] at h1
 injection h1 with h1
 rw [h1]; exact h3
set_option maxHeartbeats 4000000 in
set_option maxRecDepth 100000 in
theorem dropT_any (w : World) (B : Nat) (M : MB) (s : TSt) (k : ByteArray) (n r : Nd) (hM : MemT w B M s) (hr : s.F [] = some r) (hn : s.F [k] = some n) (hd : n.dir = false) (hc : 0 ≤ s.cnt ∧ s.cnt ≤ 5000) (hsz : n.name.size ≤ 1024) :
  Calls Tryz.prog 166 #[ptr M.b, ptr n.b] w fun e w' => e = .returned (.tuple #[]) ∧ MemT w' B M { s with cnt := s.cnt - 1, F := s.F.del [k] } ∧ Kp (fun i => i = r.kb ∨ i = M.b) w w' := by
 have hrd := root_dir hM.tree hr
 have hky : kyOf s.f n.name = k := (hM.tree.dirs [] k n hn).2.1
 have hmx : k.size ≤ maxLen := (hM.tree.dirs [] k n hn).2.2
 have hup : s.F.up [k] = some (adr r) := by
  show (if [k] = [] then none else (s.F [k].dropLast).map adr) = some (adr r)
  rw [if_neg (by simp)]
  show (s.F []).map adr = _
  rw [hr]; rfl
 have hbn := (hM.tree.box _ _ hn).1
 have hbr := (hM.tree.box _ _ hr).1
 rw [hup] at hbn
 have hur : s.F.up [] = none := by simp [Tr.up]
 rw [hur] at hbr
 have c2 : w.cell? ⟨n.b, 2, none⟩ = some (ptr r.b) := hbn.cell (j := 2) rfl
 have e0 : w.drew.cell? ⟨n.b, 0, none⟩ = some (.string n.name) := hbn.cell (j := 0) rfl
 have e3 : w.drew.cell? ⟨r.b, 3, none⟩ = some (.map (some r.kb)) := by
  have : w.drew.cell? ⟨r.b, 3, none⟩ = some (.map (if r.dir then some r.kb else none)) := hbr.cell (j := 3) rfl
  rw [hrd, if_pos rfl] at this
  exact this
 have HM := Lib.hid hM
 have HKd := Lib.hid (hM.drew.tree.kids [] r hr hrd).1
 have HKy := Lib.hid (keyT_any M.b s.f n.name w.drew (Nat.le_trans hsz (by decide)) hM.drew.has)
 rw [hky] at HKy
 have HR := Lib.hid hbr
 have HA := Lib.hid (And.intro hr (And.intro hn (And.intro hd (And.intro hrd hmx))))
 have ho : s.F.own r.kb := ⟨[], r, hr, .inr ⟨hrd, rfl⟩⟩
 have HNe : Hid (M.b ≠ r.kb ∧ r.b ≠ r.kb ∧ n.b ≠ r.kb ∧ r.b ≠ M.b) := Lib.hid ⟨fun e => hM.b_ne.2.2.2 (e ▸ ho), hbr.ne_f HKd.out, hbn.ne_f HKd.out, fun e => hM.b_ne.2.2.2 (e ▸ ⟨[], r, hr, .inl rfl⟩)⟩
 obtain ⟨n1, hn1⟩ : ∃ n1 : Int, s.cnt - 1 = n1 := ⟨_, rfl⟩
 have e1 : IntKind.i64.wrap (s.cnt - 1) = n1 := by rw [IntKind.wrap_i64]; omega
 have HN1 := Lib.hid hn1
 clear hM hr hn hd hc hsz hrd hky hmx hup hbn hbr hur ho hn1
 obtain ⟨zr, hzr⟩ : ∃ z, r.b = z := ⟨_, rfl⟩
 obtain ⟨zn, hzn⟩ : ∃ z, n.b = z := ⟨_, rfl⟩
 obtain ⟨zk, hzk⟩ : ∃ z, r.kb = z := ⟨_, rfl⟩
 rw [hzr] at c2 e3 HR HNe
 rw [hzn] at c2 e0 HNe
 rw [hzk] at e3 HKd HNe
 have HZ := Lib.hid (And.intro hzr (And.intro hzn hzk))
 simp only [hzn, hzk]
 clear hzr hzn hzk
 go_enter Tryz.func166, Tryz.ntmps166
 go_upto_region 1 with fail
 clear c2
 refine wp_region_seq (fun W => W.cell? ⟨zn, 0, none⟩ = some (.string n.name) ∧ W.cell? ⟨zr, 3, none⟩ = some (.map (some zk))) [(0, true), (1, true), (2, true), (3, true), (4, true), (5, true), (6, true), (7, true), (8, true), (9, false), (10, false)] (by as_aux_lemma => kernel_rfl) (by as_aux_lemma => kernel_rfl) (by decide) (by as_aux_lemma => kernel_rfl) ⟨e0, e3⟩ ?_
 intro OPS HO
 iterate 9
  refine seq_take (o := ⟨_, _, _, _, _, _⟩) (v := ?_) (by rw [HO.out]; rfl) (by rfl) ?_ ?_
  rotate_left 1
  ·first | ((intro W _; go_simp) <;> with_reducible rfl) | (intro W hW; obtain ⟨hW0, hW1⟩ := hW; (go_simp <;> with_reducible rfl))
  try simp only [Act.put, List.setIfInBounds_toArray, List.set_cons_zero, List.set_cons_succ]
 refine seq_do (o := ⟨_, _, _, _, _, _⟩) (by rw [HO.out]; rfl) (by rfl) (fun K hK => ?_)
 go_wp2_with (go_at_call 102; refine HKy.out.mono ?_; rintro e w5 ⟨rfl, hb5⟩)
 have hS : w5.cell? ⟨zn, 0, none⟩ = some (.string n.name) ∧ w5.cell? ⟨zr, 3, none⟩ = some (.map (some zk)) := ⟨cell_kp (Kp.of (F := fun _ => False) hb5) e0 (fun e => e), cell_kp (Kp.of (F := fun _ => False) hb5) e3 (fun e => e)⟩
 refine hK.out _ _ hS (fun _ => ?_)
 clear hK K
 try simp only [Act.put, List.setIfInBounds_toArray, List.set_cons_zero, List.set_cons_succ]
 refine seq_do (o := ⟨_, _, _, _, _, _⟩) (by rw [HO.out]; rfl) (by rfl) (fun K hK => ?_)
 refine wp_delete_f w5 (HKd.out.kp (Kp.of (F := fun _ => False) hb5) (fun e => e)) _ _ _ _ rfl Tryz.underlying9 HA.out.2.2.2.2 Tryz.underlying106 rfl rfl (fun w6 hw6a hw6b => ?_)
 replace hS : w6.cell? ⟨zn, 0, none⟩ = some (.string n.name) ∧ w6.cell? ⟨zr, 3, none⟩ = some (.map (some zk)) := ⟨cell_kp hw6b hS.1 HNe.out.2.2.1, cell_kp hw6b hS.2 HNe.out.2.1⟩
 refine hK.out _ _ hS (fun _ => ?_)
 clear hK K
 try simp only [Act.put]
 refine seq_done ?_
 have hb9 : Below w.heap.size w w5 := Below.undrew hb5
 have HK5 : Hid (Kp (fun i => i = zk ∨ i = M.b) w w6) := Lib.hid ((Kp.of hb9).trans (hw6b.mono (fun i e => .inl e)))
 have HM6 : Hid (MemT w6 B M { s with F := s.F.del [k] }) := Lib.hid ((HM.out.below hb9).del HA.out.1 HA.out.2.1 HA.out.2.2.1 (by rw [HZ.out.2.2]; exact hw6a) (by rw [HZ.out.2.2]; exact hw6b))
 have HR6 : Hid (BoxIs w6 zr _ 108) := Lib.hid ((HR.out.under hb9).kp hw6b HNe.out.2.1)
 have g3 : w6.cell? ⟨M.b, 11, none⟩ = some (.int .i64 s.cnt) := HM6.out.count
 have g4 : w6.frozen? ⟨M.b, 11, none⟩ = false := Lib.frozen_of_heap HM6.out.box 11
 clear hb5 hb9 hw6a hw6b hS e0 e3
 go_upto_region 3 with fail
 have HM7 : Hid (MemT (w6.setCell ⟨M.b, 11, none⟩ (.int .i64 n1)) B M { s with cnt := n1, F := s.F.del [k] }) := Lib.hid (HM6.out.counts n1)
 have hk7 : Kp (fun i => i = M.b) w6 (w6.setCell ⟨M.b, 11, none⟩ (.int .i64 n1)) := (Kp.refl (fun i => i = M.b) w6).set (b := M.b) (.inl rfl) 11 _
 have r2 : (w6.setCell ⟨M.b, 11, none⟩ (.int .i64 n1)).cell? ⟨zr, 2, none⟩ = some (.pointer none) := (HR6.out.kp hk7 HNe.out.2.2.2).cell (j := 2) rfl
 have HK7 := Lib.hid hk7
 clear g3 g4 hk7
 generalize w6.setCell ⟨M.b, 11, none⟩ (.int .i64 n1) = w7 at *
 go_wp2_with fail
 go_end0
 exact ⟨rfl, by rw [HN1.out]; exact HM7.out, HK5.out.trans (HK7.out.mono (fun i e => .inr e))⟩
/-- What Remove has done. -/
def RemF (w : World) (B : Nat) (M : MB) (s : TSt) (N : Int) (e : Ending) (w' : World) : Prop :=
 ∃ s', e = .returned (.int .i64 0) ∧ MemT w' B M s' ∧ FlatS N s' ∧ Kp (MTf M s.F) w w' ∧ (∀ i, s'.F.own i → s.F.own i)
set_option maxHeartbeats 4000000 in
set_option maxRecDepth 100000 in
theorem removeF_any (w0 w : World) (M : MB) (s : TSt) (N : Int) (p : ByteArray) (n : Nd) (hE : Env w0) (hb0 : Below w0.heap.size w0 w) (hM : MemT w w0.heap.size M s) (hS : FlatS N s) (hp : p ∈ nm4) (hn : s.F [p] = some n) :
  Calls Tryz.prog 162 #[ptr M.b, .string p] w (RemF w w0.heap.size M s N) := by
 have hk : kysOf s.f p = [p] := by rw [hS.feat]; exact nm4_keys hp
 have ho := nm4_ok hp
 have hf := hS.file hn
 obtain ⟨r, hr, _, hrd⟩ := hM.tree.root
 have hown : s.F.own r.kb := ⟨[], r, hr, .inr ⟨hrd, rfl⟩⟩
 have hcl := hS.cnt_le
 have HBe := Lib.hid (beginT_any 4 (by decide) w w0.heap.size M s hM)
 have HIf := Lib.hid (fun W (hb : Below w0.heap.size w0 W) => isFileT_ok wideF p W (hE.below hb (Nat.le_refl _)) ho)
 have HFi := Lib.hid (fun W (hb : Below w0.heap.size w0 W) (h : MemT W w0.heap.size M s) => fileT_any W w0.heap.size M s p n h (hE.below hb (Nat.le_refl _)) ho.size (by rw [hk]; exact hn) hf.dir)
 have HKe := Lib.hid (fun W (h : MemT W w0.heap.size M s) => keepT_off M.b n.b s.f W h.has (by rw [hS.feat]; decide))
 have HDr := Lib.hid (fun W (h : MemT W w0.heap.size M s) => dropT_any W w0.heap.size M s p n r h hr hn hf.dir ⟨hcl.1, by omega⟩ (by rw [hf.name]; have := nm4_size hp; omega))
 have HM := Lib.hid hM
 have HB0 := Lib.hid hb0
 have HFin : Hid (FlatS N { s with cnt := s.cnt - 1, F := s.F.del [p] }) := Lib.hid (by
  refine ⟨hS.feat, fun ks m hm => hS.only ks m (Tr.del_some hm).2, ?_, hS.made, hS.now⟩
  rw [count_upd (F := s.F) hp (fun k hkp => by dsimp only; rw [Tr.del_other _ (by simpa using hkp)]), ← hS.cnt]
  dsimp only
  simp [Tr.del_same, hn])
 have HOw := Lib.hid hown
 obtain ⟨zn, hzn⟩ : ∃ z, n.b = z := ⟨_, rfl⟩
 rw [hzn] at HFi HKe HDr
 clear hE hb0 hM hS hp hn hk ho hf hr hrd hown hcl hzn
 go_enter Tryz.func162, Tryz.ntmps162
 go_upto_region 4 with (go_at_call 163; refine HBe.out.mono ?_; rintro e w1 ⟨rfl, hm1, hk1, hz1⟩)
 have HM1 := Lib.hid hm1
 have HK1 : Hid (Kp (MTf M s.F) w w1) := Lib.hid (hk1.mono (fun i e => e.elim (fun e => .inr (.inl e)) (fun e => .inr (.inr (.inl e)))))
 have HB1 : Hid (Below w0.heap.size w0 w1) := Lib.hid (HB0.out.trans (HK1.out.below (fun i h => HM.out.mf h) HB0.out.size))
 clear hm1 hk1 hz1 HBe
 go_upto_region 7 with (go_at_call 40; refine (HIf.out _ HB1.out).mono ?_; rintro e w2 ⟨rfl, hb2⟩)
 have HM2 := Lib.hid (HM1.out.below hb2)
 have HK2 : Hid (Kp (MTf M s.F) w w2) := Lib.hid (HK1.out.trans (Kp.of hb2))
 have HB2 : Hid (Below w0.heap.size w0 w2) := Lib.hid (HB1.out.trans (Below.mono hb2 HB1.out.size))
 clear hb2 HM1 HK1 HB1 HIf
 go_upto_region 10 with (go_at_call 164; refine (HFi.out _ HB2.out HM2.out).mono ?_; rintro e w3 ⟨rfl, hb3⟩)
 have HM3 := Lib.hid (HM2.out.below hb3)
 have HK3 : Hid (Kp (MTf M s.F) w w3) := Lib.hid (HK2.out.trans (Kp.of hb3))
 have HKe3 := Lib.hid (HKe.out _ HM3.out)
 have HDr3 := Lib.hid (HDr.out _ HM3.out)
 clear hb3 HM2 HK2 HB2 HFi HKe HDr
 go_wp2_with (first
  | (go_at_call 80; refine HKe3.out.mono ?_; rintro e w' ⟨rfl, hw⟩; (have hw2 := hw.symm; clear hw; subst hw2))
  | (go_at_call 166; refine HDr3.out.mono ?_; rintro e w4 ⟨rfl, hm4, hk4⟩))
 go_ret
 exact ⟨_, rfl, hm4, HFin.out, HK3.out.trans (hk4.mono (fun i e => e.elim (fun e => .inr (.inr (.inr (e ▸ HOw.out)))) (fun e => .inl e))), fun i hi => Tr.del_own hi⟩
end Go.Proofs.YtchfhojighopkaaGreatDoor
namespace Go.Proofs.YtchfhojighopkaaGreatDoor
open Go.RowKit Wh.Sha

/-- Two stores: their blocks, what they hold. -/
structure Two where
 M : Bool → MB
 s : Bool → TSt
/-- The blocks that calls of the two stores may change; all of their blocks. -/
def Two.foot (S : Two) (i : Nat) : Prop := ∃ b, MTf (S.M b) (S.s b).F i
def Two.all (S : Two) (i : Nat) : Prop := ∃ b, MTf (S.M b) (S.s b).F i ∨ i = (S.M b).cb
theorem Two.foot_all {S : Two} {i : Nat} (h : S.foot i) : S.all i := h.imp fun _ h => .inl h
def Two.set (S : Two) (b : Bool) (t : TSt) : Two := ⟨S.M, fun c => if c = b then t else S.s c⟩
theorem Two.set_same (S : Two) (b : Bool) : S.set b (S.s b) = S := by
 unfold Two.set
 have : (fun c => if c = b then S.s b else S.s c) = S.s := by
  funext c
  split
  ·rename_i h; rw [h]
  ·rfl
 rw [this]
structure J (w : World) (B : Nat) (S : Two) (N : Int) : Prop where
 mem : ∀ b, MemT w B (S.M b) (S.s b)
 flat : ∀ b, FlatS N (S.s b)
 dis : ∀ b c i, b ≠ c → (MTf (S.M b) (S.s b).F i ∨ i = (S.M b).cb) → (MTf (S.M c) (S.s c).F i ∨ i = (S.M c).cb) → False
section
variable {w w' : World} {B : Nat} {S : Two} {N : Int}
theorem J.kp {G : Nat → Prop} (h : J w B S N) (hk : Kp G w w') (hG : ∀ i, S.all i → ¬ G i) : J w' B S N :=
 ⟨fun b => (h.mem b).kp hk (fun i hi => hG i ⟨b, hi⟩), h.flat, h.dis⟩
theorem J.below (h : J w B S N) (hb : Below w.heap.size w w') : J w' B S N := h.kp (Kp.of (F := fun _ => False) hb) (fun _ _ e => e)
theorem J.lt (h : J w B S N) {i : Nat} (hi : S.all i) : i < w.heap.size := by
 obtain ⟨b, hi⟩ := hi
 exact (h.mem b).lt hi
theorem J.lo (h : J w B S N) {i : Nat} (hi : S.foot i) : B ≤ i := by
 obtain ⟨b, hi⟩ := hi
 exact (h.mem b).mf hi
theorem FlatS.mono {s : TSt} {N' : Int} (h : FlatS N s) (hN : N ≤ N') : FlatS N' s := ⟨h.feat, h.only, h.cnt, ⟨h.made.1, Int.le_trans h.made.2 hN⟩, h.now⟩
/-- What a call has done to the two stores. -/
structure Stp (B : Nat) (S S' : Two) (N' : Int) (w w' : World) : Prop where
 j : J w' B S' N'
 kp : Kp S.foot w w'
 own : ∀ i, S'.foot i → S.foot i ∨ w.heap.size ≤ i
 M : S'.M = S.M
/-- One store has been called. -/
theorem J.step (h : J w B S N) (b : Bool) {t : TSt} {N' : Int} (hm : MemT w' B (S.M b) t) (hf : FlatS N' t) (hN : N ≤ N') (hk : Kp (MTf (S.M b) (S.s b).F) w w') (ho : ∀ i, t.F.own i → (S.s b).F.own i ∨ w.heap.size ≤ i) : Stp B S (S.set b t) N' w w' := by
 have hsb : (S.set b t).s b = t := by simp [Two.set]
 have hso : ∀ c, c ≠ b → (S.set b t).s c = S.s c := fun c hc => by simp [Two.set, hc]
 have hft : ∀ i, (MTf (S.M b) t.F i ∨ i = (S.M b).cb) → (MTf (S.M b) (S.s b).F i ∨ i = (S.M b).cb) ∨ w.heap.size ≤ i := fun i hi => by
  rcases hi with (hi | hi | hi | hi) | hi
  ·exact .inl (.inl (.inl hi))
  ·exact .inl (.inl (.inr (.inl hi)))
  ·exact .inl (.inl (.inr (.inr (.inl hi))))
  ·exact (ho i hi).imp (fun h => .inl (.inr (.inr (.inr h)))) id
  ·exact .inl (.inr hi)
 refine ⟨⟨fun c => ?_, fun c => ?_, fun c d i hcd h1 h2 => ?_⟩, hk.mono (fun i hi => ⟨b, hi⟩), fun i hi => ?_, rfl⟩
 ·by_cases hc : c = b
  ·rw [hc, hsb]
   exact hm
  ·rw [hso c hc]
   exact (h.mem c).kp hk (fun i hi g => h.dis c b i hc hi (.inl g))
 ·by_cases hc : c = b
  ·rw [hc, hsb]
   exact hf
  ·rw [hso c hc]
   exact (h.flat c).mono hN
 ·by_cases hc : c = b
  ·have hd : d ≠ b := fun e => hcd (hc.trans e.symm)
   rw [hc, hsb] at h1
   rw [hso d hd] at h2
   rcases hft i h1 with q | q
   ·exact h.dis b d i (fun e => hd e.symm) q h2
   ·have := (h.mem d).lt h2
    omega
  ·rw [hso c hc] at h1
   by_cases hd : d = b
   ·rw [hd, hsb] at h2
    rcases hft i h2 with q | q
    ·exact h.dis c b i hc h1 q
    ·have := (h.mem c).lt h1
     omega
   ·rw [hso d hd] at h2
    exact h.dis c d i hcd h1 h2
 ·obtain ⟨c, hi⟩ := hi
  by_cases hc : c = b
  ·rw [hc, hsb] at hi
   rcases hi with hi | hi | hi | hi
   ·exact .inl ⟨b, .inl hi⟩
   ·exact .inl ⟨b, .inr (.inl hi)⟩
   ·exact .inl ⟨b, .inr (.inr (.inl hi))⟩
   ·exact (ho i hi).imp (fun h => ⟨b, .inr (.inr (.inr h))⟩) id
  ·rw [hso c hc] at hi
   exact .inl ⟨c, hi⟩
/-- A store has been asked. -/
theorem J.asked (h : J w B S N) (b : Bool) (hm : MemT w' B (S.M b) (S.s b)) (hk : Kp (MTf (S.M b) (S.s b).F) w w') : J w' B S N ∧ Kp S.foot w w' := by
 have := h.step b hm (h.flat b) (Int.le_refl _) hk (fun i hi => .inl hi)
 rw [Two.set_same] at this
 exact ⟨this.j, this.kp⟩
theorem Stp.trans {S' S'' : Two} {N' N'' : Int} {w'' : World} (h : Stp B S S' N' w w') (k : Stp B S' S'' N'' w' w'') : Stp B S S'' N'' w w'' :=
 ⟨k.j, h.kp.chain k.kp (fun i hi => h.own i hi), fun i hi => (k.own i hi).elim (fun h1 => h.own i h1) (fun h1 => .inr (Nat.le_trans h.kp.size h1)), k.M.trans h.M⟩
theorem Stp.refl (h : J w B S N) : Stp B S S N w w := ⟨h, Kp.refl _ _, fun _ hi => .inl hi, rfl⟩
end
end Go.Proofs.YtchfhojighopkaaGreatDoor
namespace Go.Proofs.YtchfhojighopkaaGreatDoor
open Go.RowKit Go.Shelf Go.Lib Go.Sort

/-- One list is the other's, put otherwise. -/
def Pm {α : Type} (d d' : Array α) : Prop := d'.size = d.size ∧ d'.toList.Perm d.toList
theorem Pm.refl {α : Type} (d : Array α) : Pm d d := ⟨rfl, List.Perm.refl _⟩
theorem Pm.trans {α : Type} {a b c : Array α} (h : Pm a b) (k : Pm b c) : Pm a c := ⟨k.1.trans h.1, k.2.trans h.2⟩
theorem Pm.swp {α : Type} [Inhabited α] {d d' : Array α} (h : Pm d d') {i j : Nat} (hi : i < d'.size) (hj : j < d'.size) : Pm d (Go.Sort.swp d' i j) := by
 have hp := swp_permIn d' 0 d'.size i j (Nat.zero_le _) hi (Nat.zero_le _) hj (Nat.le_refl _)
 refine h.trans ⟨size_swp _ _ _, ?_⟩
 have e1 : (Go.Sort.swp d' i j).extract 0 d'.size = Go.Sort.swp d' i j := by
  have : (Go.Sort.swp d' i j).size = d'.size := size_swp _ _ _
  rw [← this]; simp
 have e2 : d'.extract 0 d'.size = d' := by simp
 have := hp.2.2
 rw [e1, e2] at this
 exact this
/-- In order: no one is less than the one ahead of it. -/
def Srt {α : Type} [Inhabited α] (cf : α → α → Int) (d : Array α) : Prop := ∀ j, j + 1 < d.size → ¬ cf d[j + 1]! d[j]! < 0
/-- Put otherwise, and left as it is where it is in order. -/
def Pm2 {α : Type} [Inhabited α] (cf : α → α → Int) (d d' : Array α) : Prop := Pm d d' ∧ (Srt cf d → d' = d)
theorem Pm2.refl {α : Type} [Inhabited α] (cf : α → α → Int) (d : Array α) : Pm2 cf d d := ⟨Pm.refl d, fun _ => rfl⟩
theorem Pm2.swp {α : Type} [Inhabited α] {cf : α → α → Int} {d d' : Array α} (h : Pm2 cf d d') {j : Nat} (hj : j + 1 < d'.size) (hc : cf d'[j + 1]! d'[j]! < 0) : Pm2 cf d (Go.Sort.swp d' (j + 1) j) := by
 refine ⟨h.1.swp hj (by omega), fun hs => ?_⟩
 have e := h.2 hs
 rw [e] at hc hj
 exact absurd hc (hs j hj)

variable {α : Type} [Inhabited α]
set_option maxHeartbeats 4000000 in
set_option maxRecDepth 1000000 in
theorem insI_any (k : Nat) (aE : ∀ w, (isAgg 37).run Tryz.prog w = .ok true w) (zE : ∀ w, (Go.sizeOf 37).run Tryz.prog w = .ok k w) (enc : α → List Value) (cf : α → α → Int) (g : Nat) (cb : Array Value) (blk off cap a b : Nat) (d0 d : Array α) (w0 w : World)
  (eg : ∀ args w, (callFunc g args).run Tryz.prog w = .ok (.enter g args) w) (hcmp : CmpLays Tryz.prog g cb enc k cf blk off d0.size w0) (R : RowK enc k w0 blk off d0) (hs : d0.size = d.size) (S : SWK enc k w0 blk off d w) (hb : b ≤ d.size) (hsz : d.size < 4611686018427387904) (ha : a < 4611686018427387904) :
  Calls Tryz.prog 112 #[.slice (some ⟨blk, off, none⟩) d.size cap, .int .i64 a, .int .i64 b, .func (.func g) #[] cb] w fun e w' => e = .returned (.tuple #[]) ∧ ∃ d', Pm2 cf d d' ∧ SWK enc k w0 blk off d' w' := by
 have S0 : Aside (SWK enc k w0 blk off d w) := S
 have mixed : Tryz.prog.follows .mixedOrders = true := by kernel_rfl
 have HC : Aside _ := hcmp
 clear S hcmp
 go_enter Tryz.func112, Tryz.ntmps112
 go_wp2_with fail
 go_loopg [8] (b - a) (fun g1 s8 wr => ∃ (i : Nat) (dk : Array α), s8 = .int .i64 i ∧ a < i ∧ b - i ≤ g1 ∧ i ≤ 4611686018427387904 ∧ Hid (Pm2 cf d dk) ∧ Aside (SWK enc k w0 blk off dk wr))
 case atStart => exact ⟨a + 1, d, by go_num, by omega, by omega, by omega, Lib.hid (Pm2.refl cf d), S0⟩
 case round =>
  clear S0
  obtain ⟨i, dk, rfl, hai, hg2, hi62, HP, S1⟩ := hrel
  by_cases hlt : i < b
  ·have hltz : (i : Int) < (b : Int) := by omega
   go_wp2_with fail
   go_loopg [9] i (fun g2 s9 wr2 => ∃ (j : Nat) (dj : Array α), s9 = .int .i64 j ∧ a ≤ j ∧ j ≤ i ∧ j = g2 ∧ Hid (Pm2 cf d dj) ∧ Aside (SWK enc k w0 blk off dj wr2))
   case atStart => exact ⟨i, dk, rfl, by omega, Nat.le_refl _, rfl, HP, S1⟩
   case round =>
    clear S1 HP
    obtain ⟨j, dj, rfl, haj, hji, hjg, HP, S2⟩ := hrel
    have hds := HP.out.1.1
    by_cases hja : a < j
    ·have hjaz : (a : Int) < (j : Int) := by omega
     obtain ⟨jp, rfl⟩ : ∃ jp, j = jp + 1 := ⟨j - 1, by omega⟩
     have hPs : Hid (cf dj[jp + 1]! dj[jp]! < 0 → Pm2 cf d (swp dj (jp + 1) jp)) := Lib.hid (fun hc => HP.out.swp (by omega) hc)
     have hJ : IntKind.i64.wrap (((jp + 1 : Nat) : Int) - 1) = (jp : Int) := by rw [IntKind.wrap_i64]; omega
     obtain ⟨y, hy⟩ : ∃ y, jp + 1 = y := ⟨_, rfl⟩
     have hy1 : y < d.size := by omega
     have hjp : jp < d.size := by omega
     rw [hy] at hjaz hPs hJ ⊢
     have HY := Lib.hid (show y = jp + 1 from hy.symm)
     clear hy
     have eA : ((y : Nat) : Int).toNat = y := by omega
     have pA : (0 : Int) ≤ ((y : Nat) : Int) := by omega
     have bA : ((y : Nat) : Int) < (d.size : Int) := by omega
     have rA : IntKind.i64.wrap ((y : Nat) : Int) = ((y : Nat) : Int) := by rw [IntKind.wrap_i64]; omega
     have eB : ((jp : Nat) : Int).toNat = jp := by omega
     have pB : (0 : Int) ≤ ((jp : Nat) : Int) := by omega
     have bB : ((jp : Nat) : Int) < (d.size : Int) := by omega
     have rB : IntKind.i64.wrap ((jp : Nat) : Int) = ((jp : Nat) : Int) := by rw [IntKind.wrap_i64]; omega
     obtain ⟨x0, hx0⟩ : ∃ x, x = dj[y]! := ⟨_, rfl⟩
     obtain ⟨y0, hy0⟩ : ∃ x, x = dj[jp]! := ⟨_, rfl⟩
     have la := S2.out.ld R (by omega) Tryz.prog y (by omega)
     have lb := S2.out.ld R (by omega) Tryz.prog jp (by omega)
     rw [← hx0] at la
     rw [← hy0] at lb
     have hc := S2.out.cmp HC.out (by omega) x0 y0
     rw [← hx0, ← hy0] at hPs
     clear hx0 hy0
     by_cases hv : cf x0 y0 < 0
     ·have hPt := Lib.hid (hPs.out hv)
      clear hPs
      go_wp2_with fail
      go_quiet_grown (first | (go_at_fn g; refine Calls.grown_of (hc _ _)))
      have S3 : Aside (SWK enc k w0 blk off dj (grow (wr.drewN nq) osq)) := S2.out.grown nq osq
      clear la lb hc S2 eA pA bA rA eB pB bB rB hv
      generalize grow (wr.drewN nq) osq = w2 at S3 ⊢
      clear nq osq
      go_wp2_with fail
      have eA : ((y : Nat) : Int).toNat = y := by omega
      have pA : (0 : Int) ≤ ((y : Nat) : Int) := by omega
      have bA : ((y : Nat) : Int) < (d.size : Int) := by omega
      have rA : IntKind.i64.wrap ((y : Nat) : Int) = ((y : Nat) : Int) := by rw [IntKind.wrap_i64]; omega
      have eB : ((jp : Nat) : Int).toNat = jp := by omega
      have pB : (0 : Int) ≤ ((jp : Nat) : Int) := by omega
      have bB : ((jp : Nat) : Int) < (d.size : Int) := by omega
      have rB : IntKind.i64.wrap ((jp : Nat) : Int) = ((jp : Nat) : Int) := by rw [IntKind.wrap_i64]; omega
      have S4 : Aside (SWK enc k w0 blk off (swp dj (y) (jp)) ((w2.drew.setCells blk (off + (y) * k) (enc dj[jp]!)).setCells blk (off + (jp) * k) (enc dj[y]!))) := S3.out.swapped R (y) (jp) (by omega) (by omega)
      have l44a := S3.out.ld1 R (by omega) Tryz.prog (y) (by omega)
      have l44b := S3.out.ld1 R (by omega) Tryz.prog (jp) (by omega)
      have s44a := S3.out.st1 R (by omega) Tryz.prog (y) (by omega) dj[jp]!
      have s44b := S3.out.st2 R (by omega) Tryz.prog (y) (jp) (by omega) (by omega) dj[jp]! dj[y]!
      have n44a : (enc dj[y]!).length = k := R.hk _
      have n44b : (enc dj[jp]!).length = k := R.hk _
      generalize enc dj[y]! = cI44 at S4 l44a s44b n44a
      generalize enc dj[jp]! = cJ44 at S4 l44b s44a s44b n44b
      clear S3
      go_wp2_with fail
      go_big_region_o
      clear l44a l44b s44a s44b eA pA bA rA eB pB bB rB n44a n44b
      generalize (w2.drew.setCells blk (off + (y) * k) cJ44).setCells blk (off + (jp) * k) cI44 = w3 at S4 ⊢
      go_wp2
      go_roundg jp
      case measure => have := HY.out; omega
      case rel => exact ⟨jp, _, by first | rfl | go_num, by have := HY.out; omega, by have := HY.out; omega, rfl, hPt, S4⟩
     ·go_wp2_with fail
      go_quiet_grown (first | (go_at_fn g; refine Calls.grown_of (hc _ _)))
      have S3 : Aside (SWK enc k w0 blk off dj (grow (wr.drewN nq) osq)) := S2.out.grown nq osq
      clear la lb hc S2 eA pA bA rA eB pB bB rB
      generalize grow (wr.drewN nq) osq = w2 at S3 ⊢
      clear nq osq
      go_wp2
      go_roundg (b - (i + 1))
      case measure => omega
      case rel => exact ⟨i + 1, dj, by go_num, by omega, by omega, by omega, HP, S3⟩
    ·have hja2 : j = a := by omega
     rw [hja2]
     clear hja2
     go_wp2_with fail
     go_quiet (fail)
     have S3 : Aside (SWK enc k w0 blk off dj (wr.drewN nq)) := S2.out.drewN nq
     generalize wr.drewN nq = w2 at S3 ⊢
     go_wp2
     go_roundg (b - (i + 1))
     case measure => omega
     case rel => exact ⟨i + 1, dj, by go_num, by omega, by omega, by omega, HP, S3⟩
  ·have hltz : ¬ (i : Int) < (b : Int) := by omega
   go_wp2_with fail
   first | go_end0 | refine bodyPost_ret (results_none rfl _ _ _) rfl ?_
   exact ⟨rfl, dk, HP.out, S1.out⟩
set_option maxHeartbeats 8000000 in
set_option maxRecDepth 1000000 in
theorem stableS_any (k : Nat) (aE : ∀ w, (isAgg 37).run Tryz.prog w = .ok true w) (zE : ∀ w, (Go.sizeOf 37).run Tryz.prog w = .ok k w) (enc : α → List Value) (cf : α → α → Int) (g : Nat) (cb : Array Value) (blk off cap : Nat) (d : Array α) (w : World)
  (eg : ∀ args w, (callFunc g args).run Tryz.prog w = .ok (.enter g args) w) (hcmp : CmpLays Tryz.prog g cb enc k cf blk off d.size w) (R : RowK enc k w blk off d) (hsz : d.size < 20) :
  Calls Tryz.prog 91 #[.slice (some ⟨blk, off, none⟩) d.size cap, .int .i64 d.size, .func (.func g) #[] cb] w fun e w' => e = .returned (.tuple #[]) ∧ ∃ d', Pm2 cf d d' ∧ SWK enc k w blk off d' w' := by
 have HI := Lib.hid (insI_any k aE zE enc cf g cb blk off cap 0 d.size d d w w eg hcmp R rfl (SWK.start R.hH) (Nat.le_refl _) (by omega) (by omega))
 clear hcmp R aE zE eg
 obtain ⟨n, hn⟩ : ∃ n, d.size = n := ⟨_, rfl⟩
 rw [hn] at HI hsz ⊢
 clear hn
 have hn20 : ¬ ((20 : Nat) : Int) ≤ (n : Int) := by omega
 have hn21 : ¬ (20 : Int) < (n : Int) := by omega
 have hn22 : ¬ (20 : Int) ≤ (n : Int) := by omega
 clear hsz
 go_enter Tryz.func91, Tryz.ntmps91
 go_upto_region 2 with fail
 go_loopg [7, 8] 0 (fun gk s7 s8 wr => s7 = .int .i64 0 ∧ s8 = .int .i64 20 ∧ wr = w)
 case atStart => exact ⟨rfl, rfl, rfl⟩
 case round =>
  obtain ⟨rfl, rfl, rfl⟩ := hrel
  go_upto_region 7 with (go_at_call 112; refine HI.out.mono ?_; rintro e w2 ⟨rfl, d2, hp2, hs2⟩)
  have HP := Lib.hid (And.intro hp2 hs2)
  clear hp2 hs2
  go_loopg [6] 0 (fun gk s6 wr2 => s6 = .int .i64 20 ∧ wr2 = w2)
  case atStart => exact ⟨rfl, rfl⟩
  case round =>
   obtain ⟨rfl, rfl⟩ := hrel
   go_wp2_with fail
   first | go_end0 | refine bodyPost_ret (results_none rfl _ _ _) rfl ?_
   exact ⟨rfl, d2, HP.out.1, HP.out.2⟩
end Go.Proofs.YtchfhojighopkaaGreatDoor
namespace Wh
open Go

/-- How a byte counts. -/
def wt (c : UInt8) : Int := if c = 47 then -1 else c.toNat

theorem wt_ne {c : UInt8} (h : ¬ c = 47) : wt c = c.toNat := by simp [wt, h]

theorem byte_ne {c : UInt8} (h : ¬ c = 47) : ((c.toNat : Int) == 47) = false := by
 rw [beq_eq_false_iff_ne]
 intro e
 apply h
 have : c.toNat = 47 := by omega
 exact UInt8.toNat_inj.1 this

/-- P2: the order of trees. -/
def cmpL : List UInt8 → List UInt8 → Int
 | [], [] => 0
 | [], _ :: _ => -1
 | _ :: _, [] => 1
 | x :: a, y :: b => if wt x < wt y then -1 else if wt y < wt x then 1 else cmpL a b

theorem drop_at (s : ByteArray) (k : Nat) (h : k < s.size) : s.data.toList.drop k = s[k]'h :: s.data.toList.drop (k + 1) := by
 rw [List.drop_eq_getElem_cons (by simpa using h)]
 rfl

theorem wt_bd (c : UInt8) : -1 ≤ wt c ∧ wt c ≤ 255 := by
 have := c.toNat_lt
 unfold wt
 split <;> omega

theorem cmpL_lt {x y : UInt8} {a b a' b' : List UInt8} (h : wt x < wt y) (ha : a = x :: a') (hb : b = y :: b') : cmpL a b = -1 := by
 rw [ha, hb, cmpL, if_pos h]
theorem cmpL_gt {x y : UInt8} {a b a' b' : List UInt8} (h : wt y < wt x) (ha : a = x :: a') (hb : b = y :: b') : cmpL a b = 1 := by
 rw [ha, hb, cmpL, if_neg (by omega), if_pos h]
theorem cmpL_eq {x y : UInt8} {a b a' b' : List UInt8} (h : ¬ wt x < wt y) (h2 : ¬ wt y < wt x) (ha : a = x :: a') (hb : b = y :: b') : cmpL a b = cmpL a' b' := by
 rw [ha, hb, cmpL, if_neg h, if_neg h2]
theorem cmpL_end {a b : ByteArray} {k : Nat} (h : ¬ (k < a.size ∧ k < b.size)) (hk : k ≤ min a.size b.size) :
  cmpL (a.data.toList.drop k) (b.data.toList.drop k) = if a.size < b.size then -1 else if b.size < a.size then 1 else 0 := by
 rw [Lib.size_eq, Lib.size_eq] at h hk ⊢
 generalize a.data.toList = a at *
 generalize b.data.toList = b at *
 by_cases c1 : a.length < b.length
 ·rw [if_pos c1, List.drop_eq_nil_of_le (show a.length ≤ k by omega)]
  cases hb : b.drop k with
  | nil => have := List.drop_eq_nil_iff.1 hb; omega
  | cons y b' => rfl
 ·rw [if_neg c1]
  by_cases c2 : b.length < a.length
  ·rw [if_pos c2, List.drop_eq_nil_of_le (show b.length ≤ k by omega)]
   cases hb : a.drop k with
   | nil => have := List.drop_eq_nil_iff.1 hb; omega
   | cons y b' => rfl
  ·rw [if_neg c2, List.drop_eq_nil_of_le (show b.length ≤ k by omega), List.drop_eq_nil_of_le (show a.length ≤ k by omega)]
   rfl
end Wh
namespace Go.Proofs.YtchfhojighopkaaGreatDoor
open Go.RowKit

theorem enters_compare1 : ∀ args w, (callFunc 92 args).run Tryz.prog w = .ok (.enter 92 args) w := enters_of Tryz.func92 (by kernel_rfl) rfl
set_option maxHeartbeats 1000000 in
theorem weight_any (x : UInt8) (w : World) :
  Calls Tryz.prog 92 #[.int .u8 x.toNat] w fun e w' => e = .returned (.int .i64 (Wh.wt x)) ∧ w' = w := by
 have hlt : x.toNat < 256 := x.toNat_lt
 by_cases h : x = 47
 ·subst h
  go_enter Tryz.func92, Tryz.ntmps92
  go_wp2_with fail
  go_ret
  exact ⟨rfl, rfl⟩
 ·have h1 : ((x.toNat : Int) == 47) = false := Wh.byte_ne h
  have h2 := Lib.hid (Wh.wt_ne h)
  clear h
  go_enter Tryz.func92, Tryz.ntmps92
  go_wp2_with fail
  go_ret
  exact ⟨ret_int (by rw [h2.out]), rfl⟩

set_option maxHeartbeats 2000000 in
theorem compare_drew (a b : ByteArray) (w : World) (ha : a.size ≤ 9223372036854775807) (_hb : b.size ≤ 9223372036854775807) :
  Calls Tryz.prog 62 #[.string a, .string b] w fun e w' => e = .returned (.int .i64 (Wh.cmpL a.data.toList b.data.toList)) ∧ ∃ n, w' = w.drewN n := by
 have hen := enters_compare1
 go_enter Tryz.func62, Tryz.ntmps62
 go_wp2_with fail
 go_loopg [6] (min a.size b.size) (fun g i wx => ∃ k n : Nat, k + g = min a.size b.size ∧ i = .int .i64 k ∧ wx = w.drewN n ∧ Hid (Wh.cmpL (a.data.toList.drop k) (b.data.toList.drop k) = Wh.cmpL a.data.toList b.data.toList))
 case atStart => exact ⟨0, 0, by omega, rfl, rfl, Lib.hid rfl⟩
 case round =>
  obtain ⟨k, n, hk, rfl, rfl, HC⟩ := hrel
  by_cases hlt : k < a.size ∧ k < b.size
  ·obtain ⟨hka, hkb⟩ := hlt
   obtain ⟨g, rfl⟩ : ∃ g, gk = g + 1 := ⟨gk - 1, by omega⟩
   obtain ⟨x, hx⟩ : ∃ x : UInt8, a[k]'hka = x := ⟨_, rfl⟩
   obtain ⟨y, hy⟩ : ∃ y : UInt8, b[k]'hkb = y := ⟨_, rfl⟩
   have e1 := Wh.drop_at a k hka
   have e2 := Wh.drop_at b k hkb
   rw [hx] at e1
   rw [hy] at e2
   have H1 := Lib.hid e1
   have H2 := Lib.hid e2
   clear e1 e2
   have b1 := Wh.wt_bd x
   have b2 := Wh.wt_bd y
   by_cases c1 : Wh.wt x < Wh.wt y
   ·have HF := Lib.hid (Wh.cmpL_lt c1 H1.out H2.out)
    go_wp2_with fail
    go_quiet ((go_at_call 92; exact quietAfter (weight_any _ _)))
    go_wp2_with fail
    go_ret
    exact ⟨ret_int (by rw [← HC.out, HF.out]), _, rfl⟩
   by_cases c2 : Wh.wt y < Wh.wt x
   ·have HF := Lib.hid (Wh.cmpL_gt c2 H1.out H2.out)
    go_wp2_with fail
    go_quiet ((go_at_call 92; exact quietAfter (weight_any _ _)))
    go_wp2_with fail
    go_ret
    exact ⟨ret_int (by rw [← HC.out, HF.out]), _, rfl⟩
   ·have HF := Lib.hid (Wh.cmpL_eq c1 c2 H1.out H2.out)
    go_wp2_with fail
    go_quiet ((go_at_call 92; exact quietAfter (weight_any _ _)))
    go_wp2_with fail
    go_roundg g
    case measure => omega
    case rel => exact ⟨k + 1, _, by omega, by go_num, rfl, Lib.hid (by rw [← HC.out, HF.out])⟩
  ·have HF := Lib.hid (Wh.cmpL_end hlt (by omega))
   by_cases c1 : a.size < b.size
   ·go_wp2_with fail
    all_goals go_ret
    all_goals exact ⟨ret_int (by rw [← HC.out, HF.out, if_pos c1]), _, rfl⟩
   by_cases c2 : b.size < a.size
   ·go_wp2_with fail
    all_goals go_ret
    all_goals exact ⟨ret_int (by rw [← HC.out, HF.out, if_neg c1, if_pos c2]), _, rfl⟩
   ·go_wp2_with fail
    all_goals go_ret
    all_goals exact ⟨ret_int (by rw [← HC.out, HF.out, if_neg c1, if_neg c2]), _, rfl⟩

end Go.Proofs.YtchfhojighopkaaGreatDoor
namespace Go.Proofs.YtchfhojighopkaaGreatDoor
open Go.RowKit Go.Shelf Go.Lib Go.Sort
theorem enters_all2 : ∀ args w, (callFunc 61 args).run Tryz.prog w = .ok (.enter 61 args) w := enters_of Tryz.func61 (by kernel_rfl) rfl
theorem kp_swk {α : Type} [Inhabited α] {enc : α → List Value} {k : Nat} {w w' : World} {g off : Nat} {d : Array α} (h : SWK enc k w g off d w') : Kp (fun i => i = g) w w' := by
 obtain ⟨n, os, rfl⟩ := h
 refine ⟨rfl, rfl, rfl, size_sortWorldK_c enc k w g off n d os, fun i hi hne => ?_⟩
 unfold sortWorldK grow putRowK putRow mapBlock Sort.ahead
 simp only
 rw [Array.getElem?_append_left (by simp; omega), Array.getElem?_modify, if_neg (fun e => hne e.symm)]
end Go.Proofs.YtchfhojighopkaaGreatDoor
namespace Go.Proofs.YtchfhojighopkaaGreatDoor
open Go.RowKit
set_option maxHeartbeats 1000000 in
theorem insI0_any (cmp : Value) (w : World) : Calls Tryz.prog 112 #[.slice none 0 0, .int .i64 0, .int .i64 0, cmp] w fun e w' => e = .returned (.tuple #[]) ∧ w' = w := by
 go_enter Tryz.func112, Tryz.ntmps112
 go_upto_region 1 with fail
 go_loopg [8] 0 (fun gk i wx => i = .int .i64 1 ∧ wx = w)
 case atStart => exact ⟨rfl, rfl⟩
 case round =>
  obtain ⟨rfl, rfl⟩ := hrel
  go_wp2_with fail
  first | go_end0 | refine bodyPost_ret (results_none rfl _ _ _) rfl ?_
  exact ⟨rfl, rfl⟩
set_option maxHeartbeats 1000000 in
theorem stableI0_any (cmp : Value) (w : World) : Calls Tryz.prog 91 #[.slice none 0 0, .int .i64 0, cmp] w fun e w' => e = .returned (.tuple #[]) ∧ w' = w := by
 have HI := Lib.hid (fun W => insI0_any cmp W)
 go_enter Tryz.func91, Tryz.ntmps91
 go_upto_region 2 with fail
 go_loopg [7, 8] 0 (fun gk s7 s8 wr => s7 = .int .i64 0 ∧ s8 = .int .i64 20 ∧ wr = w)
 case atStart => exact ⟨rfl, rfl, rfl⟩
 case round =>
  obtain ⟨rfl, rfl, rfl⟩ := hrel
  go_upto_region 7 with (go_at_call 112; refine (HI.out _).mono ?_; rintro e w2 ⟨rfl, hw⟩; have hw2 := hw.symm; clear hw; subst hw2)
  go_loopg [6] 0 (fun gk s6 wr2 => s6 = .int .i64 20 ∧ wr2 = wr)
  case atStart => exact ⟨rfl, rfl⟩
  case round =>
   obtain ⟨rfl, rfl⟩ := hrel
   go_wp2_with fail
   first | go_end0 | refine bodyPost_ret (results_none rfl _ _ _) rfl ?_
   exact ⟨rfl, rfl⟩
end Go.Proofs.YtchfhojighopkaaGreatDoor
namespace Go.Proofs.YtchfhojighopkaaGreatDoor
open Go.RowKit
end Go.Proofs.YtchfhojighopkaaGreatDoor
namespace Go.Proofs.YtchfhojighopkaaGreatDoor
open Go.RowKit
theorem kids_exist {w : World} {B rb : Nat} {K : ByteArray → ByteArray} {F : Tr} (h : TreeAt w B rb K F) {ks : List ByteArray} {n : Nd} (hn : F ks = some n) (hd : n.dir = true) : ∃ l, Kids F ks l := by
 obtain ⟨es, c, L, _, _, _, _, hnd, hm⟩ := (h.kids ks n hn hd).1.list
 obtain ⟨nd, hnk⟩ : ∃ nd : ByteArray → Nd, ∀ q, q ∈ L.map (fun kv => kv.1) → F (ks ++ [q]) = some (nd q) := ⟨fun q => (F (ks ++ [q])).getD n, fun q hq => by
  obtain ⟨⟨q', v⟩, hkv, rfl⟩ := List.mem_map.1 hq
  have h2 := (hm q' v).1 hkv
  unfold Tr.kid at h2
  show F (ks ++ [q']) = some ((F (ks ++ [q'])).getD n)
  cases hF : F (ks ++ [q']) with
  | none => rw [hF] at h2; cases h2
  | some c => rfl⟩
 have hp := List.mergeSort_perm ((L.map (fun kv => kv.1)).map nd) (fun x y => !ltN y.name x.name)
 have hs := List.pairwise_mergeSort (le := fun x y : Nd => !ltN y.name x.name) (fun a b c h1 h2 => by
  simp only [Bool.not_eq_true'] at *
  cases h3 : ltN c.name a.name with
  | false => rfl
  | true =>
   cases h4 : ltN b.name c.name with
   | true =>
    rw [ltN_trans h4 h3] at h1
    cases h1
   | false =>
    have := ltN_tri h4 h2
    rw [← this, h1] at h3
    cases h3) (fun a b => by
  cases h1 : ltN b.name a.name with
  | false => rfl
  | true =>
   cases h2 : ltN a.name b.name with
   | false => rfl
   | true =>
    have := ltN_trans h1 h2
    rw [ltN_irrefl] at this
    cases this) ((L.map (fun kv => kv.1)).map nd)
 generalize ((L.map (fun kv => kv.1)).map nd).mergeSort (fun x y => !ltN y.name x.name) = l at hp hs
 have hmem : ∀ m, m ∈ l ↔ ∃ k, F (ks ++ [k]) = some m := fun m => by
  rw [hp.mem_iff, List.mem_map]
  constructor
  ·rintro ⟨q, hq, rfl⟩
   exact ⟨q, hnk q hq⟩
  ·rintro ⟨k, hk⟩
   have h1 : (k, ptr m.b) ∈ L := (hm _ _).2 (by unfold Tr.kid; rw [hk]; rfl)
   have h2 : k ∈ L.map (fun kv => kv.1) := List.mem_map.2 ⟨_, h1, rfl⟩
   refine ⟨k, h2, ?_⟩
   have h3 := hnk k h2
   rw [hk] at h3
   injection h3 with h3
   exact h3.symm
 have hne : ((L.map (fun kv => kv.1)).map nd).Pairwise (fun x y => x.name ≠ y.name) := by
  refine List.pairwise_map.2 (hnd.imp_of_mem (fun {x y} hx hy hxy e => hxy ?_))
  have h1 := (h.dirs _ _ _ (hnk x hx)).2.1
  have h2 := (h.dirs _ _ _ (hnk y hy)).2.1
  rw [← h1, ← h2, e]
 have hne' : l.Pairwise (fun x y => x.name ≠ y.name) := (hp.pairwise_iff (fun h => Ne.symm h)).2 hne
 refine ⟨l, ?_, hmem⟩
 rw [List.pairwise_iff_getElem] at hs hne' ⊢
 intro i j hi hj hij
 have h1 := hs i j hi hj hij
 simp only [Bool.not_eq_true'] at h1
 cases h2 : ltN l[i].name l[j].name with
 | true => rfl
 | false => exact absurd (ltN_tri h2 h1) (hne' i j hi hj hij)
theorem Kids.le {w : World} {B rb N : Nat} {K : ByteArray → ByteArray} {F : Tr} {ks : List ByteArray} {l : List Nd} (hl : Kids F ks l) (h : TreeAt w B rb K F) (hmost : AtMost F N) : l.length ≤ N := by
 have := hmost (l.map (fun m => ks ++ [K m.name])) (List.pairwise_map.2 (hl.up.imp_of_mem (fun {x y} hx hy hxy e => by
  have h1 := h.kid_at hl hx
  have h2 := h.kid_at hl hy
  rw [e, h2] at h1
  injection h1 with h1
  rw [h1, ltN_irrefl] at hxy
  cases hxy))) (fun k hk => by
  obtain ⟨m, hm, rfl⟩ := List.mem_map.1 hk
  exact ⟨by simp, m, h.kid_at hl hm⟩)
 simpa using this
end Go.Proofs.YtchfhojighopkaaGreatDoor
namespace Go.Proofs.YtchfhojighopkaaGreatDoor
open Go.RowKit
theorem box_three (w : World) (us vs xs : Array Value) (t u v : TypeId) : BoxIs (((w.alloc (.cells us t)).alloc (.cells vs u)).alloc (.cells xs v)) w.heap.size us t ∧ BoxIs (((w.alloc (.cells us t)).alloc (.cells vs u)).alloc (.cells xs v)) (w.heap.size + 1) vs u ∧ BoxIs (((w.alloc (.cells us t)).alloc (.cells vs u)).alloc (.cells xs v)) (w.heap.size + 1 + 1) xs v ∧ Below w.heap.size w (((w.alloc (.cells us t)).alloc (.cells vs u)).alloc (.cells xs v)) := by
 have h2 := BoxIs.new (w.alloc (.cells us t)) vs u
 have hz : (w.alloc (.cells us t)).heap.size = w.heap.size + 1 := by simp
 rw [hz] at h2
 have h3 := BoxIs.new ((w.alloc (.cells us t)).alloc (.cells vs u)) xs v
 have hz2 : ((w.alloc (.cells us t)).alloc (.cells vs u)).heap.size = w.heap.size + 1 + 1 := by simp
 rw [hz2] at h3
 exact ⟨(BoxIs.new w _ _).under (bAlloc (bAlloc (Below.refl _ _) _) _), h2.under (bAlloc (Below.refl _ _) _), h3, bAlloc (bAlloc (bAlloc (Below.refl _ _) _) _) _⟩
end Go.Proofs.YtchfhojighopkaaGreatDoor
namespace Go.Proofs.YtchfhojighopkaaGreatDoor
open Go.RowKit
theorem landedN_any (w : World) (hE : Env w) : Calls Tryz.prog 4 #[] w fun e w' => e = .returned (.bool true) ∧ Below w.heap.size w w' := by
 have HC := Lib.hid (check_any ⟨#[47]⟩ w hE (by decide))
 rw [show Wh.pathErr (⟨#[47]⟩ : ByteArray).data.toList = 1 by decide] at HC
 clear hE
 go_enter Tryz.func4, Tryz.ntmps4
 go_wp2_with (go_at_call 15; refine HC.out.mono ?_; rintro e w1 ⟨rfl, hb1⟩)
 go_ret
 exact ⟨rfl, hb1⟩
end Go.Proofs.YtchfhojighopkaaGreatDoor
