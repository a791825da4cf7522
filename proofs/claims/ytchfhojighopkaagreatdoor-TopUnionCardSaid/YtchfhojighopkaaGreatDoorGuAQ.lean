/-
  Parts of the proof: Sm3.
-/
import Derived.Test.YtchfhojighopkaaGreatDoorGuAP
namespace Wh.Sha
variable {f : List W → List UInt8 → List W}
theorem goF_hlen {m : Nat} (hf : ∀ h p, (f h p).length = m) (n : Nat) : ∀ (h : List W) (t : List UInt8), t.length ≤ n → h.length = m → (goF f h t).1.length = m := by
 induction n with
 | zero => intro h t ht hh; rw [goF_few (by omega)]; exact hh
 | succ n ih =>
  intro h t ht hh
  by_cases hl : t.length < 64
  ·rw [goF_few hl]; exact hh
  ·rw [goF_more (by omega)]
   exact ih _ _ (by simp; omega) (hf _ _)
end Wh.Sha
namespace Go.Proofs.YtchfhojighopkaaGreatDoor
open Go.RowKit Wh.Sha

/-- A stream's state. -/
structure PS where
 l : List W
 rest : List UInt8
 n : Nat
def ps0 (k : EK) : PS := ⟨k.init, [], 0⟩
def PS.wr (k : EK) (T : Tabs) (p : PS) (s : List UInt8) : PS := ⟨(goF (k.f T) p.l (p.rest ++ s)).1, (goF (k.f T) p.l (p.rest ++ s)).2, p.n + s.length⟩
def PS.sum (k : EK) (T : Tabs) (p : PS) : List UInt8 := sumL T k p.l p.rest p.n
/-- Blocks: the stream of sums and that of the block. -/
def bw (T : Tabs) : Nat → PS × PS → List UInt8 → PS × PS
 | 0, x, _ => x
 | n + 1, x, t => if t = [] then x else
  let b' := x.2.wr .sha256 T (t.take (min (4096 - x.2.n) t.length))
  bw T n (if b'.n = 4096 then (x.1.wr .sha256 T (b'.sum .sha256 T), ps0 .sha256) else (x.1, b')) (t.drop (min (4096 - x.2.n) t.length))
theorem bw_nil (T : Tabs) (n : Nat) (x : PS × PS) : bw T n x [] = x := by cases n <;> simp [bw]
/-- What a sum has. -/
def EK.out : EK → Nat
 | .md5 => 16
 | .sha1 => 20
 | .sha256 => 32
theorem sum_len (k : EK) (T : Tabs) (p : PS) (hl : p.l.length = k.len) : (p.sum k T).length = k.out := by
 unfold PS.sum sumL
 rw [fours_len, List.length_map, goF_hlen (EK.f_len T k) _ _ _ (Nat.le_refl _) hl]
 cases k <;> rfl

/-- A stream in memory: F has its blocks. -/
def PsAt (w : World) (B b : Nat) (k : EK) (p : PS) (F : Nat → Prop) : Prop := ∃ ge ra cap, StreamAt w B b ge k ra cap p.l p.rest p.n ∧ ∀ i, Fs b ge ra i → F i
theorem StreamAt.kp {G : Nat → Prop} {w w' : World} {B b ge : Nat} {k : EK} {ra : Option Addr} {cap : Nat} {l : List W} {rest : List UInt8} {many : Int} (h : StreamAt w B b ge k ra cap l rest many) (hk : Kp G w w') (hG : ∀ i, Fs b ge ra i → ¬ G i) : StreamAt w' B b ge k ra cap l rest many :=
 ⟨h.box.kp hk (hG _ (.inl rfl)), h.eng.kp hk (hG _ (.inr (.inl rfl))), h.len, h.row.kp hk (fun i hi => hG i (.inr (.inr hi))), h.hb, h.hge, h.ne, h.off, h.small⟩
theorem PsAt.kp {G F : Nat → Prop} {w w' : World} {B b : Nat} {k : EK} {p : PS} (h : PsAt w B b k p F) (hk : Kp G w w') (hG : ∀ i, F i → ¬ G i) : PsAt w' B b k p F := by
 obtain ⟨ge, ra, cap, h1, h2⟩ := h
 exact ⟨ge, ra, cap, h1.kp hk (fun i hi => hG i (h2 i hi)), h2⟩
theorem PsAt.under {F : Nat → Prop} {w w' : World} {B b : Nat} {k : EK} {p : PS} (h : PsAt w B b k p F) (hb : Below w.heap.size w w') : PsAt w' B b k p F := h.kp (Kp.of (F := fun _ => False) hb) (fun _ _ e => e)
theorem PsAt.drew {F : Nat → Prop} {w : World} {B b : Nat} {k : EK} {p : PS} (h : PsAt w B b k p F) : PsAt w.drew B b k p F := h.kp ((Kp.refl (fun _ => False) w).drew 1) (fun _ _ e => e)
theorem TabsAt.drew {w : World} {T : Tabs} (h : TabsAt w T) : TabsAt w.drew T := h.kp ((Kp.refl (fun _ => False) w).drew 1) (fun _ e => e.elim)
theorem PsAt.many {F : Nat → Prop} {w : World} {B b : Nat} {k : EK} {p : PS} (h : PsAt w B b k p F) : w.cell? ⟨b, 2, none⟩ = some (.int .i64 p.n) := by
 obtain ⟨ge, ra, cap, h1, h2⟩ := h
 exact h1.box.cell (j := 2) rfl
theorem PsAt.len {F : Nat → Prop} {w : World} {B b : Nat} {k : EK} {p : PS} (h : PsAt w B b k p F) : p.l.length = k.len := by
 obtain ⟨ge, ra, cap, h1, h2⟩ := h
 exact h1.len
theorem psWrite_any (B b : Nat) (k : EK) (T : Tabs) (p : PS) (F : Nat → Prop) (s : ByteArray) (w : World) (h : PsAt w B b k p F) (hT : TabsAt w T) (hNB : ∀ i, B ≤ i → NoTab i) (hB : B ≤ w.heap.size) (hs : s.size ≤ 100000000) (hn : p.n ≤ 1000000000) :
  Calls Tryz.prog 261 #[.pointer (some ⟨b, 0, none⟩), .string s] w fun e w' => e = .returned (.tuple #[]) ∧ ∃ F', PsAt w' B b k (p.wr k T s.data.toList) F' ∧ Kp F w w' ∧ (∀ i, F' i → F i ∨ w.heap.size ≤ i) := by
 obtain ⟨ge, ra, cap, h1, h2⟩ := h
 refine (write_any B b ge k T ra cap p.l p.rest p.n s w h1 hT hNB hB hs (by omega) (by omega)).mono ?_
 rintro e w' ⟨rfl, ra', cap', h3, h4, h5⟩
 refine ⟨rfl, Fs b ge ra', ⟨ge, ra', cap', ?_, fun _ hi => hi⟩, h4.mono h2, ?_⟩
 ·have e1 : (((p.wr k T s.data.toList).n : Nat) : Int) = (p.n : Int) + (s.size : Int) := by
   show ((p.n + s.data.toList.length : Nat) : Int) = _
   rw [← Lib.size_eq]; omega
  rw [e1]
  exact h3
 ·rintro i (rfl | rfl | hi)
  ·exact .inl (h2 _ (.inl rfl))
  ·exact .inl (h2 _ (.inr (.inl rfl)))
  ·rcases h5 i hi with h6 | h6
   ·exact .inl (h2 _ (.inr (.inr h6)))
   ·exact .inr h6
theorem psSum_any (B b : Nat) (k : EK) (T : Tabs) (p : PS) (F : Nat → Prop) (w : World) (h : PsAt w B b k p F) (hT : TabsAt w T) (hNB : ∀ i, B ≤ i → NoTab i) (hB : B ≤ w.heap.size) (hn : p.n ≤ 1000000000) :
  Calls Tryz.prog 262 #[.pointer (some ⟨b, 0, none⟩)] w fun e w' => e = .returned (.string ⟨(p.sum k T).toArray⟩) ∧ Below w.heap.size w w' := by
 obtain ⟨ge, ra, cap, h1, h2⟩ := h
 exact sum_any B b ge k T ra cap p.l p.rest p.n w h1 hT hNB hB hn
theorem psNew_any (n : Int) (B : Nat) (w : World) (hB : B ≤ w.heap.size) :
  Calls Tryz.prog 123 #[.int .i64 n] w fun e w' => ∃ b F, e = .returned (.pointer (some ⟨b, 0, none⟩)) ∧ PsAt w' B b (EK.of n) (ps0 (EK.of n)) F ∧ Below w.heap.size w w' ∧ w.heap.size ≤ b ∧ (∀ i, F i → w.heap.size ≤ i) := by
 refine (newStream_any n B w hB).mono ?_
 rintro e w' ⟨b, ge, rfl, h1, h2, h3, h4⟩
 refine ⟨b, Fs b ge none, rfl, ⟨ge, none, 0, h1, fun _ hi => hi⟩, h2, h3, ?_⟩
 rintro i (rfl | rfl | ⟨a, ha, _⟩)
 ·exact h3
 ·exact h4
 ·cases ha
theorem PsAt.lt {F : Nat → Prop} {w : World} {B b : Nat} {k : EK} {p : PS} (h : PsAt w B b k p F) : ∃ F', PsAt w B b k p F' ∧ ∀ i, F' i → F i ∧ i < w.heap.size := by
 obtain ⟨ge, ra, cap, h1, h2⟩ := h
 refine ⟨Fs b ge ra, ⟨ge, ra, cap, h1, fun _ hi => hi⟩, fun i hi => ⟨h2 i hi, ?_⟩⟩
 rcases hi with rfl | rfl | hi
 ·exact h1.box.lt
 ·exact h1.eng.lt
 ·exact (h1.row.base i hi).2

theorem Below.kpw {B : Nat} {w w' : World} (h : Below B w w') : Kp (fun i => B ≤ i) w w' := ⟨h.os, h.tape, h.output, h.size, fun k _ hF => h.block k (by omega)⟩
/-- A maker of sums of blocks. -/
def BMk (w : World) (B bm : Nat) (x : PS × PS) : Prop := ∃ ab bb Fa Fb, BoxIs w bm #[.pointer (some ⟨ab, 0, none⟩), .pointer (some ⟨bb, 0, none⟩)] 212 ∧ PsAt w B ab .sha256 x.1 Fa ∧ PsAt w B bb .sha256 x.2 Fb ∧ (∀ i, Fa i → ¬ Fb i) ∧ B ≤ bm ∧ ¬ Fa bm ∧ ¬ Fb bm ∧ (∀ i, Fa i → B ≤ i ∧ i < w.heap.size) ∧ (∀ i, Fb i → B ≤ i ∧ i < w.heap.size)
theorem PsAt.lo {w : World} {B b : Nat} {k : EK} {p : PS} {F : Nat → Prop} (h : PsAt w B b k p F) : ∃ F', PsAt w B b k p F' ∧ ∀ i, F' i → F i ∧ B ≤ i ∧ i < w.heap.size := by
 obtain ⟨ge, ra, cap, h1, h2⟩ := h
 refine ⟨Fs b ge ra, ⟨ge, ra, cap, h1, fun _ hi => hi⟩, fun i hi => ⟨h2 i hi, ?_⟩⟩
 rcases hi with rfl | rfl | hi
 ·exact ⟨h1.hb, h1.box.lt⟩
 ·exact ⟨h1.hge, h1.eng.lt⟩
 ·exact h1.row.base i hi

set_option maxHeartbeats 4000000 in
set_option maxRecDepth 100000 in
theorem blocksWrite_any (T : Tabs) (B bm : Nat) (x : PS × PS) (s : ByteArray) (w : World) (hM : BMk w B bm x) (hT : TabsAt w T) (hNB : ∀ i, B ≤ i → NoTab i) (hB : B ≤ w.heap.size) (hs : s.size ≤ 1048576) (hx : x.2.n < 4096) (hx1 : x.1.n ≤ 1000000) :
  Calls Tryz.prog 259 #[.pointer (some ⟨bm, 0, none⟩), .string s] w fun e w' => e = .returned (.tuple #[]) ∧ ∃ y, y = bw T s.size x s.data.toList ∧ BMk w' B bm y ∧ Below B w w' ∧ y.2.n < 4096 ∧ y.1.n ≤ 100000000 := by
 have HM0 := Lib.hid hM
 have HT := Lib.hid hT
 have HNB := Lib.hid hNB
 have HX := Lib.hid hx
 have HX1 : Hid (x.1.n + 32 * s.size ≤ 50000000) := Lib.hid (by omega)
 have HB := Lib.hid hB
 clear hM hT hNB hx hx1 hB
 go_enter Tryz.func259, Tryz.ntmps259
 try go_wp2_with fail
 go_loopg [1] s.size (fun gk s1 wx => ∃ (u : ByteArray) (y : PS × PS), s1 = .string u ∧ u.size ≤ gk ∧ gk ≤ s.size ∧ Hid (bw T gk y u.data.toList = bw T s.size x s.data.toList) ∧ Hid (BMk wx B bm y) ∧ Hid (Below B w wx) ∧ Hid (y.2.n < 4096) ∧ Hid (y.1.n + 32 * gk ≤ 50000000))
 case atStart => exact ⟨s, x, rfl, Nat.le_refl _, Nat.le_refl _, Lib.hid rfl, HM0, Lib.hid (Below.refl _ _), HX, HX1⟩
 case round =>
  clear HM0 HX HX1
  obtain ⟨u, y, rfl, hgk, hgs, HW, HM, HBx, HY2, HY1⟩ := hrel
  by_cases hu : 0 < u.size
  ·obtain ⟨g, rfl⟩ : ∃ g, gk = g + 1 := ⟨gk - 1, by omega⟩
   obtain ⟨ab, bb, Fa, Fb, hbx, hA, hBb, hdis, hbm, hna, hnb, hlA, hlB⟩ := HM.out
   obtain ⟨N, hN⟩ : ∃ N, y.2.n = N := ⟨_, rfl⟩
   have hN4 : N < 4096 := by rw [← hN]; exact HY2.out
   obtain ⟨m, hm⟩ : ∃ m, m = min (4096 - N) u.size := ⟨_, rfl⟩
   have hm0 : 0 < m := by omega
   have hm1 : m ≤ u.size := by omega
   have hm2 : N + m ≤ 4096 := by omega
   have hmin : min (4096 - (N : Int)) (u.size : Int) = (m : Int) := by omega
   have hne2 : u.toList.isEmpty = false := by
    rw [Lib.toList_data]
    cases h : u.data.toList with
    | nil => rw [Lib.size_eq, h] at hu; exact absurd hu (by decide)
    | cons a b => rfl
   have c1 : wr.cell? ⟨bm, 1, none⟩ = some (.pointer (some ⟨bb, 0, none⟩)) := hbx.cell (j := 1) rfl
   have c2 : wr.cell? ⟨bb, 2, none⟩ = some (.int .i64 N) := by rw [← hN]; exact hBb.many
   have hbz : bm < wr.heap.size := hbx.lt
   obtain ⟨uh, huh⟩ : ∃ uh, u.extract 0 m = uh := ⟨_, rfl⟩
   obtain ⟨ut, hut⟩ : ∃ ut, u.extract m u.size = ut := ⟨_, rfl⟩
   have HBX := Lib.hid hbx
   have HA := Lib.hid hA
   have HBb := Lib.hid hBb
   have HD := Lib.hid hdis
   have HLo := Lib.hid (And.intro hbm (And.intro hna (And.intro hnb (And.intro hlA hlB))))
   have HN := Lib.hid hN
   have HMm := Lib.hid hm
   have HUs : Hid (uh.size = m) := Lib.hid (by rw [← huh, ByteArray.size_extract]; omega)
   have HTs : Hid (ut.size = u.size - m) := Lib.hid (by rw [← hut, ByteArray.size_extract]; omega)
   have HUl : Hid (uh.data.toList = u.data.toList.take m) := Lib.hid (by rw [← huh, ByteArray.data_extract]; simp)
   have HTl : Hid (ut.data.toList = u.data.toList.drop m) := Lib.hid (by rw [← hut, ByteArray.data_extract, Array.toList_extract, List.extract_eq_take_drop, Lib.size_eq]; exact List.take_of_length_le (by rw [List.length_drop]; exact Nat.le_refl _))
   clear hbx hA hBb hdis hbm hna hnb hlA hlB hN hm
   have HWr := Lib.hid (fun W (hW : PsAt W B bb .sha256 y.2 Fb) hT' hB' => psWrite_any B bb .sha256 T y.2 Fb uh W hW hT' HNB.out hB' (by rw [HUs.out]; omega) (by rw [HN.out]; omega))
   go_upto_region 2 with fail
   clear hmin hne2 c2
   have HTr0 : TabsAt wr T := HT.out.kp (F := fun i => B ≤ i) (Below.kpw HBx.out) (fun i hi => HNB.out i hi)
   have HTr : Hid (TabsAt wr.drew T) := Lib.hid HTr0.drew
   clear HTr0
   have hBr : B ≤ wr.drew.heap.size := Nat.le_trans HB.out HBx.out.size
   have c1d : wr.drew.cell? ⟨bm, 1, none⟩ = some (.pointer (some ⟨bb, 0, none⟩)) := c1
   --R2
   refine wp_region_seq (fun W => W.cell? ⟨bm, 1, none⟩ = some (.pointer (some ⟨bb, 0, none⟩))) [(0, true), (1, true), (2, true), (3, true), (4, true), (5, true), (6, true), (7, false)] (by as_aux_lemma => kernel_rfl) (by as_aux_lemma => kernel_rfl) (by decide) (by as_aux_lemma => kernel_rfl) c1d ?_
   intro OPS HO
   iterate 7
    refine seq_take (o := ⟨_, _, _, _, _, _⟩) (v := ?_) (by rw [HO.out]; rfl) (by rfl) ?_ ?_
    rotate_left 1
    ·first | ((intro W _; go_simp) <;> with_reducible rfl) | (intro W hW; skip; (go_simp <;> with_reducible rfl))
    try simp only [Act.put, List.setIfInBounds_toArray, List.set_cons_zero, List.set_cons_succ]
   refine seq_do (o := ⟨_, _, _, _, _, _⟩) (by rw [HO.out]; rfl) (by rfl) (fun K hK => ?_)
   go_wp2_with (go_at_call 261; refine (HWr.out _ HBb.out.drew HTr.out hBr).mono ?_; rintro e w3 ⟨rfl, F', hq1, hq2, hq3⟩)
   have hS : w3.cell? ⟨bm, 1, none⟩ = some (.pointer (some ⟨bb, 0, none⟩)) := cell_kp hq2 c1d HLo.out.2.2.1
   refine hK.out _ _ hS (fun _ => ?_)
   clear hK K
   try simp only [Act.put, List.setIfInBounds_toArray, List.set_cons_zero, List.set_cons_succ]
   refine seq_done ?_
   --ENDR2
   obtain ⟨b', hb'⟩ : ∃ b', b' = y.2.wr .sha256 T uh.data.toList := ⟨_, rfl⟩
   rw [← hb'] at hq1
   have hNb : b'.n = N + m := by
    rw [hb']
    show y.2.n + uh.data.toList.length = N + m
    rw [← Lib.size_eq, HUs.out, HN.out]
   have HB' : Hid (b' = y.2.wr .sha256 T (u.data.toList.take m)) := Lib.hid (by rw [hb', HUl.out])
   have hbz3 : bm < w3.heap.size := Nat.lt_of_lt_of_le hbz hq2.size
   have HX3 : Hid (BoxIs w3 bm #[.pointer (some ⟨ab, 0, none⟩), .pointer (some ⟨bb, 0, none⟩)] 212) := Lib.hid (HBX.out.kp hq2.undrew HLo.out.2.2.1)
   have HA3 : Hid (PsAt w3 B ab .sha256 y.1 Fa) := Lib.hid (HA.out.drew.kp hq2 HD.out)
   have HB3 := Lib.hid hq1
   have HLw : ∀ i, F' i → Fb i ∨ wr.heap.size ≤ i := hq3
   have HBl3 : Hid (Below B w w3) := Lib.hid (HBx.out.trans ((show Kp Fb wr w3 from ⟨hq2.os, hq2.tape, hq2.output, hq2.size, hq2.block⟩).below (fun i hi => (HLo.out.2.2.2.2 i hi).1) (Nat.le_trans HB.out HBx.out.size)))
   have HD3 : Hid (∀ i, Fa i → ¬ F' i) := Lib.hid (fun i hi hj => (HLw i hj).elim (HD.out i hi) (fun h => by have := (HLo.out.2.2.2.1 i hi).2; omega))
   have HN3 : Hid (¬ F' bm) := Lib.hid (fun hj => (HLw bm hj).elim HLo.out.2.2.1 (fun h => by omega))
   have c31 : w3.cell? ⟨bm, 1, none⟩ = some (.pointer (some ⟨bb, 0, none⟩)) := HX3.out.cell (j := 1) rfl
   have c32 : w3.cell? ⟨bb, 2, none⟩ = some (.int .i64 ((N + m : Nat) : Int)) := by
    have h := HB3.out.many
    rw [hNb] at h
    exact h
   obtain ⟨N', hN'⟩ : ∃ N', N + m = N' := ⟨_, rfl⟩
   rw [hN'] at c32 hNb
   have hm5 : (m : Int) ≤ (u.size : Int) := by omega
   have HST : Hid (bw T (g + 1) y u.data.toList = bw T g (if b'.n = 4096 then (y.1.wr .sha256 T (b'.sum .sha256 T), ps0 .sha256) else (y.1, b')) ut.data.toList) := Lib.hid (by
    have hne3 : u.data.toList ≠ [] := fun h => by rw [Lib.size_eq, h] at hu; exact absurd hu (by decide)
    show (if u.data.toList = [] then y else _) = _
    rw [if_neg hne3, HTl.out, HB'.out, HMm.out, HN.out, Lib.size_eq])
   have HGZ : Hid (ut.size ≤ g) := Lib.hid (by rw [HTs.out]; omega)
   have HSz : Hid (wr.heap.size ≤ w3.heap.size) := Lib.hid hq2.size
   clear hb' hq1 hq2 hq3 HWr c1 c1d HUl HTl HUs
   by_cases hfull : N' = 4096
   ·subst hfull
    have HNf := Lib.hid hNb
    have hps : b'.n ≤ 1000000000 := by omega
    have HSu := Lib.hid (fun W hW hT' hB' => psSum_any B bb .sha256 T b' F' W hW hT' HNB.out hB' hps)
    obtain ⟨sm, hsm⟩ : ∃ sm : ByteArray, sm = ⟨(b'.sum .sha256 T).toArray⟩ := ⟨_, rfl⟩
    have hsml : sm.size = 32 := by
     rw [Lib.size_eq, hsm]
     exact sum_len .sha256 T b' HB3.out.len
    have HSl : Hid (sm.data.toList = b'.sum .sha256 T) := Lib.hid (by rw [hsm])
    have HSml := Lib.hid hsml
    rw [← hsm] at HSu
    have hy1 := HY1.out
    have HWa := Lib.hid (fun W hW hT' hB' => psWrite_any B ab .sha256 T y.1 Fa sm W hW hT' HNB.out hB' (by rw [HSml.out]; decide) (by omega))
    clear hsm hsml hy1
    go_upto_region 5 with fail
    have HT30 : TabsAt w3 T := HT.out.kp (F := fun i => B ≤ i) (Below.kpw HBl3.out) (fun i hi => HNB.out i hi)
    have HT3 : Hid (TabsAt w3.drew T) := Lib.hid HT30.drew
    clear HT30
    have hB3 : B ≤ w3.drew.heap.size := Nat.le_trans HB.out HBl3.out.size
    have c50 : w3.drew.cell? ⟨bm, 0, none⟩ = some (.pointer (some ⟨ab, 0, none⟩)) := HX3.out.cell (j := 0) rfl
    have c51 : w3.drew.cell? ⟨bm, 1, none⟩ = some (.pointer (some ⟨bb, 0, none⟩)) := c31
    clear c31 c32
    --R5
    refine wp_region_seq (fun W => W.cell? ⟨bm, 0, none⟩ = some (.pointer (some ⟨ab, 0, none⟩)) ∧ W.cell? ⟨bm, 1, none⟩ = some (.pointer (some ⟨bb, 0, none⟩))) [(0, true), (1, true), (2, true), (3, true), (4, true), (5, true), (6, true), (7, true), (8, false), (9, false)] (by as_aux_lemma => kernel_rfl) (by as_aux_lemma => kernel_rfl) (by decide) (by as_aux_lemma => kernel_rfl) ⟨c50, c51⟩ ?_
    intro OPS HO
    iterate 8
     refine seq_take (o := ⟨_, _, _, _, _, _⟩) (v := ?_) (by rw [HO.out]; rfl) (by rfl) ?_ ?_
     rotate_left 1
     ·first | ((intro W _; go_simp) <;> with_reducible rfl) | (intro W hW; obtain ⟨hW0, hW1⟩ := hW; (go_simp <;> with_reducible rfl))
     try simp only [Act.put, List.setIfInBounds_toArray, List.set_cons_zero, List.set_cons_succ]
    refine seq_do (o := ⟨_, _, _, _, _, _⟩) (by rw [HO.out]; rfl) (by rfl) (fun K hK => ?_)
    go_wp2_with (go_at_call 262; refine (HSu.out _ HB3.out.drew HT3.out hB3).mono ?_; rintro e w5 ⟨rfl, hb5⟩)
    have hS : w5.cell? ⟨bm, 0, none⟩ = some (.pointer (some ⟨ab, 0, none⟩)) ∧ w5.cell? ⟨bm, 1, none⟩ = some (.pointer (some ⟨bb, 0, none⟩)) := ⟨cell_kp (Kp.of (F := fun _ => False) hb5) c50 (fun e => e), cell_kp (Kp.of (F := fun _ => False) hb5) c51 (fun e => e)⟩
    refine hK.out _ _ hS (fun _ => ?_)
    clear hK K
    try simp only [Act.put, List.setIfInBounds_toArray, List.set_cons_zero, List.set_cons_succ]
    refine seq_do (o := ⟨_, _, _, _, _, _⟩) (by rw [HO.out]; rfl) (by rfl) (fun K hK => ?_)
    go_wp2_with (go_at_call 261; refine (HWa.out _ (HA3.out.drew.under hb5) (HT3.out.kp (Kp.of (F := fun _ => False) hb5) (fun _ e => e.elim)) (Nat.le_trans hB3 hb5.size)).mono ?_; rintro e w6 ⟨rfl, F2, hr1, hr2, hr3⟩)
    have hS2 : w6.cell? ⟨bm, 0, none⟩ = some (.pointer (some ⟨ab, 0, none⟩)) ∧ w6.cell? ⟨bm, 1, none⟩ = some (.pointer (some ⟨bb, 0, none⟩)) := ⟨cell_kp hr2 hS.1 HLo.out.2.1, cell_kp hr2 hS.2 HLo.out.2.1⟩
    replace hS := hS2
    refine hK.out _ _ hS (fun _ => ?_)
    clear hK K
    try simp only [Act.put, List.setIfInBounds_toArray, List.set_cons_zero, List.set_cons_succ]
    refine seq_done ?_
    --ENDR5
    have HX6 : Hid (BoxIs w6 bm #[.pointer (some ⟨ab, 0, none⟩), .pointer (some ⟨bb, 0, none⟩)] 212) := Lib.hid ((HX3.out.under (Below.undrew hb5)).kp hr2 HLo.out.2.1)
    have HB6 : Hid (Below B w w6) := Lib.hid (HBl3.out.trans ((Below.mono (show Below w3.heap.size w3 w5 from ⟨hb5.os, hb5.tape, hb5.output, hb5.size, hb5.block⟩) (Nat.le_trans HB.out HBl3.out.size)).trans (hr2.below (fun i hi => (HLo.out.2.2.2.1 i hi).1) (Nat.le_trans (Nat.le_trans HB.out HBl3.out.size) hb5.size))))
    have HA6 := Lib.hid hr1
    have HF6 : Hid (∀ i, F2 i → Fa i ∨ w3.heap.size ≤ i) := Lib.hid (fun i hi => (hr3 i hi).elim .inl (fun h => .inr (Nat.le_trans hb5.size h)))
    have hbz6 : bm < w6.heap.size := HX6.out.lt
    have hB6 : B ≤ w6.heap.size := Nat.le_trans HB.out HB6.out.size
    clear hr1 hr2 hr3 hb5
    obtain ⟨F2', hF2a, hF2b⟩ := HA6.out.lo
    have HA6' := Lib.hid hF2a
    have HF2 := Lib.hid hF2b
    have hnF2 : ¬ F2' bm := fun h => (HF6.out bm (HF2.out bm h).1).elim HLo.out.2.1 (fun h => by omega)
    have HNF2 := Lib.hid hnF2
    clear hF2a hF2b hnF2
    have HBMx : Hid (∀ w7 b7 F7, PsAt w7 B b7 .sha256 (ps0 .sha256) F7 → Below w6.heap.size w6 w7 → (∀ i, F7 i → w6.heap.size ≤ i) → BMk (w7.setCell ⟨bm, 1, none⟩ (.pointer (some ⟨b7, 0, none⟩))) B bm (y.1.wr .sha256 T sm.data.toList, ps0 .sha256)) := Lib.hid (fun w7 b7 F7 n1 n2 n4 => by
     obtain ⟨F7', h71, h72⟩ := n1.lo
     have hk : Kp (fun i => i = bm) w7 (w7.setCell ⟨bm, 1, none⟩ (.pointer (some ⟨b7, 0, none⟩))) := (Kp.refl (fun i => i = bm) w7).set (b := bm) (.inl rfl) 1 _
     have hsz : (w7.setCell ⟨bm, 1, none⟩ (.pointer (some ⟨b7, 0, none⟩))).heap.size = w7.heap.size := by simp [World.setCell]
     refine ⟨ab, b7, F2', F7', BoxIs.putAt (HX6.out.under n2) 1 _, (HA6'.out.under n2).kp hk (fun i hi e => HNF2.out (by rw [← e]; exact hi)), h71.kp hk (fun i hi e => by have := n4 i (h72 i hi).1; omega), fun i hi hj => ?_, HLo.out.1, HNF2.out, fun hj => ?_, fun i hi => ?_, fun i hi => ?_⟩
     ·have h1 := (HF2.out i hi).2.2
      have h2 := n4 i (h72 i hj).1
      omega
     ·have h2 := n4 bm (h72 bm hj).1
      omega
     ·have h1 := HF2.out i hi
      have h2 := n2.size
      rw [hsz]
      exact ⟨h1.2.1, by omega⟩
     ·have h1 := h72 i hi
      rw [hsz]
      exact h1.2)
    clear hNb
    go_upto_region 6 with fail
    go_wp2_with (go_at_call 123; refine (psNew_any 4 B _ hB6).mono ?_; rintro e w7 ⟨b7, F7, rfl, n1, n2, n3, n4⟩; have HX7 := Lib.hid (HX6.out.under n2); have c7 : w7.cell? ⟨bm, 1, none⟩ = some (.pointer (some ⟨bb, 0, none⟩)) := HX7.out.cell (j := 1) rfl; have f7 : w7.frozen? ⟨bm, 1, none⟩ = false := Lib.frozen_of_heap HX7.out 1; have HN1 := Lib.hid n1; have HN2 := Lib.hid n2; have HN4 := Lib.hid n4; clear n1 n2 n4)
    go_roundg g
    case measure => omega
    case rel =>
     refine ⟨ut, (y.1.wr .sha256 T sm.data.toList, ps0 .sha256), rfl, HGZ.out, by omega, Lib.hid ?_, Lib.hid (HBMx.out _ _ _ HN1.out HN2.out HN4.out), Lib.hid ?_, Lib.hid (show 0 < 4096 by decide), Lib.hid ?_⟩
     ·rw [← HW.out, HST.out, if_pos HNf.out, HSl.out]
     ·exact HB6.out.trans ((Below.mono HN2.out hB6).trans (((Kp.refl (fun i => i = bm) _).set (b := bm) (.inl rfl) 1 _).below (fun i hi => by rw [hi]; exact HLo.out.1) (Nat.le_trans hB6 HN2.out.size)))
     ·have h := HY1.out
      show y.1.n + sm.data.toList.length + 32 * g ≤ 50000000
      rw [← Lib.size_eq, HSml.out]
      omega
   ·have hne4 : ¬ ((N' : Int) = 4096) := by omega
    have hle : N' < 4096 := by omega
    go_wp2_with fail
    go_roundg g
    case measure => omega
    case rel =>
     refine ⟨ut, (y.1, b'), rfl, HGZ.out, by omega, Lib.hid ?_, Lib.hid ?_, HBl3, Lib.hid (by show b'.n < 4096; rw [hNb]; exact hle), Lib.hid ?_⟩
     ·rw [← HW.out, HST.out, if_neg (by rw [hNb]; omega)]
     ·obtain ⟨F3, h31, h32⟩ := HB3.out.lo
      exact ⟨ab, bb, Fa, F3, HX3.out, HA3.out, h31, fun i hi hj => HD3.out i hi (h32 i hj).1, HLo.out.1, HLo.out.2.1, fun hj => HN3.out (h32 bm hj).1, fun i hi => ⟨(HLo.out.2.2.2.1 i hi).1, Nat.lt_of_lt_of_le (HLo.out.2.2.2.1 i hi).2 HSz.out⟩, fun i hi => (h32 i hi).2⟩
     ·have h := HY1.out
      show y.1.n + 32 * g ≤ 50000000
      omega
  ·have hu0 : u.size = 0 := by omega
   have hut : u.data.toList = [] := List.eq_nil_of_length_eq_zero (by rw [← Lib.size_eq]; exact hu0)
   have hne : u.toList.isEmpty = true := by rw [Lib.toList_data, hut]; rfl
   have HD2 : Hid (y = bw T s.size x s.data.toList) := Lib.hid (by have h := HW.out; rw [hut, bw_nil] at h; exact h)
   clear hut hu hu0
   go_wp2_with fail
   go_end0
   exact ⟨rfl, y, HD2.out, HM.out, HBx.out, HY2.out, by have := HY1.out; omega⟩

theorem own_slice {w : World} {base : Nat} {e : TypeId} {size n : Nat} {v : Value} {xs : List Value} (h : w.ownsRow base e size v n xs) : ∃ a c, v = .slice a n c := by
 rcases h.2 with ⟨rfl, rfl⟩ | ⟨g, cap, cur, rfl, _⟩
 ·exact ⟨_, _, rfl⟩
 ·exact ⟨_, _, rfl⟩
set_option maxHeartbeats 1000000 in
set_option maxRecDepth 100000 in
/-- slices.Clone of bytes. -/
theorem cloneU_any (B cap : Nat) (ra : Option Addr) (xs : List UInt8) (N : Nat) (w : World) (hR : RowU w B ra cap xs) (hN : xs.length = N) (hs : N ≤ 1000000) :
  Calls Tryz.prog 260 #[.slice ra N cap] w fun e w' => ∃ ra' cap', e = .returned (.slice ra' N cap') ∧ RowU w' w.heap.size ra' cap' xs ∧ Below w.heap.size w w' := by
 obtain ⟨i0, ht, hi, hz0, hz1, hz2, hz3⟩ := elem_byte
 cases ra with
 | none =>
  have h0 : xs = [] := by
   rcases hR.2 with ⟨_, h⟩ | ⟨g, c, cur, h, _⟩
   ·exact List.eq_nil_of_length_eq_zero h
   ·cases h
  subst h0
  obtain rfl : N = 0 := hN.symm
  clear hi hz0 hz1 hz2 hz3 ht hR
  have hnil := fun W n c => Lib.run_eql_slice_nil (P := Tryz.prog) W 125 5 none n c 0 0 Tryz.underlying125
  go_enter Tryz.func260, Tryz.ntmps260
  go_wp2_with fail
  go_ret
  exact ⟨none, 0, rfl, RowU.nil _ _, Below.refl _ _⟩
 | some ad =>
  have hnil := fun W n c => Lib.run_eql_slice_nil (P := Tryz.prog) W 125 5 (some ad) n c 0 0 Tryz.underlying125
  have hown : (w.alloc (.cells #[] 5)).ownsRow w.heap.size 5 1 (.slice (some ⟨w.heap.size, 0, none⟩) 0 0) 0 [] :=
   ⟨rfl, .inr ⟨w.heap.size, 0, #[], rfl, Nat.le_refl _, heap_alloc_new w _, Nat.le_refl _, Nat.zero_le _, rfl, rfl⟩⟩
  have hb0 : Below w.heap.size w (w.alloc (.cells #[] 5)) := bAlloc (Below.refl _ _) _
  obtain ⟨g0, hg0, hlt0, hc0⟩ := (hR.kp (Kp.of (F := fun _ => False) hb0) (fun _ _ e => e)).bytes
  subst hg0
  have HNews : Hid (∀ (j : Nat) (u : Value), (xs.map vb)[j]? = some u → (w.alloc (.cells #[] 5)).cell? ((⟨g0, 0, none⟩ : Addr).add j) = some u) := Lib.hid (fun j u hu => by
   have hj : j < xs.length := by
    have := (List.getElem?_eq_some_iff.1 hu).1
    simpa using this
   have hadd : (⟨g0, 0, none⟩ : Addr).add j = ⟨g0, 0 + j, none⟩ := by unfold Addr.add; split <;> simp_all
   rw [hadd, hc0 j hj]
   rw [List.getElem?_map, List.getElem?_eq_getElem hj] at hu
   rw [List.getD_eq_getElem?_getD, List.getElem?_eq_getElem hj]
   exact hu)
  have HOwn := Lib.hid hown
  have HLen : Hid ((xs.map vb).length = N * 1) := Lib.hid (by rw [List.length_map, hN, Nat.mul_one])
  have HN := Lib.hid hN
  have HI := Lib.hid (And.intro hi (And.intro hz0 (And.intro hz1 hz2)))
  have HB0 := Lib.hid hb0
  clear hown hi hz0 hz1 hz2 hz3 ht hR hc0 hN hb0
  go_enter Tryz.func260, Tryz.ntmps260
  go_wp2_with (at_builtin; refine wpList_append_own _ rfl _ _ 125 rfl w.heap.size 5 i0 (.int .u8 0) 1 1 Tryz.underlying125 HI.out.1 HI.out.2.1 HI.out.2.2.1 HI.out.2.2.2 rfl (by decide) _ _ _ rfl HOwn.out ⟨g0, 0, none⟩ N cap (xs.map vb) rfl HLen.out HNews.out (one_bytes xs) (by unfold maxLen; omega) (by omega) (by simp) ?_; intro v' w' hown' hgrow _)
  rw [Nat.zero_add, List.nil_append] at hown'
  obtain ⟨a', c', rfl⟩ := own_slice hown'
  have HO := Lib.hid hown'
  have HG := Lib.hid hgrow
  clear hown' hgrow
  go_wp2_with fail
  go_ret
  refine ⟨a', c', rfl, ?_, HB0.out.grown HG.out (by simp) (fun kk hkk => by cases hkk; exact Nat.le_refl _)⟩
  unfold RowU
  rw [HN.out]
  exact HO.out

/-- The sum of blocks. -/
def bsum (T : Tabs) (x : PS × PS) : List UInt8 := hexL ((if 0 < x.2.n then x.1.wr .sha256 T (x.2.sum .sha256 T) else x.1).sum .sha256 T)

set_option maxHeartbeats 4000000 in
set_option maxRecDepth 100000 in
theorem blocksSum_any (T : Tabs) (B bm : Nat) (x : PS × PS) (w : World) (hM : BMk w B bm x) (hT : TabsAt w T) (hNB : ∀ i, B ≤ i → NoTab i) (hB : B ≤ w.heap.size) (hx : x.2.n < 4096) (hx1 : x.1.n ≤ 100000000) :
  Calls Tryz.prog 258 #[.pointer (some ⟨bm, 0, none⟩)] w fun e w' => e = .returned (.string ⟨(bsum T x).toArray⟩) ∧ Below w.heap.size w w' := by
 obtain ⟨⟨l, rest, N⟩, xb⟩ := x
 obtain ⟨ab, bb, Fa, Fb, hbx, hA, hBb, hdis, hbm, hna, hnb, hlA, hlB⟩ := hM
 obtain ⟨ge, ra, cap, hst, hFs⟩ := hA
 simp only [] at hst hBb hx hx1
 obtain ⟨k, hk⟩ : ∃ k, k = EK.sha256 := ⟨_, rfl⟩
 rw [← hk] at hst hBb
 have HK := Lib.hid hk
 have HS := Lib.hid hst
 have HBX := Lib.hid hbx
 have HBb := Lib.hid hBb
 have HT := Lib.hid hT
 have HNB := Lib.hid hNB
 obtain ⟨pt, hpt⟩ : ∃ pt, k.pty = pt := ⟨_, rfl⟩
 obtain ⟨fc, hfc⟩ : ∃ fc, k.copiedF = fc := ⟨_, rfl⟩
 have HPT := Lib.hid hpt
 obtain ⟨gc, hgc⟩ : ∃ gc, w.heap.size = gc := ⟨_, rfl⟩
 have HC : Hid (∀ wz : World, wz = w.drew → Calls Tryz.prog fc #[.pointer (some ⟨ge, 0, none⟩)] wz fun e w' => e = .returned (.iface pt (.pointer (some ⟨gc, 0, none⟩))) ∧ w' = w.drew.alloc (.cells (l.map vw).toArray k.box)) := Lib.hid (fun wz hz => by
  subst hz
  rw [← hfc, ← hpt, ← hgc]
  exact copied_any k ge l w.drew hst.eng hst.len)
 have hmt : ∀ (wz : World) (n : Nat) (v : Value), 0 < n → (method n pt v "wherryman/sums.copied").run Tryz.prog wz = .ok (fc, v) wz := fun wz n v hn => by rw [← hpt, ← hfc]; exact copied_method k wz n v hn
 have hen : ∀ (args : Array Value) (wz : World), (callFunc fc args).run Tryz.prog wz = .ok (.enter fc args) wz := fun args wz => by rw [← hfc]; exact copied_enters k args wz
 obtain ⟨m, hm⟩ : ∃ m, rest.length = m := ⟨_, rfl⟩
 have HM := Lib.hid hm
 have hms : m ≤ 1000000 := by have := hst.small; omega
 have c0 : w.drew.cell? ⟨bm, 0, none⟩ = some (.pointer (some ⟨ab, 0, none⟩)) := hbx.cell (j := 0) rfl
 have c1 : w.drew.cell? ⟨ab, 0, none⟩ = some (.iface pt (.pointer (some ⟨ge, 0, none⟩))) := by rw [← hpt]; exact hst.box.cell (j := 0) rfl
 have c2 : w.drew.cell? ⟨ab, 1, none⟩ = some (.slice ra m cap) := by rw [← hm]; exact hst.box.cell (j := 1) rfl
 have c3 : w.drew.cell? ⟨ab, 2, none⟩ = some (.int .i64 N) := hst.box.cell (j := 2) rfl
 have HR9 : Hid (∀ w9 : World, w9 = w.drew.alloc (.cells (l.map vw).toArray k.box) → RowU w9 B ra cap rest) := Lib.hid (fun w9 h9 => by
  rw [h9]
  exact HS.out.row.kp ((Kp.of (F := fun _ => False) ((Below.refl w.heap.size w).alloc (Nat.le_refl _) (.cells (l.map vw).toArray k.box))).drew 1) (fun _ _ e => e))
 have HGC := Lib.hid hgc
 have HX := Lib.hid (And.intro hx (And.intro hx1 hB))
 clear hst hbx hBb hT hNB hpt hfc hm hgc hk hx hx1 hB hdis hbm hna hnb hlA hlB hFs
 go_enter Tryz.func258, Tryz.ntmps258
 go_upto_region 1 with fail
 --R1
 refine wp_region_seq (fun W => W.cell? ⟨bm, 0, none⟩ = some (.pointer (some ⟨ab, 0, none⟩)) ∧ W.cell? ⟨ab, 0, none⟩ = some (.iface pt (.pointer (some ⟨ge, 0, none⟩))) ∧ W.cell? ⟨ab, 1, none⟩ = some (.slice ra m cap) ∧ W.cell? ⟨ab, 2, none⟩ = some (.int .i64 N)) [(0, true), (1, true), (2, true), (3, true), (4, true), (5, true), (6, true), (8, true), (9, true), (10, true), (11, true), (12, true), (13, true), (14, true), (16, true), (17, true), (18, true), (19, true), (20, true), (21, true), (22, true), (7, false), (15, false), (23, true), (24, false), (25, true)] (by as_aux_lemma => kernel_rfl) (by as_aux_lemma => kernel_rfl) (by decide) (by as_aux_lemma => kernel_rfl) ⟨c0, c1, c2, c3⟩ ?_
 intro OPS HO
 iterate 21
  refine seq_take (o := ⟨_, _, _, _, _, _⟩) (v := ?_) (by rw [HO.out]; rfl) (by rfl) ?_ ?_
  rotate_left 1
  ·first | ((intro W _; go_simp) <;> with_reducible rfl) | (intro W hW; obtain ⟨hW0, hW1, hW2, hW3⟩ := hW; (go_simp <;> with_reducible rfl))
  try simp only [Act.put, List.setIfInBounds_toArray, List.set_cons_zero, List.set_cons_succ]
 refine seq_do (o := ⟨_, _, _, _, _, _⟩) (by rw [HO.out]; rfl) (by rfl) (fun K hK => ?_)
 go_wp2_with fail
 refine (HC.out _ rfl).mono ?_
 rintro e w9 ⟨rfl, hw9⟩
 have HW9 := Lib.hid hw9
 clear hw9
 have hS : w9.cell? ⟨bm, 0, none⟩ = some (.pointer (some ⟨ab, 0, none⟩)) ∧ w9.cell? ⟨ab, 0, none⟩ = some (.iface pt (.pointer (some ⟨ge, 0, none⟩))) ∧ w9.cell? ⟨ab, 1, none⟩ = some (.slice ra m cap) ∧ w9.cell? ⟨ab, 2, none⟩ = some (.int .i64 N) := by
  have hb9 : Kp (fun _ => False) w.drew w9 := by rw [HW9.out]; exact Kp.of (F := fun _ => False) ((Below.refl w.drew.heap.size w.drew).alloc (Nat.le_refl _) _)
  exact ⟨cell_kp hb9 c0 (fun e => e), cell_kp hb9 c1 (fun e => e), cell_kp hb9 c2 (fun e => e), cell_kp hb9 c3 (fun e => e)⟩
 refine hK.out _ _ hS (fun _ => ?_)
 clear hK K
 try simp only [Act.put, List.setIfInBounds_toArray, List.set_cons_zero, List.set_cons_succ]
 refine seq_do (o := ⟨_, _, _, _, _, _⟩) (by rw [HO.out]; rfl) (by rfl) (fun K hK => ?_)
 go_wp2_with (go_at_call 260; refine (cloneU_any B cap ra rest m w9 (HR9.out w9 HW9.out) HM.out hms).mono ?_; rintro e w10 ⟨ra2, cap2, rfl, hy1, hy2⟩)
 have hS2 : w10.cell? ⟨bm, 0, none⟩ = some (.pointer (some ⟨ab, 0, none⟩)) ∧ w10.cell? ⟨ab, 0, none⟩ = some (.iface pt (.pointer (some ⟨ge, 0, none⟩))) ∧ w10.cell? ⟨ab, 1, none⟩ = some (.slice ra m cap) ∧ w10.cell? ⟨ab, 2, none⟩ = some (.int .i64 N) := ⟨cell_kp (Kp.of (F := fun _ => False) hy2) hS.1 (fun e => e), cell_kp (Kp.of (F := fun _ => False) hy2) hS.2.1 (fun e => e), cell_kp (Kp.of (F := fun _ => False) hy2) hS.2.2.1 (fun e => e), cell_kp (Kp.of (F := fun _ => False) hy2) hS.2.2.2 (fun e => e)⟩
 clear hS
 have hS := hS2
 clear hS2
 refine hK.out _ _ hS (fun _ => ?_)
 clear hK K
 try simp only [Act.put, List.setIfInBounds_toArray, List.set_cons_zero, List.set_cons_succ]
 refine seq_take (o := ⟨_, _, _, _, _, _⟩) (v := ?_) (by rw [HO.out]; rfl) (by rfl) ?_ ?_
 rotate_left 1
 ·first | ((intro W _; go_simp) <;> with_reducible rfl) | (intro W hW; obtain ⟨hW0, hW1, hW2, hW3⟩ := hW; (go_simp <;> with_reducible rfl))
 try simp only [Act.put, List.setIfInBounds_toArray, List.set_cons_zero, List.set_cons_succ]
 refine seq_do (o := ⟨_, _, _, _, _, _⟩) (by rw [HO.out]; rfl) (by rfl) (fun K hK => ?_)
 go_wp2_with fail
 have hS3 : (w10.alloc (.cells #[.iface pt (.pointer (some ⟨gc, 0, none⟩)), .slice ra2 m cap2, .int .i64 N] 226)).cell? ⟨bm, 0, none⟩ = some (.pointer (some ⟨ab, 0, none⟩)) ∧ (w10.alloc (.cells #[.iface pt (.pointer (some ⟨gc, 0, none⟩)), .slice ra2 m cap2, .int .i64 N] 226)).cell? ⟨ab, 0, none⟩ = some (.iface pt (.pointer (some ⟨ge, 0, none⟩))) ∧ (w10.alloc (.cells #[.iface pt (.pointer (some ⟨gc, 0, none⟩)), .slice ra2 m cap2, .int .i64 N] 226)).cell? ⟨ab, 1, none⟩ = some (.slice ra m cap) ∧ (w10.alloc (.cells #[.iface pt (.pointer (some ⟨gc, 0, none⟩)), .slice ra2 m cap2, .int .i64 N] 226)).cell? ⟨ab, 2, none⟩ = some (.int .i64 N) := ⟨cell_kp (Kp.of (F := fun _ => False) (bAlloc (Below.refl _ _) _)) hS.1 (fun e => e), cell_kp (Kp.of (F := fun _ => False) (bAlloc (Below.refl _ _) _)) hS.2.1 (fun e => e), cell_kp (Kp.of (F := fun _ => False) (bAlloc (Below.refl _ _) _)) hS.2.2.1 (fun e => e), cell_kp (Kp.of (F := fun _ => False) (bAlloc (Below.refl _ _) _)) hS.2.2.2 (fun e => e)⟩
 clear hS
 have hS := hS3
 clear hS3
 refine hK.out _ _ hS (fun _ => ?_)
 clear hK K
 try simp only [Act.put, List.setIfInBounds_toArray, List.set_cons_zero, List.set_cons_succ]
 refine seq_take (o := ⟨_, _, _, _, _, _⟩) (v := ?_) (by rw [HO.out]; rfl) (by rfl) ?_ ?_
 rotate_left 1
 ·first | ((intro W _; go_simp) <;> with_reducible rfl) | (intro W hW; obtain ⟨hW0, hW1, hW2, hW3⟩ := hW; (go_simp <;> with_reducible rfl))
 try simp only [Act.put, List.setIfInBounds_toArray, List.set_cons_zero, List.set_cons_succ]
 refine seq_done ?_
 --ENDR1
 have hb9 : Below w.heap.size w w9 := by
  rw [HW9.out]
  have h := (Below.refl w.heap.size w).alloc (Nat.le_refl _) (.cells (l.map vw).toArray k.box)
  exact ⟨h.os, h.tape, h.output, h.size, h.block⟩
 have hs9 : w9.heap.size = gc + 1 := by
  rw [HW9.out, ← HGC.out]
  show (w.alloc (.cells (l.map vw).toArray k.box)).heap.size = _
  simp
 have hb10 : Below w.heap.size w w10 := bTrans hb9 hy2
 have hs10 : w9.heap.size ≤ w10.heap.size := hy2.size
 have hb11 : Below w10.heap.size w10 (w10.alloc (.cells #[.iface pt (.pointer (some ⟨gc, 0, none⟩)), .slice ra2 m cap2, .int .i64 N] 226)) := bAlloc (Below.refl _ _) _
 have HS11 : Hid (StreamAt (w10.alloc (.cells #[.iface pt (.pointer (some ⟨gc, 0, none⟩)), .slice ra2 m cap2, .int .i64 N] 226)) gc w10.heap.size gc k ra2 cap2 l rest N) := Lib.hid (by
  have hE9 : WordsAt w9 gc l k.box := by
   rw [HW9.out, ← HGC.out]
   exact heap_alloc_new w.drew _
  have hX : BoxIs (w10.alloc (.cells #[.iface pt (.pointer (some ⟨gc, 0, none⟩)), .slice ra2 m cap2, .int .i64 N] 226)) w10.heap.size #[.iface pt (.pointer (some ⟨gc, 0, none⟩)), .slice ra2 m cap2, .int .i64 N] 226 := heap_alloc_new _ _
  have hk2 : Kp (fun _ => False) w9 (w10.alloc (.cells #[.iface pt (.pointer (some ⟨gc, 0, none⟩)), .slice ra2 m cap2, .int .i64 N] 226)) := (Kp.of hy2).trans (Kp.of hb11)
  refine ⟨?_, hE9.kp hk2 (fun e => e), HS.out.len, ?_, by omega, Nat.le_refl _, by omega, ?_, HS.out.small⟩
  ·rw [HPT.out, HM.out]
   exact hX
  ·have h := hy1.kp (Kp.of (F := fun _ => False) hb11) (fun _ _ e => e)
   refine ⟨h.1, ?_⟩
   rcases h.2 with h1 | ⟨g, c, cur, h1, h2, h3⟩
   ·exact .inl h1
   ·exact .inr ⟨g, c, cur, h1, by omega, h3⟩
  ·intro i hi
   have := hy1.base i hi
   exact ⟨by omega, by omega⟩)
 have HB11 : Hid (Below w.heap.size w (w10.alloc (.cells #[.iface pt (.pointer (some ⟨gc, 0, none⟩)), .slice ra2 m cap2, .int .i64 N] 226))) := Lib.hid (bTrans hb10 hb11)
 obtain ⟨cb, hcb⟩ : ∃ cb, w10.heap.size = cb := ⟨_, rfl⟩
 rw [hcb] at HS11
 have HCB := Lib.hid hcb
 have hcg : gc ≤ cb := by omega
 clear hb9 hs9 hb10 hs10 hb11 hy1 hy2 hS HC hmt hen HR9
 rw [hcb]
 clear hcb
 generalize w10.alloc (.cells #[.iface pt (.pointer (some ⟨gc, 0, none⟩)), .slice ra2 m cap2, .int .i64 N] 226) = w11 at *
 have HP11 : Hid (PsAt w11 gc cb k ⟨l, rest, N⟩ (fun i => Fs cb gc ra2 i)) := Lib.hid ⟨gc, ra2, cap2, HS11.out, fun _ hi => hi⟩
 have HB1 : Hid (PsAt w11 B bb k xb Fb) := Lib.hid (HBb.out.under HB11.out)
 have HT11 : Hid (TabsAt w11 T) := Lib.hid (HT.out.kp (Kp.of (F := fun _ => False) HB11.out) (fun _ e => e.elim))
 have hNg : ∀ i, gc ≤ i → NoTab i := fun i hi => HNB.out i (by have := HGC.out; have := HX.out.2.2; omega)
 have HNG := Lib.hid hNg
 have hg11 : gc ≤ w11.heap.size := by have := HB11.out.size; rw [HGC.out] at this; exact this
 have hB11 : B ≤ w11.heap.size := by have := HX.out.2.2; have := HGC.out; omega
 have d1 : w11.cell? ⟨bm, 1, none⟩ = some (.pointer (some ⟨bb, 0, none⟩)) := (HBX.out.under HB11.out).cell (j := 1) rfl
 have d2 : w11.cell? ⟨bb, 2, none⟩ = some (.int .i64 xb.n) := HB1.out.many
 obtain ⟨nb, hnb⟩ : ∃ nb, xb.n = nb := ⟨_, rfl⟩
 rw [hnb] at d2
 have HNb := Lib.hid hnb
 clear hnb hNg c0 c1 c2 c3
 by_cases hpos : 0 < nb
 ·have hpos2 : (0 : Int) < (nb : Int) := by omega
  have HSu := Lib.hid (psSum_any B bb k T xb Fb w11 HB1.out HT11.out HNB.out hB11 (by have := HX.out.1; omega))
  obtain ⟨sm, hsm⟩ : ∃ sm : ByteArray, sm = ⟨(xb.sum k T).toArray⟩ := ⟨_, rfl⟩
  have hsml : sm.size ≤ 32 := by
   rw [Lib.size_eq, hsm]
   show (xb.sum k T).length ≤ 32
   rw [sum_len k T xb HB1.out.len]
   cases k <;> decide
  have HSl : Hid (sm.data.toList = xb.sum k T) := Lib.hid (by rw [hsm])
  rw [← hsm] at HSu
  have hN1 := HX.out.2.1
  have HWa := Lib.hid (fun W (hb : Below w11.heap.size w11 W) => psWrite_any gc cb k T ⟨l, rest, N⟩ _ sm W (HP11.out.under hb) (HT11.out.kp (Kp.of (F := fun _ => False) hb) (fun _ e => e.elim)) HNG.out (Nat.le_trans hg11 hb.size) (by omega) (by show N ≤ 1000000000; omega))
  obtain ⟨pc, hpc⟩ : ∃ pc, pc = PS.wr k T ⟨l, rest, N⟩ sm.data.toList := ⟨_, rfl⟩
  rw [← hpc] at HWa
  have hpn : pc.n ≤ 1000000000 := by
   rw [hpc]
   show N + sm.data.toList.length ≤ _
   rw [← Lib.size_eq]; omega
  have HPC := Lib.hid hpc
  have hpl : ∀ W F, PsAt W gc cb k pc F → (PS.sum k T pc).length = k.out := fun W F h => sum_len k T pc h.len
  have HPL := Lib.hid hpl
  clear hsm hN1 hpc hpl
  go_upto_region 4 with (first | (go_at_call 262; refine HSu.out.mono ?_; rintro e w12 ⟨rfl, hb12⟩) | (go_at_call 261; refine (HWa.out _ hb12).mono ?_; rintro e w13 ⟨rfl, F13, hq1, hq2, hq3⟩))
  have HB13 : Hid (Below w.heap.size w w13) := Lib.hid ((bTrans HB11.out hb12).trans (hq2.below (fun i hi => by
   rcases hi with rfl | rfl | hi
   ·rw [HGC.out]; exact hcg
   ·rw [HGC.out]; exact Nat.le_refl _
   ·rw [HGC.out]; exact (HS11.out.row.base i hi).1) (Nat.le_trans HB11.out.size hb12.size)))
  have HP13 := Lib.hid hq1
  have hg13 : gc ≤ w13.heap.size := by have := HB13.out.size; rw [HGC.out] at this; exact this
  have HSu2 := Lib.hid (psSum_any gc cb k T pc F13 w13 hq1 (HT.out.kp (Kp.of (F := fun _ => False) HB13.out) (fun _ e => e.elim)) HNG.out hg13 hpn)
  obtain ⟨s9, hs9⟩ : ∃ s9 : ByteArray, s9 = ⟨(pc.sum k T).toArray⟩ := ⟨_, rfl⟩
  rw [← hs9] at HSu2
  have hs9l : s9.size ≤ 32 := by
   rw [Lib.size_eq, hs9]
   show (pc.sum k T).length ≤ 32
   rw [HPL.out _ _ hq1]
   cases k <;> decide
  have HHx := Lib.hid (fun W => hexed_any s9 W (by omega))
  have HS9 := Lib.hid hs9
  clear hs9 hq1 hq2 hq3 hb12 HSu HWa HPL d1 d2
  go_wp2_with (first | (go_at_call 262; refine HSu2.out.mono ?_; rintro e w14 ⟨rfl, hb14⟩) | (go_at_call 256; refine (HHx.out _).mono ?_; rintro e w15 ⟨rfl, hb15⟩))
  go_ret
  refine ⟨?_, bTrans HB13.out (bTrans hb14 hb15)⟩
  unfold bsum
  rw [if_pos (by rw [HNb.out]; exact hpos), ← HK.out, HS9.out, HPC.out, HSl.out]
  rfl
 ·obtain rfl : nb = 0 := by omega
  have HSu2 := Lib.hid (psSum_any gc cb k T ⟨l, rest, N⟩ _ w11 HP11.out HT11.out HNG.out hg11 (by have := HX.out.2.1; show N ≤ 1000000000; omega))
  obtain ⟨s9, hs9⟩ : ∃ s9 : ByteArray, s9 = ⟨(PS.sum k T ⟨l, rest, N⟩).toArray⟩ := ⟨_, rfl⟩
  rw [← hs9] at HSu2
  have hs9l : s9.size ≤ 32 := by
   rw [Lib.size_eq, hs9]
   show (PS.sum k T ⟨l, rest, N⟩).length ≤ 32
   rw [sum_len k T _ HP11.out.len]
   cases k <;> decide
  have HHx := Lib.hid (fun W => hexed_any s9 W (by omega))
  have HS9 := Lib.hid hs9
  clear hs9
  go_wp2_with (first | (go_at_call 262; refine HSu2.out.mono ?_; rintro e w14 ⟨rfl, hb14⟩) | (go_at_call 256; refine (HHx.out _).mono ?_; rintro e w15 ⟨rfl, hb15⟩))
  go_ret
  refine ⟨?_, bTrans HB11.out (bTrans hb14 hb15)⟩
  unfold bsum
  rw [if_neg (by rw [HNb.out]; decide), ← HK.out, HS9.out]
  rfl
end Go.Proofs.YtchfhojighopkaaGreatDoor
