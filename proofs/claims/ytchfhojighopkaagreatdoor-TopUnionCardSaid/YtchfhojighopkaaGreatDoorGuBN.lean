/-
  Parts of the proof: Uf6, Uf7, Uv1.
-/
import Derived.Test.YtchfhojighopkaaGreatDoorGuBL
import Derived.Test.YtchfhojighopkaaGreatDoorGuBM
namespace Go.Proofs.YtchfhojighopkaaGreatDoor
open Go.RowKit

section
variable {w0 w w' : World} {S : Two} {N : Int} {u : UB} {T : Tabs} {p : ByteArray}
/-- Put into a member. -/
theorem putJ_any (hG : Gr w0 T) (h : InvU w0 S N u w) (hN : N ≤ 1000) (b : Bool) (hp : p ∈ nm4) {d : ByteArray} (hd : d.size ≤ 1000) {t : Int} (ht : -9223372036854775808 ≤ t ∧ t ≤ 9223372036854775807) :
  Calls Tryz.prog 6 #[ptr (S.M b).b, .string p, .string d, .int .i64 t, .slice none 0 0] w fun e w' => (∃ A z t' sa sn sc ix, e = .returned (.tuple #[.agg (infoArr A false z t' (.slice sa sn sc) ix), .int .i64 0])) ∧ ∃ S', Stp w0.heap.size S S' (N + 1) w w' ∧ ∀ c, c ≠ b → S'.s c = S.s c := by
 refine (putF_any w0 w T (S.M b) (S.s b) N p d t hG h.bel (h.j.mem b) (h.j.flat b) hN hp hd ht).mono ?_
 rintro e w' ⟨s', A, z, t', sa, sn, sc, ix, rfl, h1, h2, h3, h4⟩
 exact ⟨⟨A, z, t', sa, sn, sc, ix, rfl⟩, S.set b s', h.j.step b h1 h2 (by omega) h3 h4, fun c hc => by simp [Two.set, hc]⟩
/-- Remove from a member. -/
theorem remJ_any (hE : Env w0) (h : InvU w0 S N u w) (b : Bool) (hp : p ∈ nm4) {n : Nd} (hn : (S.s b).F [p] = some n) :
  Calls Tryz.prog 162 #[ptr (S.M b).b, .string p] w fun e w' => e = .returned (.int .i64 0) ∧ ∃ S', Stp w0.heap.size S S' N w w' ∧ ∀ c, c ≠ b → S'.s c = S.s c := by
 refine (removeF_any w0 w (S.M b) (S.s b) N p n hE h.bel (h.j.mem b) (h.j.flat b) hp hn).mono ?_
 rintro e w' ⟨s', rfl, h1, h2, h3, h4⟩
 exact ⟨rfl, S.set b s', h.j.step b h1 h2 (Int.le_refl _) h3 (fun i hi => .inl (h4 i hi)), fun c hc => by simp [Two.set, hc]⟩
/-- A change of the union: members that are fixed stay as they are. -/
def Moved (w0 : World) (S : Two) (N : Int) (u : UB) (w w' : World) : Prop := ∃ S' N', Stp w0.heap.size S S' N' w w' ∧ N ≤ N' ∧ N' ≤ N + 2 ∧ ∀ i, i < 2 → u.isFix i = true → S'.s (bOf i) = S.s (bOf i)
theorem Moved.none (h : InvU w0 S N u w) : Moved w0 S N u w w := ⟨S, N, Stp.refl h.j, Int.le_refl _, by omega, fun _ _ _ => rfl⟩
theorem bOf_inj {i j : Nat} (hi : i < 2) (hj : j < 2) (h : bOf i = bOf j) : i = j := by
 unfold bOf at h
 match i, j, hi, hj with
 | 0, 0, _, _ => rfl
 | 1, 1, _, _ => rfl
 | 0, 1, _, _ => cases h
 | 1, 0, _, _ => cases h
/-- What a call does to blocks of its own. -/
theorem Stp.over {F : Nat → Prop} {S' : Two} {N' : Int} {v v' : World} (h : Stp w0.heap.size S S' N' w v) (hk : Kp F v v') (hF : ∀ i, F i → w.heap.size ≤ i) (hF2 : ∀ i, F i → ¬ S'.all i) : Stp w0.heap.size S S' N' w v' :=
 ⟨h.j.kp hk (fun i hi g => hF2 i g hi), h.kp.extK hk (fun i hi => .inr (hF i hi)), h.own, h.M⟩
theorem isNewU_any (hE : Env w0) (h : InvU w0 S N u w) (hp : p ∈ nm4) :
  Calls Tryz.prog 232 #[ptr u.b, .string p] w fun e w' => e = .returned (.int .i64 0) ∧ Below w.heap.size w w' := by
 have HF1 := Lib.hid (isFileW_any w0 w p hE h.bel hp)
 have ho := nm4_ok hp
 have HFi : Hid (∀ W, Below w.heap.size w W → Calls Tryz.prog 211 #[.agg #[.int .i64 287, .int .i64 16, .int .i64 1, .int .i64 255, .int .i64 1024, .int .i64 100000, .int .i64 4, .int .i64 1, .string ⟨#[]⟩], .string p] W fun e w' => e = .returned (.bool true) ∧ Below W.heap.size W w') := Lib.hid (fun W hb => by
  have h1 := storeFits_any ⟨287, 16, 1, 255, 1024, 100000, 4, 1, ⟨#[]⟩⟩ p W (hE.below (h.bel.trans (Below.mono hb h.base)) (Nat.le_refl _)) ho.err (by decide) (by decide)
  have h2 : fitsB ⟨287, 16, 1, 255, 1024, 100000, 4, 1, ⟨#[]⟩⟩ p = true := by rcases nm4_cases hp with rfl | rfl | rfl | rfl <;> decide
  rw [h2] at h1
  exact h1)
 have HU := Lib.hid (fun W (hb : Below w.heap.size w W) => (h.u.below hb).box)
 clear hE h hp ho
 go_enter Tryz.func232, Tryz.ntmps232
 go_upto_region 4 with (go_at_call 209; refine HF1.out.mono ?_; rintro e w2 ⟨rfl, hb2⟩)
 have hbx := HU.out _ hb2
 have c0 := hbx.cell (j := 0) rfl
 have c1 := hbx.cell (j := 1) rfl
 have c2 := hbx.cell (j := 2) rfl
 have c3 := hbx.cell (j := 3) rfl
 have c4 := hbx.cell (j := 4) rfl
 have c5 := hbx.cell (j := 5) rfl
 have c6 := hbx.cell (j := 6) rfl
 have c7 := hbx.cell (j := 7) rfl
 have c8 := hbx.cell (j := 8) rfl
 have HFw := Lib.hid (HFi.out _ hb2)
 clear hbx
 go_wp2_with (go_at_call 211; refine HFw.out.mono ?_; rintro e w3 ⟨rfl, hb3⟩)
 go_ret
 exact ⟨rfl, bTrans hb2 hb3⟩
theorem Stp.pre {S' : Two} {N' : Int} {B : Nat} {v : World} (hk : Kp S.foot w v) (h : Stp B S S' N' v w') : Stp B S S' N' w w' :=
 ⟨h.j, hk.trans h.kp, fun i hi => (h.own i hi).imp id (fun q => Nat.le_trans hk.size q), h.M⟩
theorem Stp.apart {S' : Two} {N' : Int} {B : Nat} (h : Stp B S S' N' w w') {i : Nat} (hi : i < w.heap.size) (hn : ¬ S.all i) : ¬ S'.all i := by
 rintro ⟨b, q | q⟩
 ·rcases h.own i ⟨b, q⟩ with q2 | q2
  ·exact hn (Two.foot_all q2)
  ·omega
 ·rw [h.M] at q
  exact hn ⟨b, .inr q⟩
/-- What Put leaves. -/
def PutP (w0 : World) (S : Two) (N : Int) (u : UB) (w : World) (e : Ending) (w' : World) : Prop :=
 (∃ (x : InfS) (z : Int), e = .returned (.tuple #[.agg x.arr, .int .i64 z])) ∧ Moved w0 S N u w w'
def PutL (w0 : World) (S : Two) (N : Int) (u : UB) (w : World) (rz ob : Nat) (ta : Option Addr) (i : Nat) (wx : World) : Prop :=
 ∃ S', Stp w0.heap.size S S' (N + i) w wx ∧ (∀ j, j < 2 → u.isFix j = true → S'.s (bOf j) = S.s (bOf j)) ∧ (∀ j, j = rz ∨ j = ob ∨ rb ta j → ¬ S'.all j)
set_option maxHeartbeats 16000000 in
set_option maxRecDepth 100000 in
theorem putU_any (hG : Gr w0 T) (h : InvU w0 S N u w) (hN : N ≤ 900) (hp : p ∈ nm4) {d : ByteArray} (hd : d.size ≤ 1000) {t : Int} (ht : -9223372036854775808 ≤ t ∧ t ≤ 9223372036854775807) :
  Calls Tryz.prog 222 #[ptr u.b, .string p, .string d, .int .i64 t, .slice none 0 0] w (PutP w0 S N u w) := by
 have hx1 : BoxIs (w.alloc (.cells info0 37)) w.heap.size info0 37 := heap_alloc_new _ _
 have hb1 : Below w.heap.size w (w.alloc (.cells info0 37)) := bAlloc (Below.refl _ _) _
 have HNw := Lib.hid (fun W (hI : InvU w0 S N u W) => isNewU_any hG.env hI hp)
 have HLk := Lib.hid (fun W (hI : InvU w0 S N u W) => look_any hG hI hp)
 unfold LookP at HLk
 have HPr := Lib.hid (fun W (hI : InvU w0 S N u W) => prepared_any hG hI hp)
 unfold PrepP at HPr
 have HTg := Lib.hid (fun W r ns xs na nc ia ic (hI : InvU w0 S N u W) (q1 : SeenR W r ns xs na nc ia ic) q2 q3 q4 => targets_any hI.u q1 q2 q3 q4)
 unfold TargP at HTg
 have HPu := Lib.hid (fun W (S' : Two) (N' : Int) b (hI : InvU w0 S' N' u W) (q : N' ≤ 1000) => putJ_any hG hI q b hp hd ht)
 have HNo := Lib.hid (fun (na : Option Addr) (n nc : Nat) (ia : Option Addr) (k ic : Nat) W => seenNone_any na n nc (.slice ia k ic) rfl W)
 have HDi := Lib.hid (fun W r ns xs na nc ia ic (q1 : SeenR W r ns xs na nc ia ic) q2 q3 => seenDir_any q1 q2 q3)
 have hMP := memM_put
 obtain ⟨rz, hrz⟩ : ∃ rz, w.heap.size = rz := ⟨_, rfl⟩
 have HI := Lib.hid h
 have hi1 := h.fresh hb1
 have HFo := Lib.hid (fun i (hf : S.all i) => h.lt (.inl hf))
 rw [hrz] at hx1 HFo
 have HZ := Lib.hid hrz
 have HX1 := Lib.hid hx1
 have HB1 := Lib.hid hb1
 have HI1 := Lib.hid hi1
 have hend : ∀ (v : World) (S' : Two) (N' : Int) (x : InfS) (z : Int), Stp w0.heap.size S S' N' w v → N ≤ N' → N' ≤ N + 2 → (∀ i, i < 2 → u.isFix i = true → S'.s (bOf i) = S.s (bOf i)) → ¬ S'.all rz → PutP w0 S N u w (.returned (.tuple #[.agg x.arr, .int .i64 z])) (set7 v rz x.path x.dir x.size x.time (.slice x.sa x.sn x.sc) x.id) := fun v S' N' x z q1 q2 q3 q4 q5 =>
  ⟨⟨x, z, rfl⟩, S', N', q1.over (set7_kp (Kp.refl (fun i => i = rz) v) (.inl rfl) _ _ _ _ _ _) (fun i hi => by rw [hi, hrz]; exact Nat.le_refl _) (fun i hi => by rw [hi]; exact q5), q2, q3, q4⟩
 have HEnd := Lib.hid hend
 have HNN := Lib.hid hN
 clear hG h hN hp hd ht hrz hx1 hb1 hi1 hend
 go_enter Tryz.func222, Tryz.ntmps222
 go_upto_region 1 with fail
 rw [HZ.out]
 generalize w.alloc _ = w1 at *
 go_upto_region 4 with (go_at_call 232; refine (HNw.out _ HI1.out).mono ?_; rintro e w2 ⟨rfl, hb2⟩)
 have HI2 := Lib.hid (HI1.out.fresh hb2)
 have HX2 := Lib.hid (HX1.out.under hb2)
 have HB2 := Lib.hid (bTrans HB1.out hb2)
 have HL2 := Lib.hid (HLk.out w2 HI2.out)
 clear hb2 HI1 HX1 HB1 HNw HLk
 go_upto_region 7 with (go_at_call 233; refine HL2.out.mono ?_; rintro e w3 ⟨ns, xs, na, nc, ia, ic, rfl, hs3, hl3, hi3, hk3⟩)
 have hfo : ∀ j, S.foot j → j < rz := fun j hj => HFo.out j (Two.foot_all hj)
 have HX3 := Lib.hid (HX2.out.kp hk3 (fun q => by have := hfo _ q; omega))
 have HI3 := Lib.hid hi3
 have HS3 := Lib.hid (And.intro hs3 hl3)
 have HK3 : Hid (Kp S.foot w w3) := Lib.hid ((Kp.of HB2.out).trans hk3)
 have hb4 : Below w3.heap.size w3 (w3.alloc (.cells #[.slice na ns.length nc, .slice ia xs.length ic] 296)) := bAlloc (Below.refl _ _) _
 have hx4 : BoxIs (w3.alloc (.cells #[.slice na ns.length nc, .slice ia xs.length ic] 296)) w3.heap.size #[.slice na ns.length nc, .slice ia xs.length ic] 296 := heap_alloc_new _ _
 obtain ⟨ob, hob⟩ : ∃ ob, w3.heap.size = ob := ⟨_, rfl⟩
 have HX4 := Lib.hid hx4
 rw [hob] at HX4 ⊢
 have HXr := Lib.hid (HX3.out.under hb4)
 have HI4 := Lib.hid (HI3.out.fresh hb4)
 have HS4 := Lib.hid (hs3.under hb4)
 have HK4 : Hid (Kp S.foot w _) := Lib.hid (HK3.out.trans (Kp.of hb4))
 clear hb4 hx4 hs3 hl3 hi3 hk3 hfo hob HX2 HX3 HI2 HI3 HB2 HL2 HK3
 generalize w3.alloc _ = w4 at *
 obtain ⟨k, hk⟩ : ∃ k, ns.length = k := ⟨_, rfl⟩
 have hkx : xs.length = k := by rw [← HS3.out.1.len]; exact hk
 have HKn := Lib.hid (And.intro hk hkx)
 have hk2 : k ≤ 2 := by rw [← hk, HS3.out.2.1]; exact hasN_le S p 2
 have HD4 := Lib.hid (HDi.out w4 w2.heap.size ns xs na nc ia ic HS4.out HS3.out.2.2 (by omega))
 rw [hk, hkx] at HX4 HD4
 have HN4 := Lib.hid (fun W => HNo.out na k nc ia k ic W)
 have HT4 := Lib.hid (fun W (hb : Below w4.heap.size w4 W) => HTg.out W w2.heap.size ns xs na nc ia ic (HI4.out.fresh hb) (HS4.out.under hb) HS3.out.2.2 (by omega) (fun m hm => (hasN_at (by rw [← HS3.out.2.1]; exact hm)).1))
 rw [hk, hkx] at HT4
 have s0 := HX4.out.cell (j := 0) rfl
 have s1 := HX4.out.cell (j := 1) rfl
 clear HNo HDi HTg hk hkx HS4
 go_upto_region 9 with (go_at_call 234; refine HD4.out.mono ?_; rintro e w5 ⟨rfl, hb5⟩)
 have HX5 := Lib.hid (HX4.out.under hb5)
 have HB5 := Lib.hid hb5
 have t0 := HX5.out.cell (j := 0) rfl
 have t1 := HX5.out.cell (j := 1) rfl
 clear s0 s1 hb5 HD4 HX4
 cases hz : (k == 0) with
 | true =>
  rw [hz] at HN4
  clear hz HT4 hk2
  go_upto_region 10 with (go_at_call 235; refine (HN4.out _).mono ?_; rintro e w6 ⟨rfl, hb6⟩)
  have HB6 := Lib.hid (bTrans HB5.out hb6)
  have HI6 := Lib.hid (HI4.out.fresh HB6.out)
  have HP6 := Lib.hid (HPr.out w6 HI6.out)
  clear hb6 HB5 HN4 HPr t0 t1
  go_upto_region 11 with (go_at_call 236; refine HP6.out.mono ?_; rintro e w7 ⟨⟨v7, z7, rfl, hv7⟩, hi7, hk7⟩)
  have hnr : ¬ S.all rz := fun q => by have := HFo.out _ q; omega
  have hX7 : BoxIs w7 rz info0 37 := (HXr.out.under HB6.out).kp hk7 (fun q => hnr (Two.foot_all q))
  have hk07 : Kp S.foot w w7 := HK4.out.trans ((Kp.of HB6.out).trans hk7)
  rcases hv7 with ⟨rfl, rfl⟩ | ⟨rfl, m, hm, rfl, hf⟩
  ·obtain ⟨⟨p0, p1, p2, p3, p4, p5, p6⟩, f0, f1, f2, f3, f4, f5, f6⟩ := info_room hX7
   have hend := HEnd.out w7 S N InfS.zero 15 ((Stp.refl hi7.j).pre hk07) (Int.le_refl _) (by omega) (fun _ _ _ => rfl) hnr
   unfold set7 InfS.zero at hend
   clear hX7 hk07 hi7 hk7
   go_wp2_with fail
   try simp only [Exit.inBlock, Exit.then]
   refine bodyPost_ret (v := .tuple #[.agg (InfS.arr InfS.zero), .int .i64 15]) ?_ rfl hend
   clear hend
   simp [results, Tryz.f222]
   go_simp
   simp [InfS.zero]
  ·have HP7 := Lib.hid (HPu.out w7 S N (bOf m) hi7 (by have := HNN.out; omega))
   have HX7 := Lib.hid hX7
   have HK7 := Lib.hid (And.intro hk07 (And.intro hf (And.intro hm hnr)))
   have HI7 := Lib.hid hi7
   clear hX7 hk07 hi7 hk7 hf hnr HP6
   unfold memI
   go_upto_region 13 with fail
   obtain ⟨mb, hmb⟩ : ∃ mb, (S.M (bOf m)).b = mb := ⟨_, rfl⟩
   rw [hmb] at HP7 ⊢
   clear hmb
   go_wp2_with (go_at_call 6; refine HP7.out.mono ?_; rintro e w8 ⟨⟨A, z, t', sa, sn, sc, ix, rfl⟩, S', hs8, ho8⟩; have H8 := Lib.hid (And.intro hs8 ho8); have hX8 : BoxIs w8 rz info0 37 := HX7.out.kp hs8.kp (fun q => HK7.out.2.2.2 (Two.foot_all q)); obtain ⟨⟨p0, p1, p2, p3, p4, p5, p6⟩, f0, f1, f2, f3, f4, f5, f6⟩ := info_room hX8; clear hX8 hs8 ho8)
   have hend := HEnd.out w8 S' (N + 1) ⟨A, false, z, t', sa, sn, sc, ix⟩ 0 (H8.out.1.pre HK7.out.1) (by omega) (by omega) (fun j hj hf => H8.out.2 _ (fun e => by
    have := bOf_inj hj HK7.out.2.2.1 e
    rw [this, HK7.out.2.1] at hf
    cases hf)) (H8.out.1.apart HX7.out.lt HK7.out.2.2.2)
   unfold set7 at hend
   try simp only [Exit.inBlock, Exit.then]
   refine bodyPost_ret (v := .tuple #[.agg (InfS.arr ⟨A, false, z, t', sa, sn, sc, ix⟩), .int .i64 0]) ?_ rfl hend
   clear hend
   simp [results, Tryz.f222]
   go_simp
 | false =>
  rw [hz] at HN4
  clear hz HPr
  go_upto_region 14 with (go_at_call 235; refine (HN4.out _).mono ?_; rintro e w6 ⟨rfl, hb6⟩)
  have HB6 := Lib.hid (bTrans HB5.out hb6)
  have HT6 := Lib.hid (HT4.out w6 HB6.out)
  have HX6 := Lib.hid (HX5.out.under hb6)
  have u0 := HX6.out.cell (j := 0) rfl
  have u1 := HX6.out.cell (j := 1) rfl
  clear t0 t1 hb6 HB5 HT4 HN4 HX5
  go_upto_region 15 with (go_at_call 237; refine HT6.out.mono ?_; rintro e w7 ⟨⟨v7, z7, rfl, hv7⟩, hb7⟩)
  have HB7 := Lib.hid (bTrans HB6.out hb7)
  have HI7 := Lib.hid (HI4.out.fresh HB7.out)
  have hnr : ¬ S.all rz := fun q => by have := HFo.out _ q; omega
  have HX7 := Lib.hid (HXr.out.under HB7.out)
  have HK7 : Hid (Kp S.foot w w7) := Lib.hid (HK4.out.trans (Kp.of HB7.out))
  have hsz6 : rz ≤ w6.heap.size := by have := HXr.out.lt; have := HB6.out.size; omega
  clear u0 u1 HT6 HB6 HX6 hb7
  rcases hv7 with ⟨rfl, rfl⟩ | ⟨rfl, ts, ta, tc, rfl, hr7, hsub, hfx⟩
  ·obtain ⟨⟨p0, p1, p2, p3, p4, p5, p6⟩, f0, f1, f2, f3, f4, f5, f6⟩ := info_room HX7.out
   have hend := HEnd.out w7 S N InfS.zero 15 ((Stp.refl HI7.out.j).pre HK7.out) (Int.le_refl _) (by omega) (fun _ _ _ => rfl) hnr
   unfold set7 InfS.zero at hend
   clear hnr hsz6
   go_wp2_with fail
   try simp only [Exit.inBlock, Exit.then]
   refine bodyPost_ret (v := .tuple #[.agg (InfS.arr InfS.zero), .int .i64 15]) ?_ rfl hend
   clear hend
   simp [results, Tryz.f222]
   go_simp
   simp [InfS.zero]
  ·obtain ⟨n, hn⟩ : ∃ n, ts.length = n := ⟨_, rfl⟩
   have hn2 : n ≤ 2 := by rw [← hn]; have := hsub.length_le; have := HKn.out.1; omega
   have hb8 : Below w7.heap.size w7 (w7.alloc (.cells info0 37)) := bAlloc (Below.refl _ _) _
   have hx8 : BoxIs (w7.alloc (.cells info0 37)) w7.heap.size info0 37 := heap_alloc_new _ _
   have hta : ∀ j, rb ta j → rz ≤ j := fun j hj => Nat.le_trans hsz6 (hr7.base j hj).1
   obtain ⟨o2, ho2⟩ : ∃ o2, w7.heap.size = o2 := ⟨_, rfl⟩
   have ho2z : rz < o2 := by rw [← ho2]; exact HX7.out.lt
   have hta2 : ∀ j, rb ta j → j < o2 := fun j hj => by rw [← ho2]; exact (hr7.base j hj).2
   rw [ho2] at hx8
   have HTs := Lib.hid (And.intro hn (And.intro (fun m hm => (hasN_at (by rw [← HS3.out.2.1]; exact hsub.subset hm)).1 : ∀ m ∈ ts, m < 2) hfx))
   have HH8 := Lib.hid ((hr7.holds (by decide)).under hb8)
   have HX8 := Lib.hid hx8
   have HXz := Lib.hid (HX7.out.under hb8)
   have HL8 : Hid (PutL w0 S N u w rz o2 ta 0 _) := Lib.hid ⟨S, by
    have := (Stp.refl (HI7.out.fresh hb8).j).pre (HK7.out.trans (Kp.of hb8))
    rw [show N + ((0 : Nat) : Int) = N by omega]
    exact this, fun _ _ _ => rfl, fun j hj q => by
     have h1 := HFo.out j q
     rcases hj with rfl | rfl | hj
     ·omega
     ·omega
     ·have := hta j hj; omega⟩
   have HTa := Lib.hid (And.intro hta hta2)
   clear hb8 hx8 hta hta2 hr7 hsub hfx hnr hsz6 HX7
   rw [hn]
   clear hn
   go_upto_region 18 with fail
   try rw [ho2]
   clear ho2
   generalize w7.alloc _ = w8 at *
   go_upto_region 19 with fail
   go_loopg [78] n (fun gk s78 wx => ∃ (i : Nat) (x : InfS), s78 = .int .i64 i ∧ i + gk = n ∧ x.dir = false ∧ Hid (PutL w0 S N u w rz o2 ta i wx) ∧ Hid (BoxIs wx rz info0 37) ∧ Hid (BoxIs wx o2 x.arr 37) ∧ Hid (HoldsR wx ta 1 (ts.map fun (n : Nat) => [Value.int .i64 n])))
   case atStart => exact ⟨0, InfS.zero, rfl, by omega, rfl, HL8, HXz, HX8, HH8⟩
   case round =>
    clear HL8 HXz HX8 HH8
    obtain ⟨i, x, rfl, hig, hxd, HL, HXz, HXo, HH⟩ := hrel
    obtain ⟨S1, hs1, hfx1, hap1⟩ := HL.out
    have HS1 := Lib.hid (And.intro hs1 (And.intro hfx1 hap1))
    obtain ⟨A, dd, z, tt, sa, sn, sc, ix⟩ := x
    dsimp only at hxd
    subst hxd
    by_cases hlt : i < n
    case neg =>
     have hltz : ¬ (i : Int) < (n : Int) := by omega
     obtain ⟨⟨p0, p1, p2, p3, p4, p5, p6⟩, f0, f1, f2, f3, f4, f5, f6⟩ := info_room HXz.out
     obtain ⟨q0, q1, q2, q3, q4, q5, q6⟩ := info_cells HXo.out
     have hend := HEnd.out wr S1 (N + i) ⟨A, false, z, tt, sa, sn, sc, ix⟩ 0 hs1 (by omega) (by omega) hfx1 (hap1 rz (.inl rfl))
     unfold set7 at hend
     clear hs1 hfx1 hap1
     go_wp2_with fail
     try simp only [Exit.inBlock, Exit.then]
     refine bodyPost_ret (v := .tuple #[.agg (InfS.arr ⟨A, false, z, tt, sa, sn, sc, ix⟩), .int .i64 0]) ?_ rfl hend
     clear hend
     simp [results, Tryz.f222]
     go_simp
    case pos =>
     have hltz : (i : Int) < (n : Int) := by omega
     obtain ⟨g, rfl⟩ : ∃ g, gk = g + 1 := ⟨gk - 1, by omega⟩
     obtain ⟨m, hm⟩ : ∃ m, ts[i]? = some m := ⟨_, List.getElem?_eq_getElem (by rw [HTs.out.1]; exact hlt)⟩
     have hmm := List.mem_of_getElem? hm
     have hm2 := HTs.out.2.1 m hmm
     have hmf := HTs.out.2.2 m hmm
     obtain ⟨ag, off, hag, _, hac⟩ := HH.out.at (k := i) (row := [.int .i64 m]) (by rw [List.getElem?_map, hm]; rfl)
     have n0 := hac 0 _ rfl
     rw [show off + i * 1 + 0 = off + i by omega] at n0
     have HMf := Lib.hid (And.intro hm2 hmf)
     have hI1 := HI.out.stp hs1
     have HI1 := Lib.hid hI1
     have hc : wr.cell? ⟨u.b, 9, none⟩ = some (.slice (some ⟨u.lg, 0, none⟩) 2 u.lc) := hI1.u.box.cell (j := 9) rfl
     have hmc := hI1.u.mem hm2
     have HP1 := Lib.hid (HPu.out wr S1 (N + i) (bOf m) hI1 (by have := HNN.out; omega))
     unfold memI at hmc
     obtain ⟨mb, hmb⟩ : ∃ mb, (S1.M (bOf m)).b = mb := ⟨_, rfl⟩
     rw [hmb] at HP1 hmc
     have hm2z : (m : Int) < 2 := by omega
     clear hmm hm hac hmf hI1 hs1 hfx1 hap1 hmb
     have HTag := Lib.hid hag
     subst hag
     go_upto_region 24 with (go_at_call 6; refine HP1.out.mono ?_; rintro e w9 ⟨⟨A2, z2, t2, sa2, sn2, sc2, ix2, rfl⟩, S2, hs2, ho2'⟩; have H9 := Lib.hid (And.intro hs2 ho2'); clear hs2 ho2')
     have hlt2 : ∀ j, j = rz ∨ j = o2 ∨ rb (some ⟨ag, off, none⟩) j → j < wr.heap.size := fun j hj => by
      rcases hj with rfl | rfl | hj
      ·exact HXz.out.lt
      ·exact HXo.out.lt
      ·have := HTa.out.2 j hj
       have := HXo.out.lt
       omega
     have hap2 : ∀ j, j = rz ∨ j = o2 ∨ rb (some ⟨ag, off, none⟩) j → ¬ S2.all j := fun j hj => H9.out.1.apart (hlt2 j hj) (HS1.out.2.2 j hj)
     have hnf : ∀ j, j = rz ∨ j = o2 ∨ rb (some ⟨ag, off, none⟩) j → ¬ S1.foot j := fun j hj q => HS1.out.2.2 j hj (Two.foot_all q)
     have hb10 : Below w9.heap.size w9 (w9.alloc (.cells #[.string A2, .bool false, .int .i64 z2, .int .i64 t2, .slice sa2 sn2 sc2, .slice none 0 0, .string ix2] 37)) := bAlloc (Below.refl _ _) _
     have hx10 : BoxIs (w9.alloc (.cells #[.string A2, .bool false, .int .i64 z2, .int .i64 t2, .slice sa2 sn2 sc2, .slice none 0 0, .string ix2] 37)) w9.heap.size #[.string A2, .bool false, .int .i64 z2, .int .i64 t2, .slice sa2 sn2 sc2, .slice none 0 0, .string ix2] 37 := heap_alloc_new _ _
     have hstp : Stp w0.heap.size S S2 (N + i + 1) w (w9.alloc (.cells #[.string A2, .bool false, .int .i64 z2, .int .i64 t2, .slice sa2 sn2 sc2, .slice none 0 0, .string ix2] 37)) := (HS1.out.1.trans H9.out.1).over (Kp.of (F := fun _ => False) hb10) (fun _ e => e.elim) (fun _ e => e.elim)
     rw [show N + (i : Int) + 1 = N + ((i + 1 : Nat) : Int) by omega] at hstp
     have hfx2 : ∀ j, j < 2 → u.isFix j = true → S2.s (bOf j) = S.s (bOf j) := fun j hj hf => by
      rw [H9.out.2 _ (fun e => by
       have := bOf_inj hj HMf.out.1 e
       rw [this, HMf.out.2] at hf
       cases hf)]
      exact HS1.out.2.1 j hj hf
     have H10 := Lib.hid (And.intro hstp (And.intro hfx2 hap2))
     have HXz2 := Lib.hid ((HXz.out.kp H9.out.1.kp (hnf _ (.inl rfl))).under hb10)
     have HXo2 := Lib.hid ((HXo.out.kp H9.out.1.kp (hnf _ (.inr (.inl rfl)))).under hb10)
     have HH2 := Lib.hid ((HH.out.kp H9.out.1.kp (fun ad e => hnf _ (.inr (.inr ⟨ad, e, rfl⟩)))).under hb10)
     obtain ⟨d0, d1, d2, d3, d4, d5, d6⟩ := info_cells hx10
     obtain ⟨nx, hnx⟩ : ∃ nx, w9.heap.size = nx := ⟨_, rfl⟩
     rw [hnx] at d0 d1 d2 d3 d4 d5 d6 ⊢
     clear hb10 hx10 hstp hfx2 hap2 hnf hlt2 hnx n0 hc hmc HP1
     generalize w9.alloc _ = w10 at *
     by_cases hi0 : i = 0
     ·subst hi0
      obtain ⟨⟨p0, p1, p2, p3, p4, p5, p6⟩, f0, f1, f2, f3, f4, f5, f6⟩ := info_room HXo2.out
      go_wp2_with fail
      go_roundg g
      case measure => omega
      case rel =>
       have hk7 : Kp (fun j => j = o2) w10 (set7 w10 o2 A2 false z2 t2 (.slice sa2 sn2 sc2) ix2) := set7_kp (Kp.refl (fun j => j = o2) w10) (.inl rfl) _ _ _ _ _ _
       refine ⟨0 + 1, ⟨A2, false, z2, t2, sa2, sn2, sc2, ix2⟩, by go_num, by omega, rfl, Lib.hid ⟨S2, H10.out.1.over hk7 (fun j e => by rw [e, HZ.out]; omega) (fun j e => by rw [e]; exact H10.out.2.2 _ (.inr (.inl rfl))), H10.out.2.1, H10.out.2.2⟩, Lib.hid (HXz2.out.kp hk7 (fun e => by omega)), Lib.hid (BoxIs.put7 HXo2.out), Lib.hid (HH2.out.kp hk7 (fun ad e q => by have := HTa.out.2 _ ⟨ad, e, rfl⟩; omega))⟩
     ·have hi0z : ((i : Int) == 0) = false := by simp; omega
      go_wp2_with fail
      go_roundg g
      case measure => omega
      case rel => exact ⟨i + 1, ⟨A, false, z, tt, sa, sn, sc, ix⟩, by go_num, by omega, rfl, Lib.hid ⟨S2, H10.out.1, H10.out.2.1, H10.out.2.2⟩, HXz2, HXo2, HH2⟩
end
end Go.Proofs.YtchfhojighopkaaGreatDoor
namespace Go.Proofs.YtchfhojighopkaaGreatDoor
open Go.RowKit

section
variable {w0 w w' : World} {S : Two} {N : Int} {u : UB} {T : Tabs} {p : ByteArray}
theorem rem1_any (hE : Env w0) (h : InvU w0 S N u w) (b : Bool) (hp : p ∈ nm4) {n : Nd} (hn : (S.s b).F [p] = some n) {pb : Nat} (hb : BoxIs w pb #[.string p] 9) :
  Calls Tryz.prog 239 #[memI S b, ptr pb] w fun e w' => e = .returned (.int .i64 0) ∧ ∃ S', Stp w0.heap.size S S' N w w' ∧ ∀ c, c ≠ b → S'.s c = S.s c := by
 have HR := Lib.hid (remJ_any hE h b hp hn)
 have c0 := hb.cell (j := 0) rfl
 have hMR := memM_remove
 unfold memI
 obtain ⟨mb, hmb⟩ : ∃ mb, (S.M b).b = mb := ⟨_, rfl⟩
 rw [hmb] at HR ⊢
 clear hE h hn hb hmb hp
 go_enter Tryz.func239, Tryz.ntmps239
 go_wp2_with (go_at_call 162; refine HR.out.mono ?_; rintro e w2 ⟨rfl, h2⟩)
 go_ret
 exact ⟨rfl, h2⟩
/-- What a change leaves. -/
def ChgP (w0 : World) (S : Two) (N : Int) (u : UB) (w : World) (e : Ending) (w' : World) : Prop :=
 (∃ z : Int, e = .returned (.int .i64 z)) ∧ Moved w0 S N u w w'
set_option maxHeartbeats 16000000 in
set_option maxRecDepth 100000 in
theorem change_any (hG : Gr w0 T) (h : InvU w0 S N u w) (hp : p ∈ nm4) {pb : Nat} (hb : BoxIs w pb #[.string p] 9) (hpb : ¬ S.all pb) :
  Calls Tryz.prog 238 #[ptr u.b, .string p, .func (.func 239) #[] #[ptr pb]] w (ChgP w0 S N u w) := by
 have HFi := Lib.hid (file_any hG h hp)
 unfold FileP at HFi
 have HTg := Lib.hid (fun W r ns xs na nc ia ic (hI : InvU w0 S N u W) (q1 : SeenR W r ns xs na nc ia ic) q2 q3 q4 => targets_any hI.u q1 q2 q3 q4)
 unfold TargP at HTg
 have HRm := Lib.hid (fun W (S' : Two) b n (hI : InvU w0 S' N u W) (q : (S'.s b).F [p] = some n) (hb : BoxIs W pb #[.string p] 9) => rem1_any hG.env hI b hp q hb)
 have HI := Lib.hid h
 have HPb := Lib.hid (And.intro hb hpb)
 have HFo := Lib.hid (fun i (hf : S.all i) => h.lt (.inl hf))
 clear hG h hp hb hpb
 go_enter Tryz.func238, Tryz.ntmps238
 go_upto_region 2 with (go_at_call 228; refine HFi.out.mono ?_; rintro e w3 ⟨ns, xs, na, nc, ia, ic, z, rfl, hz3, hs3, hl3, hi3, hk3⟩)
 rcases hz3 with ⟨rfl, hne⟩ | ⟨rfl, hne⟩
 case inr =>
  have hb4 : Below w3.heap.size w3 (w3.alloc (.cells #[.slice na ns.length nc, .slice ia xs.length ic] 296)) := bAlloc (Below.refl _ _) _
  have HE := Lib.hid (Moved.none (hi3.fresh hb4))
  have HK := Lib.hid (hk3.trans (Kp.of hb4))
  clear hs3 hl3 hi3 hk3 hb4 hne
  go_wp2_with fail
  go_ret
  obtain ⟨S', N', q1, q2⟩ := HE.out
  exact ⟨⟨3, rfl⟩, S', N', q1.pre HK.out, q2⟩
 case inl =>
  have hb4 : Below w3.heap.size w3 (w3.alloc (.cells #[.slice na ns.length nc, .slice ia xs.length ic] 296)) := bAlloc (Below.refl _ _) _
  have hx4 : BoxIs (w3.alloc (.cells #[.slice na ns.length nc, .slice ia xs.length ic] 296)) w3.heap.size #[.slice na ns.length nc, .slice ia xs.length ic] 296 := heap_alloc_new _ _
  obtain ⟨ob, hob⟩ : ∃ ob, w3.heap.size = ob := ⟨_, rfl⟩
  have HX4 := Lib.hid hx4
  rw [hob] at HX4 ⊢
  have HI4 := Lib.hid (hi3.fresh hb4)
  have HS4 := Lib.hid (hs3.under hb4)
  have HL3 := Lib.hid hl3
  have HK4 : Hid (Kp S.foot w _) := Lib.hid (hk3.trans (Kp.of hb4))
  have HPb4 := Lib.hid ((HPb.out.1.kp hk3 (fun q => HPb.out.2 (Two.foot_all q))).under hb4)
  have hsz0 : w.heap.size ≤ w3.heap.size := hk3.size
  have hsz : w.heap.size ≤ (w3.alloc (.cells #[.slice na ns.length nc, .slice ia xs.length ic] 296)).heap.size := Nat.le_trans hsz0 hb4.size
  have HSz := Lib.hid hsz
  clear hb4 hx4 hs3 hl3 hi3 hk3 hob hsz hsz0 hne
  generalize w3.alloc _ = w4 at *
  obtain ⟨k, hk⟩ : ∃ k, ns.length = k := ⟨_, rfl⟩
  have hkx : xs.length = k := by rw [← HS4.out.len]; exact hk
  have hk2 : k ≤ 2 := by rw [← hk, HL3.out.1]; exact hasN_le S p 2
  have HKn := Lib.hid (And.intro hk hkx)
  have HT4 := Lib.hid (HTg.out w4 w.heap.size ns xs na nc ia ic HI4.out HS4.out HL3.out.2 (by omega) (fun m hm => (hasN_at (by rw [← HL3.out.1]; exact hm)).1))
  rw [hk, hkx] at HT4 HX4
  have s0 := HX4.out.cell (j := 0) rfl
  have s1 := HX4.out.cell (j := 1) rfl
  clear HTg hk hkx
  go_upto_region 5 with (go_at_call 237; refine HT4.out.mono ?_; rintro e w7 ⟨⟨v7, z7, rfl, hv7⟩, hb7⟩)
  have HI7 := Lib.hid (HI4.out.fresh hb7)
  have HK7 : Hid (Kp S.foot w w7) := Lib.hid (HK4.out.trans (Kp.of hb7))
  have HPb7 := Lib.hid (HPb4.out.under hb7)
  clear s0 s1 HT4 HPb4 HI4 HK4 HX4 hb7
  rcases hv7 with ⟨rfl, rfl⟩ | ⟨rfl, ts, ta, tc, rfl, hr7, hsub, hfx⟩
  ·go_wp2_with fail
   go_ret
   exact ⟨⟨15, rfl⟩, S, N, (Stp.refl HI7.out.j).pre HK7.out, Int.le_refl _, by omega, fun _ _ _ => rfl⟩
  ·obtain ⟨n, hn⟩ : ∃ n, ts.length = n := ⟨_, rfl⟩
   have hn2 : n ≤ 2 := by rw [← hn]; have := hsub.length_le; have := HKn.out.1; omega
   have hta : ∀ j, rb ta j → w.heap.size ≤ j ∧ j < w7.heap.size := fun j hj => ⟨Nat.le_trans HSz.out (hr7.base j hj).1, (hr7.base j hj).2⟩
   have HTs := Lib.hid (And.intro hn (And.intro (fun m hm => hasN_at (by rw [← HL3.out.1]; exact hsub.subset hm) : ∀ m ∈ ts, m < 2 ∧ ∃ q, (S.s (bOf m)).F [p] = some q) (And.intro hfx (hsub.nodup (by rw [HL3.out.1]; exact hasN_nodup S p 2)))))
   have HH7 := Lib.hid (hr7.holds (by decide))
   have HTa := Lib.hid hta
   have HL7 : Hid (∃ S', Stp w0.heap.size S S' N w w7 ∧ (∀ j, j < 2 → u.isFix j = true → S'.s (bOf j) = S.s (bOf j)) ∧ (∀ j, j = pb ∨ rb ta j → ¬ S'.all j) ∧ ∀ m ∈ ts.drop 0, S'.s (bOf m) = S.s (bOf m)) := Lib.hid ⟨S, (Stp.refl HI7.out.j).pre HK7.out, fun _ _ _ => rfl, fun j hj q => by
    rcases hj with rfl | hj
    ·exact HPb.out.2 q
    ·have := HFo.out j q
     have := (hta j hj).1
     omega, fun _ _ => rfl⟩
   clear hr7 hsub hfx hta HS4 HL3 HKn hk2
   rw [hn]
   clear hn
   go_upto_region 8 with fail
   go_loopg [33] n (fun gk s33 wx => ∃ (i : Nat), s33 = .int .i64 i ∧ i + gk = n ∧ Hid (w7.heap.size ≤ wx.heap.size ∧ ∃ S', Stp w0.heap.size S S' N w wx ∧ (∀ j, j < 2 → u.isFix j = true → S'.s (bOf j) = S.s (bOf j)) ∧ (∀ j, j = pb ∨ rb ta j → ¬ S'.all j) ∧ ∀ m ∈ ts.drop i, S'.s (bOf m) = S.s (bOf m)) ∧ Hid (BoxIs wx pb #[.string p] 9) ∧ Hid (HoldsR wx ta 1 (ts.map fun (n : Nat) => [Value.int .i64 n])))
   case atStart => exact ⟨0, rfl, by omega, Lib.hid ⟨Nat.le_refl _, HL7.out⟩, HPb7, HH7⟩
   case round =>
    clear HL7 HPb7 HH7
    obtain ⟨i, rfl, hig, HL, HPx, HH⟩ := hrel
    by_cases hlt : i < n
    case neg =>
     have hltz : ¬ (i : Int) < (n : Int) := by omega
     go_wp2_with fail
     go_ret
     obtain ⟨_, S1, hs1, hfx1, _⟩ := HL.out
     exact ⟨⟨0, rfl⟩, S1, N, hs1, Int.le_refl _, by omega, hfx1⟩
    case pos =>
     obtain ⟨hsz1, S1, hs1, hfx1, hap1, hdr1⟩ := HL.out
     have HS1 := Lib.hid (And.intro hs1 (And.intro hfx1 (And.intro hap1 hdr1)))
     have hltz : (i : Int) < (n : Int) := by omega
     obtain ⟨g, rfl⟩ : ∃ g, gk = g + 1 := ⟨gk - 1, by omega⟩
     have hit : i < ts.length := by rw [HTs.out.1]; exact hlt
     obtain ⟨m, hm⟩ : ∃ m, ts[i]? = some m := ⟨_, List.getElem?_eq_getElem hit⟩
     have hmm := List.mem_of_getElem? hm
     have hm2 := (HTs.out.2.1 m hmm).1
     have hmf := HTs.out.2.2.1 m hmm
     have hdrop : ts.drop i = m :: ts.drop (i + 1) := by
      rw [List.drop_eq_getElem_cons hit]
      congr 1
      rw [List.getElem?_eq_getElem hit] at hm
      injection hm
     have hnd := HTs.out.2.2.2.sublist (List.drop_sublist i ts)
     rw [hdrop] at hnd
     have hS1m : S1.s (bOf m) = S.s (bOf m) := hdr1 m (by rw [hdrop]; simp)
     obtain ⟨q, hq⟩ := (HTs.out.2.1 m hmm).2
     obtain ⟨ag, off, hag, _, hac⟩ := HH.out.at (k := i) (row := [.int .i64 m]) (by rw [List.getElem?_map, hm]; rfl)
     have n0 := hac 0 _ rfl
     rw [show off + i * 1 + 0 = off + i by omega] at n0
     have HMf := Lib.hid (And.intro hm2 (And.intro hmf (And.intro hdrop (List.nodup_cons.1 hnd).1)))
     have hI1 := HI.out.stp hs1
     have hc : wr.cell? ⟨u.b, 9, none⟩ = some (.slice (some ⟨u.lg, 0, none⟩) 2 u.lc) := hI1.u.box.cell (j := 9) rfl
     have hmc := hI1.u.mem hm2
     have HR1 := Lib.hid (HRm.out wr S1 (bOf m) q hI1 (by rw [hS1m]; exact hq) HPx.out)
     have hm2z : (m : Int) < 2 := by omega
     have HSz1 := Lib.hid hsz1
     clear hmm hm hac hmf hI1 hs1 hfx1 hap1 hdr1 hnd hdrop hit hS1m hq hsz1
     subst hag
     obtain ⟨mv, hmv⟩ : ∃ mv, memI S1 (bOf m) = mv := ⟨_, rfl⟩
     rw [hmv] at HR1 hmc
     clear hmv
     go_wp2_with (go_at_call 239; refine HR1.out.mono ?_; rintro e w9 ⟨rfl, S2, hs2, ho2⟩; have H9 := Lib.hid (And.intro hs2 ho2); clear hs2 ho2)
     go_roundg g
     case measure => omega
     case rel =>
      have hlt2 : ∀ j, j = pb ∨ rb (some ⟨ag, off, none⟩) j → j < wr.heap.size := fun j hj => by
       rcases hj with rfl | hj
       ·exact HPx.out.lt
       ·have := (HTa.out j hj).2
        have := HSz1.out
        omega
      have hnf : ∀ j, j = pb ∨ rb (some ⟨ag, off, none⟩) j → ¬ S1.foot j := fun j hj q => HS1.out.2.2.1 j hj (Two.foot_all q)
      refine ⟨i + 1, by go_num, by omega, Lib.hid ⟨Nat.le_trans HSz1.out H9.out.1.kp.size, S2, HS1.out.1.trans H9.out.1, fun j hj hf => ?_, fun j hj => H9.out.1.apart (hlt2 j hj) (HS1.out.2.2.1 j hj), fun m' hm' => ?_⟩, Lib.hid (HPx.out.kp H9.out.1.kp (hnf _ (.inl rfl))), Lib.hid (HH.out.kp H9.out.1.kp (fun ad e => hnf _ (.inr ⟨ad, e, rfl⟩)))⟩
      ·rw [H9.out.2 _ (fun e => by
        have := bOf_inj hj HMf.out.1 e
        rw [this, HMf.out.2.1] at hf
        cases hf)]
       exact HS1.out.2.1 j hj hf
      ·have h1 : m' ∈ ts := List.mem_of_mem_drop hm'
       rw [H9.out.2 _ (fun e => by
        have := bOf_inj (HTs.out.2.1 m' h1).1 HMf.out.1 e
        rw [this] at hm'
        exact HMf.out.2.2.2 hm')]
       exact HS1.out.2.2.2 m' (by rw [HMf.out.2.2.1]; simp [hm'])
set_option maxHeartbeats 2000000 in
theorem removeU_any (hG : Gr w0 T) (h : InvU w0 S N u w) (hp : p ∈ nm4) :
  Calls Tryz.prog 223 #[ptr u.b, .string p] w (ChgP w0 S N u w) := by
 have hx1 : BoxIs (w.alloc (.cells #[.string p] 9)) w.heap.size #[.string p] 9 := heap_alloc_new _ _
 have hb1 : Below w.heap.size w (w.alloc (.cells #[.string p] 9)) := bAlloc (Below.refl _ _) _
 have c0 := hx1.cell (j := 0) rfl
 have HCh := Lib.hid (change_any hG (h.fresh hb1) hp hx1 (fun q => by have := h.lt (.inl q); omega))
 unfold ChgP at HCh
 have HB := Lib.hid hb1
 clear hG h hp hx1 hb1
 obtain ⟨pb, hpb⟩ : ∃ pb, w.heap.size = pb := ⟨_, rfl⟩
 rw [hpb] at c0 HCh
 go_enter Tryz.func223, Tryz.ntmps223
 go_upto_region 1 with fail
 try rw [hpb]
 clear hpb
 generalize w.alloc _ = w1 at *
 go_wp2_with (go_at_call 238; refine HCh.out.mono ?_; rintro e w2 ⟨⟨z, rfl⟩, hm⟩)
 go_ret
 obtain ⟨S', N', q1, q2⟩ := hm
 exact ⟨⟨z, rfl⟩, S', N', q1.pre (Kp.of HB.out), q2⟩
end
end Go.Proofs.YtchfhojighopkaaGreatDoor
namespace Go.Proofs.YtchfhojighopkaaGreatDoor
open Go.RowKit

abbrev specArr (cr ch se : Int) (fa : Option Addr) (k fc : Nat) : Array Value := #[.int .i64 cr, .int .i64 ch, .int .i64 se, .slice fa k fc]
abbrev memsArr (S : Two) : Array Value := #[ptr (S.M false).b, ptr (S.M true).b]
/-- The two stores, the specification, the members' row. -/
structure TopS (w0 : World) (S : Two) (N : Int) (X : Array Value) (xb mg : Nat) (W : World) : Prop where
 j : J W w0.heap.size S N
 bel : Below w0.heap.size w0 W
 bx : BoxIs W xb X 24
 bm : BoxIs W mg (memsArr S) 28
 ap : ¬ S.all xb ∧ ¬ S.all mg
 lo : w0.heap.size ≤ xb ∧ w0.heap.size ≤ mg
section
variable {w0 w w' : World} {S S' : Two} {N N' : Int} {X : Array Value} {xb mg : Nat} {B : Nat}
theorem TopS.below (h : TopS w0 S N X xb mg w) (hb : Below w.heap.size w w') : TopS w0 S N X xb mg w' :=
 ⟨h.j.below hb, h.bel.trans (Below.mono hb h.bel.size), h.bx.under hb, h.bm.under hb, h.ap, h.lo⟩
theorem TopS.stp (h : TopS w0 S N X xb mg w) (hs : Stp w0.heap.size S S' N' w w') : TopS w0 S' N' X xb mg w' := by
 refine ⟨hs.j, h.bel.trans (hs.kp.below (fun i hi => h.j.lo hi) h.bel.size), h.bx.kp hs.kp (fun q => h.ap.1 (Two.foot_all q)), ?_, ⟨hs.apart h.bx.lt h.ap.1, hs.apart h.bm.lt h.ap.2⟩, h.lo⟩
 have := h.bm.kp hs.kp (fun q => h.ap.2 (Two.foot_all q))
 unfold memsArr at this ⊢
 rw [hs.M]
 exact this
theorem TopS.asked (h : TopS w0 S N X xb mg w) {L : Nat} (hj : InvJ w0 S N L w') (hk : Kp S.foot w w') : TopS w0 S N X xb mg w' :=
 ⟨hj.1, hj.2.1, h.bx.kp hk (fun q => h.ap.1 (Two.foot_all q)), h.bm.kp hk (fun q => h.ap.2 (Two.foot_all q)), h.ap, h.lo⟩
/-- Put into a member: no union is there yet. -/
theorem putT_J {T : Tabs} {p d : ByteArray} {t : Int} (hG : Gr w0 T) (h : TopS w0 S N X xb mg w) (hN : N ≤ 1000) (b : Bool) (hp : p ∈ nm4) (hd : d.size ≤ 1000) (ht : -9223372036854775808 ≤ t ∧ t ≤ 9223372036854775807) :
  Calls Tryz.prog 6 #[ptr (S.M b).b, .string p, .string d, .int .i64 t, .slice none 0 0] w fun e w' => (∃ v, e = .returned v) ∧ ∃ S', Stp w0.heap.size S S' (N + 1) w w' := by
 refine (putF_any w0 w T (S.M b) (S.s b) N p d t hG h.bel (h.j.mem b) (h.j.flat b) hN hp hd ht).mono ?_
 rintro e w' ⟨s', A, z, t', sa, sn, sc, ix, rfl, h1, h2, h3, h4⟩
 exact ⟨⟨_, rfl⟩, S.set b s', h.j.step b h1 h2 (by omega) h3 h4⟩
theorem TopS.mem (h : TopS w0 S N X xb mg w) {i : Nat} (hi : i < 2) : w.cell? ⟨mg, i, none⟩ = some (ptr (S.M (bOf i)).b) := by
 match i, hi with
 | 0, _ => exact h.bm.cell (j := 0) rfl
 | 1, _ => exact h.bm.cell (j := 1) rfl
end
end Go.Proofs.YtchfhojighopkaaGreatDoor
