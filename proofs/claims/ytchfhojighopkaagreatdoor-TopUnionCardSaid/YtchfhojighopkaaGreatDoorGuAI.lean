/-
  Parts of the proof: Sw5.
-/
import Derived.Test.YtchfhojighopkaaGreatDoorGuAH
namespace Wh.Sha
/-- Four bytes as a word, the lowest first. -/
def wordL (p : List UInt8) (i : Nat) : W := w8 (p.getD (4 * i) 0) ||| w8 (p.getD (4 * i + 1) 0) <<< 8 ||| w8 (p.getD (4 * i + 2) 0) <<< 16 ||| w8 (p.getD (4 * i + 3) 0) <<< 24
/-- The state: four words. -/
structure S4 where
 a : W
 b : W
 c : W
 d : W
def S4.list (v : S4) : List W := [v.a, v.b, v.c, v.d]
def f5 (i : Nat) (b c d : W) : W := if i / 16 = 0 then b &&& c ||| ~~~b &&& d else if i / 16 = 1 then d &&& b ||| ~~~d &&& c else if i / 16 = 2 then b ^^^ c ^^^ d else c ^^^ (b ||| ~~~d)
def k5 (i : Nat) : Nat := if i / 16 = 0 then i else if i / 16 = 1 then (5 * i + 1) % 16 else if i / 16 = 2 then (3 * i + 5) % 16 else 7 * i % 16
/-- What a word becomes by a turn of any number of bits. -/
def rotI (k : Int) (x : W) : W := let s := ((BitVec.ofInt 64 k) &&& 31#64).toNat; x <<< s ||| x >>> (32 - s)
def S4.step (tk : W) (tn : Int) (X : Nat → W) (i : Nat) (v : S4) : S4 := ⟨v.d, v.b + rotI tn (f5 i v.b v.c v.d + (v.a + tk + X (k5 i))), v.b, v.c⟩
def S4.add (u v : S4) : S4 := ⟨u.a + v.a, u.b + v.b, u.c + v.c, u.d + v.d⟩
def rounds5 (tb : List W) (tn : List Int) (X : Nat → W) : Nat → S4 → S4
 | 0, v => v
 | n + 1, v => (rounds5 tb tn X n v).step (tb.getD n 0) (tn.getD (4 * (n / 16) + n % 4) 0) X n
def comp5 (tb : List W) (tn : List Int) (h : S4) (p : List UInt8) : S4 := h.add (rounds5 tb tn (wordL p) 64 h)
end Wh.Sha
namespace Go.Proofs.YtchfhojighopkaaGreatDoor
open Go.RowKit Wh.Sha

theorem n_noti (a : W) : bits BinOp.xor IntKind.u32 (if IntKind.u32.signed = true then -1 else IntKind.u32.max) (a.toNat : Int) = ((nW a).toNat : Int) := w_not a

set_option maxHeartbeats 8000000 in
set_option maxRecDepth 100000 in
theorem md5_piece (b o ge : Nat) (p : List UInt8) (st : S4) (tb : List W) (tn : List Int) (w : World) (hp : p.length = 64) (hB : BytesAt w b o p) (hE : WordsAt w ge st.list 237) (_hbg : b ≠ ge)
  (hT : WordsAt w 6 tb 330) (htl : tb.length = 64) (_hge : ge ≠ 6)
  (hU : BoxIs w 7 (tn.map (Value.int .i64)).toArray 332) (hul : tn.length = 16) (_hge2 : ge ≠ 7) :
  Calls Tryz.prog 269 #[.pointer (some ⟨ge, 0, none⟩), .pointer (some ⟨b, o, none⟩)] w fun e w' => e = .returned (.tuple #[]) ∧ WordsAt w' ge (comp5 tb tn st p).list 237 ∧ Kp (· = ge) w w' := by
 have HB := Lib.hid hB
 have HE := Lib.hid hE
 have HP := Lib.hid hp
 have HT := Lib.hid hT
 have HTL := Lib.hid htl
 have HU := Lib.hid hU
 have HUL := Lib.hid hul
 have hge0 := hE.lt
 have hbl := hB.1
 clear hB hE hp hT htl hU hul
 go_enter Tryz.func269, Tryz.ntmps269
 go_upto_region 1 with fail
 have HW1 : Hid (WordsAt (w.alloc (.cells ((List.replicate 16 (0 : W)).map vw).toArray 329)) w.heap.size (grown (wordL p) 0 16) 329) := Lib.hid (by
  unfold WordsAt BoxIs
  exact heap_alloc_new _ _)
 have HK1 : Hid (Kp (fun _ => False) w (w.alloc (.cells ((List.replicate 16 (0 : W)).map vw).toArray 329))) := Lib.hid (Kp.of (bAlloc (Below.refl _ _) _))
 have hz1 : w.heap.size < (w.alloc (.cells ((List.replicate 16 (0 : W)).map vw).toArray 329)).heap.size := HW1.out.lt
 obtain ⟨g, hg⟩ : ∃ g, g = w.heap.size := ⟨_, rfl⟩
 rw [← hg] at HW1 hz1 ⊢
 change Code.wp _ _ _ _ (w.alloc (.cells ((List.replicate 16 (0 : W)).map vw).toArray 329))
 generalize w.alloc _ = w1 at *
 have hgge : g ≠ ge := by omega
 have hgb : b ≠ g := by omega
 have HG := Lib.hid hg
 clear hg
 go_upto_region 2 with fail
 go_loopg [13] 16 (fun gk s13 wx => ∃ k : Nat, k + gk = 16 ∧ s13 = .int .i64 k ∧ Hid (WordsAt wx g (grown (wordL p) k 16) 329) ∧ Hid (Kp (fun _ => False) w wx))
 case atStart => exact ⟨0, by omega, rfl, HW1, HK1⟩
 case round =>
  clear HW1 HK1
  obtain ⟨k, hk, rfl, HW, HK⟩ := hrel
  by_cases hlt : k < 16
  ·obtain ⟨gk2, rfl⟩ : ∃ gk2, gk = gk2 + 1 := ⟨gk - 1, by omega⟩
   have HB2 := Lib.hid (HB.out.kp HK.out (fun e => e))
   obtain ⟨k0, hk0⟩ : ∃ k0, k0 = 4 * k := ⟨_, rfl⟩
   obtain ⟨k1, hk1⟩ : ∃ k1, k1 = 4 * k + 1 := ⟨_, rfl⟩
   obtain ⟨k2, hk2⟩ : ∃ k2, k2 = 4 * k + 2 := ⟨_, rfl⟩
   obtain ⟨k3, hk3⟩ : ∃ k3, k3 = 4 * k + 3 := ⟨_, rfl⟩
   have c0 := HB2.out.2 k0 (by have := HP.out; omega)
   have c1 := HB2.out.2 k1 (by have := HP.out; omega)
   have c2 := HB2.out.2 k2 (by have := HP.out; omega)
   have c3 := HB2.out.2 k3 (by have := HP.out; omega)
   generalize hq0 : p.getD k0 0 = q0 at *
   generalize hq1 : p.getD k1 0 = q1 at *
   generalize hq2 : p.getD k2 0 = q2 at *
   generalize hq3 : p.getD k3 0 = q3 at *
   have HQ : wordL p k = oW (oW (oW (w8 q0) (lW 8 (w8 q1))) (lW 16 (w8 q2))) (lW 24 (w8 q3)) := by rw [← hq0, ← hq1, ← hq2, ← hq3, hk0, hk1, hk2, hk3]; rfl
   clear hq0 hq1 hq2 hq3
   have e0 : IntKind.i64.wrap (4 * (k : Int)) = (k0 : Int) := by rw [IntWalk.i64_in _ (by omega)]; omega
   have e1 : IntKind.i64.wrap ((k0 : Int) + 1) = (k1 : Int) := by rw [IntWalk.i64_in _ (by omega)]; omega
   have e2 : IntKind.i64.wrap ((k0 : Int) + 2) = (k2 : Int) := by rw [IntWalk.i64_in _ (by omega)]; omega
   have e3 : IntKind.i64.wrap ((k0 : Int) + 3) = (k3 : Int) := by rw [IntWalk.i64_in _ (by omega)]; omega
   have u0 : (k0 : Int) < 64 := by omega
   have u1 : (k1 : Int) < 64 := by omega
   have u2 : (k2 : Int) < 64 := by omega
   have u3 : (k3 : Int) < 64 := by omega
   have ui : (k : Int) < 16 := by omega
   obtain ⟨z0, fc⟩ : ∃ z, wr.cell? ⟨g, k, none⟩ = some z := ⟨_, HW.out.cell (by rw [grown_len _ (by omega)]; omega)⟩
   have fz := Lib.frozen_of_heap HW.out k
   have HW2 : Hid (WordsAt (wr.setCell ⟨g, k, none⟩ (vw (oW (oW (oW (w8 q0) (lW 8 (w8 q1))) (lW 16 (w8 q2))) (lW 24 (w8 q3))))).drew g (grown (wordL p) (k + 1) 16) 329) := Lib.hid (by
    rw [← HQ, ← grown_next _ hlt]
    exact WordsAt.set HW.out k _)
   have HK2 : Hid (Kp (fun _ => False) w (wr.setCell ⟨g, k, none⟩ (vw (oW (oW (oW (w8 q0) (lW 8 (w8 q1))) (lW 16 (w8 q2))) (lW 24 (w8 q3))))).drew) := Lib.hid ((HK.out.set (.inr (by rw [HG.out]; exact Nat.le_refl _)) k _).drew 1)
   clear hk0 hk1 hk2 hk3 HQ HW HK HB2
   go_upto_region 4 with fail
   generalize hw3 : wr = w3 at *
   --R0
   refine wp_region_seq3 (fun W => W = w3.drew) 39 [(0, true), (1, true), (2, true), (3, true), (4, true), (5, true), (6, true), (7, true), (8, true), (9, true), (10, true), (11, true), (12, true), (13, true), (14, true), (15, true), (16, true), (17, true), (18, true), (19, true), (20, true), (21, true), (22, true), (23, true), (24, true), (25, true), (26, true), (27, true), (28, true), (29, true), (30, true), (31, true), (32, true), (33, true), (34, true), (35, true), (36, true), (37, true), (38, true), (39, false)] (by as_aux_lemma => kernel_rfl) (by as_aux_lemma => kernel_rfl) (by as_aux_lemma => kernel_rfl) (by decide) (by as_aux_lemma => kernel_rfl) (by decide) rfl ?_
   intro OPS HO
   iterate 7
    refine seqT_take (o := ⟨_, _, _, _, _, _⟩) (v := ?_) (by rw [HO.out]; rfl) (by rfl) ?_ ?_
    rotate_left 1
    ·first | ((intro W _; go_simp) <;> with_reducible rfl) | (intro W hW; subst hW; (go_simp <;> with_reducible rfl))
    try simp only [Act.put, List.setIfInBounds_toArray, List.set_cons_zero, List.set_cons_succ]
    try simp only [n_l24, n_l16, n_l8, n_l24w, n_l16w, n_l8w, n_or, w_cv]
   refine seqT_take (o := ⟨_, _, _, _, _, _⟩) (v := ?_) (by rw [HO.out]; rfl) (by rfl) ?_ ?_
   rotate_left 1
   ·first | ((intro W _; go_simp) <;> with_reducible rfl) | (intro W hW; subst hW; (go_simp <;> with_reducible rfl))
   try simp only [Act.put, List.setIfInBounds_toArray, List.set_cons_zero, List.set_cons_succ]
   try simp only [w_cv]
   iterate 7
    refine seqT_take (o := ⟨_, _, _, _, _, _⟩) (v := ?_) (by rw [HO.out]; rfl) (by rfl) ?_ ?_
    rotate_left 1
    ·first | ((intro W _; go_simp) <;> with_reducible rfl) | (intro W hW; subst hW; (go_simp <;> with_reducible rfl))
    try simp only [Act.put, List.setIfInBounds_toArray, List.set_cons_zero, List.set_cons_succ]
    try simp only [n_l24, n_l16, n_l8, n_l24w, n_l16w, n_l8w, n_or, w_cv]
   refine seqT_take (o := ⟨_, _, _, _, _, _⟩) (v := ?_) (by rw [HO.out]; rfl) (by rfl) ?_ ?_
   rotate_left 1
   ·first | ((intro W _; go_simp) <;> with_reducible rfl) | (intro W hW; subst hW; (go_simp <;> with_reducible rfl))
   try simp only [Act.put, List.setIfInBounds_toArray, List.set_cons_zero, List.set_cons_succ]
   try simp only [w_cv]
   refine seqT_take (o := ⟨_, _, _, _, _, _⟩) (v := ?_) (by rw [HO.out]; rfl) (by rfl) ?_ ?_
   rotate_left 1
   ·first | ((intro W _; go_simp) <;> with_reducible rfl) | (intro W hW; subst hW; (go_simp <;> with_reducible rfl))
   try simp only [Act.put, List.setIfInBounds_toArray, List.set_cons_zero, List.set_cons_succ]
   try simp only [n_l8w]
   refine seqT_take (o := ⟨_, _, _, _, _, _⟩) (v := ?_) (by rw [HO.out]; rfl) (by rfl) ?_ ?_
   rotate_left 1
   ·first | ((intro W _; go_simp) <;> with_reducible rfl) | (intro W hW; subst hW; (go_simp <;> with_reducible rfl))
   try simp only [Act.put, List.setIfInBounds_toArray, List.set_cons_zero, List.set_cons_succ]
   try simp only [n_or]
   iterate 7
    refine seqT_take (o := ⟨_, _, _, _, _, _⟩) (v := ?_) (by rw [HO.out]; rfl) (by rfl) ?_ ?_
    rotate_left 1
    ·first | ((intro W _; go_simp) <;> with_reducible rfl) | (intro W hW; subst hW; (go_simp <;> with_reducible rfl))
    try simp only [Act.put, List.setIfInBounds_toArray, List.set_cons_zero, List.set_cons_succ]
    try simp only [n_l24, n_l16, n_l8, n_l24w, n_l16w, n_l8w, n_or, w_cv]
   refine seqT_take (o := ⟨_, _, _, _, _, _⟩) (v := ?_) (by rw [HO.out]; rfl) (by rfl) ?_ ?_
   rotate_left 1
   ·first | ((intro W _; go_simp) <;> with_reducible rfl) | (intro W hW; subst hW; (go_simp <;> with_reducible rfl))
   try simp only [Act.put, List.setIfInBounds_toArray, List.set_cons_zero, List.set_cons_succ]
   try simp only [w_cv]
   refine seqT_take (o := ⟨_, _, _, _, _, _⟩) (v := ?_) (by rw [HO.out]; rfl) (by rfl) ?_ ?_
   rotate_left 1
   ·first | ((intro W _; go_simp) <;> with_reducible rfl) | (intro W hW; subst hW; (go_simp <;> with_reducible rfl))
   try simp only [Act.put, List.setIfInBounds_toArray, List.set_cons_zero, List.set_cons_succ]
   try simp only [n_l16w]
   refine seqT_take (o := ⟨_, _, _, _, _, _⟩) (v := ?_) (by rw [HO.out]; rfl) (by rfl) ?_ ?_
   rotate_left 1
   ·first | ((intro W _; go_simp) <;> with_reducible rfl) | (intro W hW; subst hW; (go_simp <;> with_reducible rfl))
   try simp only [Act.put, List.setIfInBounds_toArray, List.set_cons_zero, List.set_cons_succ]
   try simp only [n_or]
   iterate 7
    refine seqT_take (o := ⟨_, _, _, _, _, _⟩) (v := ?_) (by rw [HO.out]; rfl) (by rfl) ?_ ?_
    rotate_left 1
    ·first | ((intro W _; go_simp) <;> with_reducible rfl) | (intro W hW; subst hW; (go_simp <;> with_reducible rfl))
    try simp only [Act.put, List.setIfInBounds_toArray, List.set_cons_zero, List.set_cons_succ]
    try simp only [n_l24, n_l16, n_l8, n_l24w, n_l16w, n_l8w, n_or, w_cv]
   refine seqT_take (o := ⟨_, _, _, _, _, _⟩) (v := ?_) (by rw [HO.out]; rfl) (by rfl) ?_ ?_
   rotate_left 1
   ·first | ((intro W _; go_simp) <;> with_reducible rfl) | (intro W hW; subst hW; (go_simp <;> with_reducible rfl))
   try simp only [Act.put, List.setIfInBounds_toArray, List.set_cons_zero, List.set_cons_succ]
   try simp only [w_cv]
   refine seqT_take (o := ⟨_, _, _, _, _, _⟩) (v := ?_) (by rw [HO.out]; rfl) (by rfl) ?_ ?_
   rotate_left 1
   ·first | ((intro W _; go_simp) <;> with_reducible rfl) | (intro W hW; subst hW; (go_simp <;> with_reducible rfl))
   try simp only [Act.put, List.setIfInBounds_toArray, List.set_cons_zero, List.set_cons_succ]
   try simp only [n_l24w]
   refine seqT_take (o := ⟨_, _, _, _, _, _⟩) (v := ?_) (by rw [HO.out]; rfl) (by rfl) ?_ ?_
   rotate_left 1
   ·first | ((intro W _; go_simp) <;> with_reducible rfl) | (intro W hW; subst hW; (go_simp <;> with_reducible rfl))
   try simp only [Act.put, List.setIfInBounds_toArray, List.set_cons_zero, List.set_cons_succ]
   try simp only [n_or]
   refine seqT_take (o := ⟨_, _, _, _, _, _⟩) (v := ?_) (by rw [HO.out]; rfl) (by rfl) ?_ ?_
   rotate_left 1
   ·first | ((intro W _; go_simp) <;> with_reducible rfl) | (intro W hW; subst hW; (go_simp <;> with_reducible rfl))
   try simp only [Act.put, List.setIfInBounds_toArray, List.set_cons_zero, List.set_cons_succ]
   try simp only [n_l24, n_l16, n_l8, n_l24w, n_l16w, n_l8w, n_or, w_cv]
   refine seqT_do (o := ⟨_, _, _, _, _, _⟩) (by rw [HO.out]; rfl) (by rfl) (fun K hK => ?_)
   go_wp2_with fail
   refine hK.out _ _ (fun h => absurd rfl h) ?_
   clear hK K
   try simp only [Act.put, List.setIfInBounds_toArray, List.set_cons_zero, List.set_cons_succ]
   refine seqT_done ?_
   --END0
   generalize (w3.setCell _ _).drew = w4 at *
   go_wp2_with fail
   go_roundg gk2
   case measure => omega
   case rel => exact ⟨k + 1, by omega, rfl, HW2, HK2⟩
  ·obtain rfl : k = 16 := by omega
   clear hk hlt
   have HE2 := Lib.hid (HE.out.kp HK.out (fun e => e))
   have c0 : wr.cell? ⟨ge, 0, none⟩ = some (vw st.a) := HE2.out.cell (i := 0) (show 0 < 4 by decide)
   have c1 : wr.cell? ⟨ge, 1, none⟩ = some (vw st.b) := HE2.out.cell (i := 1) (show 1 < 4 by decide)
   have c2 : wr.cell? ⟨ge, 2, none⟩ = some (vw st.c) := HE2.out.cell (i := 2) (show 2 < 4 by decide)
   have c3 : wr.cell? ⟨ge, 3, none⟩ = some (vw st.d) := HE2.out.cell (i := 3) (show 3 < 4 by decide)
   go_upto_region 6 with fail
   go_quiet (fail)
   have HW5 : Hid (WordsAt (wr.drewN nq) g (grown (wordL p) 16 16) 329) := Lib.hid HW.out
   have HK5 : Hid (Kp (fun _ => False) w (wr.drewN nq)) := Lib.hid (HK.out.drew nq)
   clear c0 c1 c2 c3 HW HE2 HK
   generalize wr.drewN nq = w5 at *
   go_upto_region 8 with fail
   go_loopg [76, 6, 7, 8, 9] 64 (fun gk s76 s6 s7 s8 s9 wx => ∃ (i : Nat) (v : S4), i + gk = 64 ∧ s76 = .int .i64 i ∧ s6 = vw v.a ∧ s7 = vw v.b ∧ s8 = vw v.c ∧ s9 = vw v.d ∧ Hid (v = rounds5 tb tn (wordL p) i st) ∧ Hid (Kp (fun _ => False) w5 wx))
   case atStart => exact ⟨0, st, by omega, rfl, rfl, rfl, rfl, rfl, Lib.hid rfl, Lib.hid (Kp.refl _ _)⟩
   case round =>
    obtain ⟨i, v, hi, rfl, rfl, rfl, rfl, rfl, HV, HKr⟩ := hrel
    by_cases hlt : i < 64
    ·obtain ⟨gk2, rfl⟩ : ∃ gk2, gk = gk2 + 1 := ⟨gk - 1, by omega⟩
     have ui : (i : Int) < 64 := by omega
     obtain ⟨tk, htk⟩ : ∃ tk, tk = tb.getD i 0 := ⟨_, rfl⟩
     have ct := ((HT.out.kp HK5.out (fun e => e)).kp HKr.out (fun e => e)).cell (i := i) (by rw [HTL.out]; exact hlt)
     rw [← htk] at ct
     have hq : i / 16 = 0 ∨ i / 16 = 1 ∨ i / 16 = 2 ∨ i / 16 = 3 := by omega
     rcases hq with hq | hq | hq | hq
     --ROUNDS
     ·have hqi : (i : Int).tdiv 16 = 0 := by rw [Int.tdiv_eq_ediv_of_nonneg (by omega)]; omega
      have hqj : (i : Int) / 16 = 0 := by omega
      have hwq : IntKind.i64.wrap 0 = 0 := by decide
      obtain ⟨kx, hkx⟩ : ∃ kx, kx = i := ⟨_, rfl⟩
      have hk16 : kx < 16 := by omega
      have hk5 : k5 i = kx := by
       simp only [k5, hq, if_true]
       omega
      have HXc := Lib.hid (HW5.out.kp HKr.out (fun e => e))
      have cx := HXc.out.cell (i := kx) (by rw [grown_len _ (Nat.le_refl _)]; exact hk16)
      rw [grown_at _ hk16] at cx
      obtain ⟨xk, hxk⟩ : ∃ xk, xk = wordL p kx := ⟨_, rfl⟩
      rw [← hxk] at cx
      have ux : (kx : Int) < 16 := by omega
      obtain ⟨rr, hrr⟩ : ∃ rr, rr = i % 4 := ⟨_, rfl⟩
      have ur : (rr : Int) < 4 := by omega
      have m1 : (i : Int).tmod 4 = (rr : Int) := by rw [Int.tmod_eq_emod_of_nonneg (by omega)]; omega
      have m2 : (i : Int) % 4 = (rr : Int) := by omega
      obtain ⟨tv, htv⟩ : ∃ tv, tv = tn.getD (4 * 0 + rr) 0 := ⟨_, rfl⟩
      have HF : Hid (v.step tk tv (wordL p) i = ⟨v.d, pW v.b (rotK tv (pW (oW (aW v.b v.c) (aW (nW v.b) v.d)) (pW (pW v.a tk) xk))), v.b, v.c⟩) := Lib.hid (by
       simp only [S4.step, f5, hk5, ← hxk, hq, if_true]
       rfl)
      have HNX : Hid (v.step tk tv (wordL p) i = rounds5 tb tn (wordL p) (i + 1) st) := Lib.hid (by
       rw [HV.out, htk, htv, hrr]
       simp only [rounds5, hq])
      subst hkx
      clear hxk HXc hq hk5
      clear htk
      go_upto_region 20 with fail
      try simp only [n_and, n_or, n_noti]
      obtain ⟨w6, hw6⟩ : ∃ w6, w6 = wr := ⟨_, rfl⟩
      subst hw6
      skip
      --R20a
      refine wp_region_seq3 (fun W => W = w6.drew) 11 [(0, true), (1, true), (2, true), (3, true), (4, true), (5, true), (6, true), (7, true), (8, true), (9, true), (10, true), (11, true)] (by as_aux_lemma => kernel_rfl) (by as_aux_lemma => kernel_rfl) (by as_aux_lemma => kernel_rfl) (by decide) (by as_aux_lemma => kernel_rfl) (by decide) rfl ?_
      intro OPS HO
      iterate 5
       refine seqT_take (o := ⟨_, _, _, _, _, _⟩) (v := ?_) (by rw [HO.out]; rfl) (by rfl) ?_ ?_
       rotate_left 1
       ·first | ((intro W _; go_simp) <;> with_reducible rfl) | (intro W hW; subst hW; (go_simp <;> with_reducible rfl))
       try simp only [Act.put, List.setIfInBounds_toArray, List.set_cons_zero, List.set_cons_succ]
       try simp only [n_xor, n_and, n_or, n_not, n_notm, n_noti, n_add, n_addw]
      refine seqT_take (o := ⟨_, _, _, _, _, _⟩) (v := ?_) (by rw [HO.out]; rfl) (by rfl) ?_ ?_
      rotate_left 1
      ·first | ((intro W _; go_simp) <;> with_reducible rfl) | (intro W hW; subst hW; (go_simp <;> with_reducible rfl))
      try simp only [Act.put, List.setIfInBounds_toArray, List.set_cons_zero, List.set_cons_succ]
      try simp only [n_addw]
      iterate 3
       refine seqT_take (o := ⟨_, _, _, _, _, _⟩) (v := ?_) (by rw [HO.out]; rfl) (by rfl) ?_ ?_
       rotate_left 1
       ·first | ((intro W _; go_simp) <;> with_reducible rfl) | (intro W hW; subst hW; (go_simp <;> with_reducible rfl))
       try simp only [Act.put, List.setIfInBounds_toArray, List.set_cons_zero, List.set_cons_succ]
       try simp only [n_xor, n_and, n_or, n_not, n_notm, n_noti, n_add, n_addw]
      iterate 2
       refine seqT_take (o := ⟨_, _, _, _, _, _⟩) (v := ?_) (by rw [HO.out]; rfl) (by rfl) ?_ ?_
       rotate_left 1
       ·first | ((intro W _; go_simp) <;> with_reducible rfl) | (intro W hW; subst hW; (go_simp <;> with_reducible rfl))
       try simp only [Act.put, List.setIfInBounds_toArray, List.set_cons_zero, List.set_cons_succ]
       try simp only [n_addw]
      refine seqT_take (o := ⟨_, _, _, _, _, _⟩) (v := ?_) (by rw [HO.out]; rfl) (by rfl) ?_ ?_
      rotate_left 1
      ·first | ((intro W _; go_simp) <;> with_reducible rfl) | (intro W hW; subst hW; (go_simp <;> with_reducible rfl))
      try simp only [Act.put, List.setIfInBounds_toArray, List.set_cons_zero, List.set_cons_succ]
      try simp only [n_xor, n_and, n_or, n_not, n_notm, n_noti, n_add, n_addw]
      refine seqT_done ?_
      --END20a
      have HK7 : Hid (Kp (fun _ => False) w5 w6.drew) := Lib.hid (HKr.out.drew 1)
      have HUc := HU.out.kp (HK5.out.trans HK7.out) (fun e => e)
      have cu : w6.drew.cell? ⟨7, rr, none⟩ = some (.int .i64 tv) := BoxIs.cell HUc (by
       rw [htv, show 4 * 0 + rr = rr by omega, List.getElem?_toArray, List.getElem?_map, List.getElem?_eq_getElem (by rw [HUL.out]; omega), List.getD_eq_getElem?_getD, List.getElem?_eq_getElem (by rw [HUL.out]; omega)]
       rfl)
      clear ct cx HUc htv hrr
      generalize w6.drew = w7 at *
      go_upto_region 21 with fail
      --R21a
      apply wp_region_lit
      iterate 12
       refine wpList_val rfl (v := ?_) ?_ ?_
       rotate_left 1
       ·first | (go_simp <;> with_reducible rfl)
       try simp only [Act.put, List.setIfInBounds_toArray, List.set_cons_zero, List.set_cons_succ]
       try simp only [n_xor, n_and, n_or, n_not, n_notm, n_noti, n_add, n_addw]
      refine wpList_do rfl (fun K hK => ?_)
      go_wp2_with (go_at_call 272; (with_reducible refine (rotate_any _ _ _).mono ?_); rintro e w' ⟨rfl, hw⟩; (have hw2 := hw.symm; clear hw; subst hw2))
      refine hK.out _ _ ?_
      clear hK K
      try simp only [Act.put, List.setIfInBounds_toArray, List.set_cons_zero, List.set_cons_succ]
      refine wpList_val rfl (v := ?_) ?_ ?_
      rotate_left 1
      ·first | (go_simp <;> with_reducible rfl)
      try simp only [Act.put, List.setIfInBounds_toArray, List.set_cons_zero, List.set_cons_succ]
      try simp only [n_addw]
      iterate 4
       refine wpList_val rfl (v := ?_) ?_ ?_
       rotate_left 1
       ·first | (go_simp <;> with_reducible rfl)
       try simp only [Act.put, List.setIfInBounds_toArray, List.set_cons_zero, List.set_cons_succ]
       try simp only [n_xor, n_and, n_or, n_not, n_notm, n_noti, n_add, n_addw]
      refine wpList_nil ?_
      --END21a
      go_wp2_with fail
      go_roundg gk2
      case measure => omega
      case rel => exact ⟨kx + 1, _, by omega, rfl, rfl, rfl, rfl, rfl, Lib.hid (HF.out.symm.trans HNX.out), HK7⟩
     ·have hqi : (i : Int).tdiv 16 = 1 := by rw [Int.tdiv_eq_ediv_of_nonneg (by omega)]; omega
      have hqj : (i : Int) / 16 = 1 := by omega
      have hwq : IntKind.i64.wrap 1 = 1 := by decide
      obtain ⟨kx, hkx⟩ : ∃ kx, kx = (5 * i + 1) % 16 := ⟨_, rfl⟩
      have hk16 : kx < 16 := by omega
      have hk5 : k5 i = kx := by
       simp only [k5, hq, show ¬ (1 = 0) by decide, if_false, if_true]
       omega
      have HXc := Lib.hid (HW5.out.kp HKr.out (fun e => e))
      have cx := HXc.out.cell (i := kx) (by rw [grown_len _ (Nat.le_refl _)]; exact hk16)
      rw [grown_at _ hk16] at cx
      obtain ⟨xk, hxk⟩ : ∃ xk, xk = wordL p kx := ⟨_, rfl⟩
      rw [← hxk] at cx
      have ux : (kx : Int) < 16 := by omega
      obtain ⟨rr, hrr⟩ : ∃ rr, rr = i % 4 := ⟨_, rfl⟩
      have ur : (rr : Int) < 4 := by omega
      have m1 : (i : Int).tmod 4 = (rr : Int) := by rw [Int.tmod_eq_emod_of_nonneg (by omega)]; omega
      have m2 : (i : Int) % 4 = (rr : Int) := by omega
      obtain ⟨tv, htv⟩ : ∃ tv, tv = tn.getD (4 * 1 + rr) 0 := ⟨_, rfl⟩
      have HF : Hid (v.step tk tv (wordL p) i = ⟨v.d, pW v.b (rotK tv (pW (oW (aW v.d v.b) (aW (nW v.d) v.c)) (pW (pW v.a tk) xk))), v.b, v.c⟩) := Lib.hid (by
       simp only [S4.step, f5, hk5, ← hxk, hq, show ¬ (1 = 0) by decide, if_false, if_true]
       rfl)
      have HNX : Hid (v.step tk tv (wordL p) i = rounds5 tb tn (wordL p) (i + 1) st) := Lib.hid (by
       rw [HV.out, htk, htv, hrr]
       simp only [rounds5, hq])
      obtain ⟨n1, hn1⟩ : ∃ n1, n1 = 5 * i := ⟨_, rfl⟩
      have e1 : IntKind.i64.wrap (5 * (i : Int)) = (n1 : Int) := by rw [IntWalk.i64_in _ (by omega)]; omega
      obtain ⟨n2, hn2⟩ : ∃ n2, n2 = n1 + 1 := ⟨_, rfl⟩
      have e2 : IntKind.i64.wrap ((n1 : Int) + 1) = (n2 : Int) := by rw [IntWalk.i64_in _ (by omega)]; omega
      have e3 : (n2 : Int).tmod 16 = (kx : Int) := by rw [Int.tmod_eq_emod_of_nonneg (by omega)]; omega
      have e4 : (n2 : Int) % 16 = (kx : Int) := by omega
      clear hxk HXc hq hk5 hkx hn1 hn2
      clear htk
      go_upto_region 20 with fail
      try simp only [n_and, n_or, n_noti]
      obtain ⟨w6, hw6⟩ : ∃ w6, w6 = wr := ⟨_, rfl⟩
      subst hw6
      skip
      --R20b
      refine wp_region_seq3 (fun W => W = w6.drew) 11 [(0, true), (1, true), (2, true), (3, true), (4, true), (5, true), (6, true), (7, true), (8, true), (9, true), (10, true), (11, true)] (by as_aux_lemma => kernel_rfl) (by as_aux_lemma => kernel_rfl) (by as_aux_lemma => kernel_rfl) (by decide) (by as_aux_lemma => kernel_rfl) (by decide) rfl ?_
      intro OPS HO
      iterate 5
       refine seqT_take (o := ⟨_, _, _, _, _, _⟩) (v := ?_) (by rw [HO.out]; rfl) (by rfl) ?_ ?_
       rotate_left 1
       ·first | ((intro W _; go_simp) <;> with_reducible rfl) | (intro W hW; subst hW; (go_simp <;> with_reducible rfl))
       try simp only [Act.put, List.setIfInBounds_toArray, List.set_cons_zero, List.set_cons_succ]
       try simp only [n_xor, n_and, n_or, n_not, n_notm, n_noti, n_add, n_addw]
      refine seqT_take (o := ⟨_, _, _, _, _, _⟩) (v := ?_) (by rw [HO.out]; rfl) (by rfl) ?_ ?_
      rotate_left 1
      ·first | ((intro W _; go_simp) <;> with_reducible rfl) | (intro W hW; subst hW; (go_simp <;> with_reducible rfl))
      try simp only [Act.put, List.setIfInBounds_toArray, List.set_cons_zero, List.set_cons_succ]
      try simp only [n_addw]
      iterate 3
       refine seqT_take (o := ⟨_, _, _, _, _, _⟩) (v := ?_) (by rw [HO.out]; rfl) (by rfl) ?_ ?_
       rotate_left 1
       ·first | ((intro W _; go_simp) <;> with_reducible rfl) | (intro W hW; subst hW; (go_simp <;> with_reducible rfl))
       try simp only [Act.put, List.setIfInBounds_toArray, List.set_cons_zero, List.set_cons_succ]
       try simp only [n_xor, n_and, n_or, n_not, n_notm, n_noti, n_add, n_addw]
      iterate 2
       refine seqT_take (o := ⟨_, _, _, _, _, _⟩) (v := ?_) (by rw [HO.out]; rfl) (by rfl) ?_ ?_
       rotate_left 1
       ·first | ((intro W _; go_simp) <;> with_reducible rfl) | (intro W hW; subst hW; (go_simp <;> with_reducible rfl))
       try simp only [Act.put, List.setIfInBounds_toArray, List.set_cons_zero, List.set_cons_succ]
       try simp only [n_addw]
      refine seqT_take (o := ⟨_, _, _, _, _, _⟩) (v := ?_) (by rw [HO.out]; rfl) (by rfl) ?_ ?_
      rotate_left 1
      ·first | ((intro W _; go_simp) <;> with_reducible rfl) | (intro W hW; subst hW; (go_simp <;> with_reducible rfl))
      try simp only [Act.put, List.setIfInBounds_toArray, List.set_cons_zero, List.set_cons_succ]
      try simp only [n_xor, n_and, n_or, n_not, n_notm, n_noti, n_add, n_addw]
      refine seqT_done ?_
      --END20b
      have HK7 : Hid (Kp (fun _ => False) w5 w6.drew) := Lib.hid (HKr.out.drew 1)
      have HUc := HU.out.kp (HK5.out.trans HK7.out) (fun e => e)
      have cu : w6.drew.cell? ⟨7, 4 + rr, none⟩ = some (.int .i64 tv) := BoxIs.cell HUc (by
       rw [htv, List.getElem?_toArray, List.getElem?_map, List.getElem?_eq_getElem (by rw [HUL.out]; omega), List.getD_eq_getElem?_getD, List.getElem?_eq_getElem (by rw [HUL.out]; omega)]
       rfl)
      clear ct cx HUc htv hrr
      generalize w6.drew = w7 at *
      go_upto_region 21 with fail
      --R21b
      apply wp_region_lit
      iterate 12
       refine wpList_val rfl (v := ?_) ?_ ?_
       rotate_left 1
       ·first | (go_simp <;> with_reducible rfl)
       try simp only [Act.put, List.setIfInBounds_toArray, List.set_cons_zero, List.set_cons_succ]
       try simp only [n_xor, n_and, n_or, n_not, n_notm, n_noti, n_add, n_addw]
      refine wpList_do rfl (fun K hK => ?_)
      go_wp2_with (go_at_call 272; (with_reducible refine (rotate_any _ _ _).mono ?_); rintro e w' ⟨rfl, hw⟩; (have hw2 := hw.symm; clear hw; subst hw2))
      refine hK.out _ _ ?_
      clear hK K
      try simp only [Act.put, List.setIfInBounds_toArray, List.set_cons_zero, List.set_cons_succ]
      refine wpList_val rfl (v := ?_) ?_ ?_
      rotate_left 1
      ·first | (go_simp <;> with_reducible rfl)
      try simp only [Act.put, List.setIfInBounds_toArray, List.set_cons_zero, List.set_cons_succ]
      try simp only [n_addw]
      iterate 4
       refine wpList_val rfl (v := ?_) ?_ ?_
       rotate_left 1
       ·first | (go_simp <;> with_reducible rfl)
       try simp only [Act.put, List.setIfInBounds_toArray, List.set_cons_zero, List.set_cons_succ]
       try simp only [n_xor, n_and, n_or, n_not, n_notm, n_noti, n_add, n_addw]
      refine wpList_nil ?_
      --END21b
      go_wp2_with fail
      go_roundg gk2
      case measure => omega
      case rel => exact ⟨i + 1, _, by omega, rfl, rfl, rfl, rfl, rfl, Lib.hid (HF.out.symm.trans HNX.out), HK7⟩
     ·have hqi : (i : Int).tdiv 16 = 2 := by rw [Int.tdiv_eq_ediv_of_nonneg (by omega)]; omega
      have hqj : (i : Int) / 16 = 2 := by omega
      have hwq : IntKind.i64.wrap 2 = 2 := by decide
      obtain ⟨kx, hkx⟩ : ∃ kx, kx = (3 * i + 5) % 16 := ⟨_, rfl⟩
      have hk16 : kx < 16 := by omega
      have hk5 : k5 i = kx := by
       simp only [k5, hq, show ¬ (2 = 0) by decide, show ¬ (2 = 1) by decide, if_false, if_true]
       omega
      have HXc := Lib.hid (HW5.out.kp HKr.out (fun e => e))
      have cx := HXc.out.cell (i := kx) (by rw [grown_len _ (Nat.le_refl _)]; exact hk16)
      rw [grown_at _ hk16] at cx
      obtain ⟨xk, hxk⟩ : ∃ xk, xk = wordL p kx := ⟨_, rfl⟩
      rw [← hxk] at cx
      have ux : (kx : Int) < 16 := by omega
      obtain ⟨rr, hrr⟩ : ∃ rr, rr = i % 4 := ⟨_, rfl⟩
      have ur : (rr : Int) < 4 := by omega
      have m1 : (i : Int).tmod 4 = (rr : Int) := by rw [Int.tmod_eq_emod_of_nonneg (by omega)]; omega
      have m2 : (i : Int) % 4 = (rr : Int) := by omega
      obtain ⟨tv, htv⟩ : ∃ tv, tv = tn.getD (4 * 2 + rr) 0 := ⟨_, rfl⟩
      have HF : Hid (v.step tk tv (wordL p) i = ⟨v.d, pW v.b (rotK tv (pW (xW (xW v.b v.c) v.d) (pW (pW v.a tk) xk))), v.b, v.c⟩) := Lib.hid (by
       simp only [S4.step, f5, hk5, ← hxk, hq, show ¬ (2 = 0) by decide, show ¬ (2 = 1) by decide, if_false, if_true]
       rfl)
      have HNX : Hid (v.step tk tv (wordL p) i = rounds5 tb tn (wordL p) (i + 1) st) := Lib.hid (by
       rw [HV.out, htk, htv, hrr]
       simp only [rounds5, hq])
      obtain ⟨n1, hn1⟩ : ∃ n1, n1 = 3 * i := ⟨_, rfl⟩
      have e1 : IntKind.i64.wrap (3 * (i : Int)) = (n1 : Int) := by rw [IntWalk.i64_in _ (by omega)]; omega
      obtain ⟨n2, hn2⟩ : ∃ n2, n2 = n1 + 5 := ⟨_, rfl⟩
      have e2 : IntKind.i64.wrap ((n1 : Int) + 5) = (n2 : Int) := by rw [IntWalk.i64_in _ (by omega)]; omega
      have e3 : (n2 : Int).tmod 16 = (kx : Int) := by rw [Int.tmod_eq_emod_of_nonneg (by omega)]; omega
      have e4 : (n2 : Int) % 16 = (kx : Int) := by omega
      clear hxk HXc hq hk5 hkx hn1 hn2
      clear htk
      go_upto_region 20 with fail
      try simp only [n_xor]
      obtain ⟨w6, hw6⟩ : ∃ w6, w6 = wr := ⟨_, rfl⟩
      subst hw6
      skip
      --R20c
      refine wp_region_seq3 (fun W => W = w6.drew) 11 [(0, true), (1, true), (2, true), (3, true), (4, true), (5, true), (6, true), (7, true), (8, true), (9, true), (10, true), (11, true)] (by as_aux_lemma => kernel_rfl) (by as_aux_lemma => kernel_rfl) (by as_aux_lemma => kernel_rfl) (by decide) (by as_aux_lemma => kernel_rfl) (by decide) rfl ?_
      intro OPS HO
      iterate 5
       refine seqT_take (o := ⟨_, _, _, _, _, _⟩) (v := ?_) (by rw [HO.out]; rfl) (by rfl) ?_ ?_
       rotate_left 1
       ·first | ((intro W _; go_simp) <;> with_reducible rfl) | (intro W hW; subst hW; (go_simp <;> with_reducible rfl))
       try simp only [Act.put, List.setIfInBounds_toArray, List.set_cons_zero, List.set_cons_succ]
       try simp only [n_xor, n_and, n_or, n_not, n_notm, n_noti, n_add, n_addw]
      refine seqT_take (o := ⟨_, _, _, _, _, _⟩) (v := ?_) (by rw [HO.out]; rfl) (by rfl) ?_ ?_
      rotate_left 1
      ·first | ((intro W _; go_simp) <;> with_reducible rfl) | (intro W hW; subst hW; (go_simp <;> with_reducible rfl))
      try simp only [Act.put, List.setIfInBounds_toArray, List.set_cons_zero, List.set_cons_succ]
      try simp only [n_addw]
      iterate 3
       refine seqT_take (o := ⟨_, _, _, _, _, _⟩) (v := ?_) (by rw [HO.out]; rfl) (by rfl) ?_ ?_
       rotate_left 1
       ·first | ((intro W _; go_simp) <;> with_reducible rfl) | (intro W hW; subst hW; (go_simp <;> with_reducible rfl))
       try simp only [Act.put, List.setIfInBounds_toArray, List.set_cons_zero, List.set_cons_succ]
       try simp only [n_xor, n_and, n_or, n_not, n_notm, n_noti, n_add, n_addw]
      iterate 2
       refine seqT_take (o := ⟨_, _, _, _, _, _⟩) (v := ?_) (by rw [HO.out]; rfl) (by rfl) ?_ ?_
       rotate_left 1
       ·first | ((intro W _; go_simp) <;> with_reducible rfl) | (intro W hW; subst hW; (go_simp <;> with_reducible rfl))
       try simp only [Act.put, List.setIfInBounds_toArray, List.set_cons_zero, List.set_cons_succ]
       try simp only [n_addw]
      refine seqT_take (o := ⟨_, _, _, _, _, _⟩) (v := ?_) (by rw [HO.out]; rfl) (by rfl) ?_ ?_
      rotate_left 1
      ·first | ((intro W _; go_simp) <;> with_reducible rfl) | (intro W hW; subst hW; (go_simp <;> with_reducible rfl))
      try simp only [Act.put, List.setIfInBounds_toArray, List.set_cons_zero, List.set_cons_succ]
      try simp only [n_xor, n_and, n_or, n_not, n_notm, n_noti, n_add, n_addw]
      refine seqT_done ?_
      --END20c
      have HK7 : Hid (Kp (fun _ => False) w5 w6.drew) := Lib.hid (HKr.out.drew 1)
      have HUc := HU.out.kp (HK5.out.trans HK7.out) (fun e => e)
      have cu : w6.drew.cell? ⟨7, 8 + rr, none⟩ = some (.int .i64 tv) := BoxIs.cell HUc (by
       rw [htv, List.getElem?_toArray, List.getElem?_map, List.getElem?_eq_getElem (by rw [HUL.out]; omega), List.getD_eq_getElem?_getD, List.getElem?_eq_getElem (by rw [HUL.out]; omega)]
       rfl)
      clear ct cx HUc htv hrr
      generalize w6.drew = w7 at *
      go_upto_region 21 with fail
      --R21c
      apply wp_region_lit
      iterate 12
       refine wpList_val rfl (v := ?_) ?_ ?_
       rotate_left 1
       ·first | (go_simp <;> with_reducible rfl)
       try simp only [Act.put, List.setIfInBounds_toArray, List.set_cons_zero, List.set_cons_succ]
       try simp only [n_xor, n_and, n_or, n_not, n_notm, n_noti, n_add, n_addw]
      refine wpList_do rfl (fun K hK => ?_)
      go_wp2_with (go_at_call 272; (with_reducible refine (rotate_any _ _ _).mono ?_); rintro e w' ⟨rfl, hw⟩; (have hw2 := hw.symm; clear hw; subst hw2))
      refine hK.out _ _ ?_
      clear hK K
      try simp only [Act.put, List.setIfInBounds_toArray, List.set_cons_zero, List.set_cons_succ]
      refine wpList_val rfl (v := ?_) ?_ ?_
      rotate_left 1
      ·first | (go_simp <;> with_reducible rfl)
      try simp only [Act.put, List.setIfInBounds_toArray, List.set_cons_zero, List.set_cons_succ]
      try simp only [n_addw]
      iterate 4
       refine wpList_val rfl (v := ?_) ?_ ?_
       rotate_left 1
       ·first | (go_simp <;> with_reducible rfl)
       try simp only [Act.put, List.setIfInBounds_toArray, List.set_cons_zero, List.set_cons_succ]
       try simp only [n_xor, n_and, n_or, n_not, n_notm, n_noti, n_add, n_addw]
      refine wpList_nil ?_
      --END21c
      go_wp2_with fail
      go_roundg gk2
      case measure => omega
      case rel => exact ⟨i + 1, _, by omega, rfl, rfl, rfl, rfl, rfl, Lib.hid (HF.out.symm.trans HNX.out), HK7⟩
     ·have hqi : (i : Int).tdiv 16 = 3 := by rw [Int.tdiv_eq_ediv_of_nonneg (by omega)]; omega
      have hqj : (i : Int) / 16 = 3 := by omega
      have hwq : IntKind.i64.wrap 3 = 3 := by decide
      obtain ⟨kx, hkx⟩ : ∃ kx, kx = 7 * i % 16 := ⟨_, rfl⟩
      have hk16 : kx < 16 := by omega
      have hk5 : k5 i = kx := by
       simp only [k5, hq, show ¬ (3 = 0) by decide, show ¬ (3 = 1) by decide, show ¬ (3 = 2) by decide, if_false]
       omega
      have HXc := Lib.hid (HW5.out.kp HKr.out (fun e => e))
      have cx := HXc.out.cell (i := kx) (by rw [grown_len _ (Nat.le_refl _)]; exact hk16)
      rw [grown_at _ hk16] at cx
      obtain ⟨xk, hxk⟩ : ∃ xk, xk = wordL p kx := ⟨_, rfl⟩
      rw [← hxk] at cx
      have ux : (kx : Int) < 16 := by omega
      obtain ⟨rr, hrr⟩ : ∃ rr, rr = i % 4 := ⟨_, rfl⟩
      have ur : (rr : Int) < 4 := by omega
      have m1 : (i : Int).tmod 4 = (rr : Int) := by rw [Int.tmod_eq_emod_of_nonneg (by omega)]; omega
      have m2 : (i : Int) % 4 = (rr : Int) := by omega
      obtain ⟨tv, htv⟩ : ∃ tv, tv = tn.getD (4 * 3 + rr) 0 := ⟨_, rfl⟩
      have HF : Hid (v.step tk tv (wordL p) i = ⟨v.d, pW v.b (rotK tv (pW (xW v.c (oW v.b (nW v.d))) (pW (pW v.a tk) xk))), v.b, v.c⟩) := Lib.hid (by
       simp only [S4.step, f5, hk5, ← hxk, hq, show ¬ (3 = 0) by decide, show ¬ (3 = 1) by decide, show ¬ (3 = 2) by decide, if_false]
       rfl)
      have HNX : Hid (v.step tk tv (wordL p) i = rounds5 tb tn (wordL p) (i + 1) st) := Lib.hid (by
       rw [HV.out, htk, htv, hrr]
       simp only [rounds5, hq])
      obtain ⟨n1, hn1⟩ : ∃ n1, n1 = 7 * i := ⟨_, rfl⟩
      have e1 : IntKind.i64.wrap (7 * (i : Int)) = (n1 : Int) := by rw [IntWalk.i64_in _ (by omega)]; omega
      have e3 : (n1 : Int).tmod 16 = (kx : Int) := by rw [Int.tmod_eq_emod_of_nonneg (by omega)]; omega
      have e4 : (n1 : Int) % 16 = (kx : Int) := by omega
      clear hxk HXc hq hk5 hkx hn1
      clear htk
      go_upto_region 20 with fail
      try simp only [n_xor, n_or, n_noti]
      obtain ⟨w6, hw6⟩ : ∃ w6, w6 = wr := ⟨_, rfl⟩
      subst hw6
      skip
      --R20d
      refine wp_region_seq3 (fun W => W = w6.drew) 11 [(0, true), (1, true), (2, true), (3, true), (4, true), (5, true), (6, true), (7, true), (8, true), (9, true), (10, true), (11, true)] (by as_aux_lemma => kernel_rfl) (by as_aux_lemma => kernel_rfl) (by as_aux_lemma => kernel_rfl) (by decide) (by as_aux_lemma => kernel_rfl) (by decide) rfl ?_
      intro OPS HO
      iterate 5
       refine seqT_take (o := ⟨_, _, _, _, _, _⟩) (v := ?_) (by rw [HO.out]; rfl) (by rfl) ?_ ?_
       rotate_left 1
       ·first | ((intro W _; go_simp) <;> with_reducible rfl) | (intro W hW; subst hW; (go_simp <;> with_reducible rfl))
       try simp only [Act.put, List.setIfInBounds_toArray, List.set_cons_zero, List.set_cons_succ]
       try simp only [n_xor, n_and, n_or, n_not, n_notm, n_noti, n_add, n_addw]
      refine seqT_take (o := ⟨_, _, _, _, _, _⟩) (v := ?_) (by rw [HO.out]; rfl) (by rfl) ?_ ?_
      rotate_left 1
      ·first | ((intro W _; go_simp) <;> with_reducible rfl) | (intro W hW; subst hW; (go_simp <;> with_reducible rfl))
      try simp only [Act.put, List.setIfInBounds_toArray, List.set_cons_zero, List.set_cons_succ]
      try simp only [n_addw]
      iterate 3
       refine seqT_take (o := ⟨_, _, _, _, _, _⟩) (v := ?_) (by rw [HO.out]; rfl) (by rfl) ?_ ?_
       rotate_left 1
       ·first | ((intro W _; go_simp) <;> with_reducible rfl) | (intro W hW; subst hW; (go_simp <;> with_reducible rfl))
       try simp only [Act.put, List.setIfInBounds_toArray, List.set_cons_zero, List.set_cons_succ]
       try simp only [n_xor, n_and, n_or, n_not, n_notm, n_noti, n_add, n_addw]
      iterate 2
       refine seqT_take (o := ⟨_, _, _, _, _, _⟩) (v := ?_) (by rw [HO.out]; rfl) (by rfl) ?_ ?_
       rotate_left 1
       ·first | ((intro W _; go_simp) <;> with_reducible rfl) | (intro W hW; subst hW; (go_simp <;> with_reducible rfl))
       try simp only [Act.put, List.setIfInBounds_toArray, List.set_cons_zero, List.set_cons_succ]
       try simp only [n_addw]
      refine seqT_take (o := ⟨_, _, _, _, _, _⟩) (v := ?_) (by rw [HO.out]; rfl) (by rfl) ?_ ?_
      rotate_left 1
      ·first | ((intro W _; go_simp) <;> with_reducible rfl) | (intro W hW; subst hW; (go_simp <;> with_reducible rfl))
      try simp only [Act.put, List.setIfInBounds_toArray, List.set_cons_zero, List.set_cons_succ]
      try simp only [n_xor, n_and, n_or, n_not, n_notm, n_noti, n_add, n_addw]
      refine seqT_done ?_
      --END20d
      have HK7 : Hid (Kp (fun _ => False) w5 w6.drew) := Lib.hid (HKr.out.drew 1)
      have HUc := HU.out.kp (HK5.out.trans HK7.out) (fun e => e)
      have cu : w6.drew.cell? ⟨7, 12 + rr, none⟩ = some (.int .i64 tv) := BoxIs.cell HUc (by
       rw [htv, List.getElem?_toArray, List.getElem?_map, List.getElem?_eq_getElem (by rw [HUL.out]; omega), List.getD_eq_getElem?_getD, List.getElem?_eq_getElem (by rw [HUL.out]; omega)]
       rfl)
      clear ct cx HUc htv hrr
      generalize w6.drew = w7 at *
      go_upto_region 21 with fail
      --R21d
      apply wp_region_lit
      iterate 12
       refine wpList_val rfl (v := ?_) ?_ ?_
       rotate_left 1
       ·first | (go_simp <;> with_reducible rfl)
       try simp only [Act.put, List.setIfInBounds_toArray, List.set_cons_zero, List.set_cons_succ]
       try simp only [n_xor, n_and, n_or, n_not, n_notm, n_noti, n_add, n_addw]
      refine wpList_do rfl (fun K hK => ?_)
      go_wp2_with (go_at_call 272; (with_reducible refine (rotate_any _ _ _).mono ?_); rintro e w' ⟨rfl, hw⟩; (have hw2 := hw.symm; clear hw; subst hw2))
      refine hK.out _ _ ?_
      clear hK K
      try simp only [Act.put, List.setIfInBounds_toArray, List.set_cons_zero, List.set_cons_succ]
      refine wpList_val rfl (v := ?_) ?_ ?_
      rotate_left 1
      ·first | (go_simp <;> with_reducible rfl)
      try simp only [Act.put, List.setIfInBounds_toArray, List.set_cons_zero, List.set_cons_succ]
      try simp only [n_addw]
      iterate 4
       refine wpList_val rfl (v := ?_) ?_ ?_
       rotate_left 1
       ·first | (go_simp <;> with_reducible rfl)
       try simp only [Act.put, List.setIfInBounds_toArray, List.set_cons_zero, List.set_cons_succ]
       try simp only [n_xor, n_and, n_or, n_not, n_notm, n_noti, n_add, n_addw]
      refine wpList_nil ?_
      --END21d
      go_wp2_with fail
      go_roundg gk2
      case measure => omega
      case rel => exact ⟨i + 1, _, by omega, rfl, rfl, rfl, rfl, rfl, Lib.hid (HF.out.symm.trans HNX.out), HK7⟩
     --ENDROUNDS
    ·obtain rfl : i = 64 := by omega
     clear hi hlt
     have HE3 := Lib.hid (HE.out.kp (HK5.out.trans HKr.out) (fun e => e))
     have HK3 : Hid (Kp (· = ge) w wr) := Lib.hid ((HK5.out.trans HKr.out).mono (fun _ e => e.elim))
     generalize wr = v3 at *
     have c0 : v3.cell? ⟨ge, 0, none⟩ = some (vw st.a) := HE3.out.cell (i := 0) (show 0 < 4 by decide)
     have fz0 := Lib.frozen_of_heap HE3.out 0
     have HE4 : Hid (WordsAt (v3.setCell ⟨ge, 0, none⟩ (vw (pW st.a v.a))).drew ge [pW st.a v.a, st.b, st.c, st.d] 237) := Lib.hid (WordsAt.set HE3.out 0 (pW st.a v.a))
     have HK4 : Hid (Kp (· = ge) w (v3.setCell ⟨ge, 0, none⟩ (vw (pW st.a v.a))).drew) := Lib.hid ((HK3.out.set (.inl rfl) 0 _).drew 1)
     clear HE3 HK3
     go_upto_region 23 with fail
     --R23
     refine wp_region_seq3 (fun W => W = v3.drew) 10 [(0, true), (1, true), (2, true), (3, true), (4, true), (5, true), (6, true), (7, true), (8, true), (9, true), (10, false)] (by as_aux_lemma => kernel_rfl) (by as_aux_lemma => kernel_rfl) (by as_aux_lemma => kernel_rfl) (by decide) (by as_aux_lemma => kernel_rfl) (by decide) rfl ?_
     intro OPS HO
     iterate 6
      refine seqT_take (o := ⟨_, _, _, _, _, _⟩) (v := ?_) (by rw [HO.out]; rfl) (by rfl) ?_ ?_
      rotate_left 1
      ·first | ((intro W _; go_simp) <;> with_reducible rfl) | (intro W hW; subst hW; (go_simp <;> with_reducible rfl))
      try simp only [Act.put, List.setIfInBounds_toArray, List.set_cons_zero, List.set_cons_succ]
      try simp only [n_xor, n_and, n_or, n_not, n_notm, n_noti, n_add, n_addw]
     refine seqT_take (o := ⟨_, _, _, _, _, _⟩) (v := ?_) (by rw [HO.out]; rfl) (by rfl) ?_ ?_
     rotate_left 1
     ·first | ((intro W _; go_simp) <;> with_reducible rfl) | (intro W hW; subst hW; (go_simp <;> with_reducible rfl))
     try simp only [Act.put, List.setIfInBounds_toArray, List.set_cons_zero, List.set_cons_succ]
     try simp only [n_addw]
     iterate 3
      refine seqT_take (o := ⟨_, _, _, _, _, _⟩) (v := ?_) (by rw [HO.out]; rfl) (by rfl) ?_ ?_
      rotate_left 1
      ·first | ((intro W _; go_simp) <;> with_reducible rfl) | (intro W hW; subst hW; (go_simp <;> with_reducible rfl))
      try simp only [Act.put, List.setIfInBounds_toArray, List.set_cons_zero, List.set_cons_succ]
      try simp only [n_xor, n_and, n_or, n_not, n_notm, n_noti, n_add, n_addw]
     refine seqT_do (o := ⟨_, _, _, _, _, _⟩) (by rw [HO.out]; rfl) (by rfl) (fun K hK => ?_)
     go_wp2_with fail
     refine hK.out _ _ (fun h => absurd rfl h) ?_
     clear hK K
     try simp only [Act.put, List.setIfInBounds_toArray, List.set_cons_zero, List.set_cons_succ]
     refine seqT_done ?_
     --END23
     generalize (v3.setCell _ _).drew = v4 at *
     clear c0 fz0
     have c1 : v4.cell? ⟨ge, 1, none⟩ = some (vw st.b) := HE4.out.cell (i := 1) (show 1 < 4 by decide)
     have fz1 := Lib.frozen_of_heap HE4.out 1
     have HE5 : Hid (WordsAt (v4.setCell ⟨ge, 1, none⟩ (vw (pW st.b v.b))).drew ge [pW st.a v.a, pW st.b v.b, st.c, st.d] 237) := Lib.hid (WordsAt.set HE4.out 1 (pW st.b v.b))
     have HK5 : Hid (Kp (· = ge) w (v4.setCell ⟨ge, 1, none⟩ (vw (pW st.b v.b))).drew) := Lib.hid ((HK4.out.set (.inl rfl) 1 _).drew 1)
     clear HE4 HK4
     go_upto_region 24 with fail
     --R24
     refine wp_region_seq3 (fun W => W = v4.drew) 10 [(0, true), (1, true), (2, true), (3, true), (4, true), (5, true), (6, true), (7, true), (8, true), (9, true), (10, false)] (by as_aux_lemma => kernel_rfl) (by as_aux_lemma => kernel_rfl) (by as_aux_lemma => kernel_rfl) (by decide) (by as_aux_lemma => kernel_rfl) (by decide) rfl ?_
     intro OPS HO
     iterate 6
      refine seqT_take (o := ⟨_, _, _, _, _, _⟩) (v := ?_) (by rw [HO.out]; rfl) (by rfl) ?_ ?_
      rotate_left 1
      ·first | ((intro W _; go_simp) <;> with_reducible rfl) | (intro W hW; subst hW; (go_simp <;> with_reducible rfl))
      try simp only [Act.put, List.setIfInBounds_toArray, List.set_cons_zero, List.set_cons_succ]
      try simp only [n_xor, n_and, n_or, n_not, n_notm, n_noti, n_add, n_addw]
     refine seqT_take (o := ⟨_, _, _, _, _, _⟩) (v := ?_) (by rw [HO.out]; rfl) (by rfl) ?_ ?_
     rotate_left 1
     ·first | ((intro W _; go_simp) <;> with_reducible rfl) | (intro W hW; subst hW; (go_simp <;> with_reducible rfl))
     try simp only [Act.put, List.setIfInBounds_toArray, List.set_cons_zero, List.set_cons_succ]
     try simp only [n_addw]
     iterate 3
      refine seqT_take (o := ⟨_, _, _, _, _, _⟩) (v := ?_) (by rw [HO.out]; rfl) (by rfl) ?_ ?_
      rotate_left 1
      ·first | ((intro W _; go_simp) <;> with_reducible rfl) | (intro W hW; subst hW; (go_simp <;> with_reducible rfl))
      try simp only [Act.put, List.setIfInBounds_toArray, List.set_cons_zero, List.set_cons_succ]
      try simp only [n_xor, n_and, n_or, n_not, n_notm, n_noti, n_add, n_addw]
     refine seqT_do (o := ⟨_, _, _, _, _, _⟩) (by rw [HO.out]; rfl) (by rfl) (fun K hK => ?_)
     go_wp2_with fail
     refine hK.out _ _ (fun h => absurd rfl h) ?_
     clear hK K
     try simp only [Act.put, List.setIfInBounds_toArray, List.set_cons_zero, List.set_cons_succ]
     refine seqT_done ?_
     --END24
     generalize (v4.setCell _ _).drew = v5 at *
     clear c1 fz1
     have c2 : v5.cell? ⟨ge, 2, none⟩ = some (vw st.c) := HE5.out.cell (i := 2) (show 2 < 4 by decide)
     have fz2 := Lib.frozen_of_heap HE5.out 2
     have HE6 : Hid (WordsAt (v5.setCell ⟨ge, 2, none⟩ (vw (pW st.c v.c))).drew ge [pW st.a v.a, pW st.b v.b, pW st.c v.c, st.d] 237) := Lib.hid (WordsAt.set HE5.out 2 (pW st.c v.c))
     have HK6 : Hid (Kp (· = ge) w (v5.setCell ⟨ge, 2, none⟩ (vw (pW st.c v.c))).drew) := Lib.hid ((HK5.out.set (.inl rfl) 2 _).drew 1)
     clear HE5 HK5
     go_upto_region 25 with fail
     --R25
     refine wp_region_seq3 (fun W => W = v5.drew) 10 [(0, true), (1, true), (2, true), (3, true), (4, true), (5, true), (6, true), (7, true), (8, true), (9, true), (10, false)] (by as_aux_lemma => kernel_rfl) (by as_aux_lemma => kernel_rfl) (by as_aux_lemma => kernel_rfl) (by decide) (by as_aux_lemma => kernel_rfl) (by decide) rfl ?_
     intro OPS HO
     iterate 6
      refine seqT_take (o := ⟨_, _, _, _, _, _⟩) (v := ?_) (by rw [HO.out]; rfl) (by rfl) ?_ ?_
      rotate_left 1
      ·first | ((intro W _; go_simp) <;> with_reducible rfl) | (intro W hW; subst hW; (go_simp <;> with_reducible rfl))
      try simp only [Act.put, List.setIfInBounds_toArray, List.set_cons_zero, List.set_cons_succ]
      try simp only [n_xor, n_and, n_or, n_not, n_notm, n_noti, n_add, n_addw]
     refine seqT_take (o := ⟨_, _, _, _, _, _⟩) (v := ?_) (by rw [HO.out]; rfl) (by rfl) ?_ ?_
     rotate_left 1
     ·first | ((intro W _; go_simp) <;> with_reducible rfl) | (intro W hW; subst hW; (go_simp <;> with_reducible rfl))
     try simp only [Act.put, List.setIfInBounds_toArray, List.set_cons_zero, List.set_cons_succ]
     try simp only [n_addw]
     iterate 3
      refine seqT_take (o := ⟨_, _, _, _, _, _⟩) (v := ?_) (by rw [HO.out]; rfl) (by rfl) ?_ ?_
      rotate_left 1
      ·first | ((intro W _; go_simp) <;> with_reducible rfl) | (intro W hW; subst hW; (go_simp <;> with_reducible rfl))
      try simp only [Act.put, List.setIfInBounds_toArray, List.set_cons_zero, List.set_cons_succ]
      try simp only [n_xor, n_and, n_or, n_not, n_notm, n_noti, n_add, n_addw]
     refine seqT_do (o := ⟨_, _, _, _, _, _⟩) (by rw [HO.out]; rfl) (by rfl) (fun K hK => ?_)
     go_wp2_with fail
     refine hK.out _ _ (fun h => absurd rfl h) ?_
     clear hK K
     try simp only [Act.put, List.setIfInBounds_toArray, List.set_cons_zero, List.set_cons_succ]
     refine seqT_done ?_
     --END25
     generalize (v5.setCell _ _).drew = v6 at *
     clear c2 fz2
     have c3 : v6.cell? ⟨ge, 3, none⟩ = some (vw st.d) := HE6.out.cell (i := 3) (show 3 < 4 by decide)
     have fz3 := Lib.frozen_of_heap HE6.out 3
     have HE7 : Hid (WordsAt (v6.setCell ⟨ge, 3, none⟩ (vw (pW st.d v.d))).drew ge [pW st.a v.a, pW st.b v.b, pW st.c v.c, pW st.d v.d] 237) := Lib.hid (WordsAt.set HE6.out 3 (pW st.d v.d))
     have HK7 : Hid (Kp (· = ge) w (v6.setCell ⟨ge, 3, none⟩ (vw (pW st.d v.d))).drew) := Lib.hid ((HK6.out.set (.inl rfl) 3 _).drew 1)
     clear HE6 HK6
     go_upto_region 26 with fail
     --R26
     refine wp_region_seq3 (fun W => W = v6.drew) 10 [(0, true), (1, true), (2, true), (3, true), (4, true), (5, true), (6, true), (7, true), (8, true), (9, true), (10, false)] (by as_aux_lemma => kernel_rfl) (by as_aux_lemma => kernel_rfl) (by as_aux_lemma => kernel_rfl) (by decide) (by as_aux_lemma => kernel_rfl) (by decide) rfl ?_
     intro OPS HO
     iterate 6
      refine seqT_take (o := ⟨_, _, _, _, _, _⟩) (v := ?_) (by rw [HO.out]; rfl) (by rfl) ?_ ?_
      rotate_left 1
      ·first | ((intro W _; go_simp) <;> with_reducible rfl) | (intro W hW; subst hW; (go_simp <;> with_reducible rfl))
      try simp only [Act.put, List.setIfInBounds_toArray, List.set_cons_zero, List.set_cons_succ]
      try simp only [n_xor, n_and, n_or, n_not, n_notm, n_noti, n_add, n_addw]
     refine seqT_take (o := ⟨_, _, _, _, _, _⟩) (v := ?_) (by rw [HO.out]; rfl) (by rfl) ?_ ?_
     rotate_left 1
     ·first | ((intro W _; go_simp) <;> with_reducible rfl) | (intro W hW; subst hW; (go_simp <;> with_reducible rfl))
     try simp only [Act.put, List.setIfInBounds_toArray, List.set_cons_zero, List.set_cons_succ]
     try simp only [n_addw]
     iterate 3
      refine seqT_take (o := ⟨_, _, _, _, _, _⟩) (v := ?_) (by rw [HO.out]; rfl) (by rfl) ?_ ?_
      rotate_left 1
      ·first | ((intro W _; go_simp) <;> with_reducible rfl) | (intro W hW; subst hW; (go_simp <;> with_reducible rfl))
      try simp only [Act.put, List.setIfInBounds_toArray, List.set_cons_zero, List.set_cons_succ]
      try simp only [n_xor, n_and, n_or, n_not, n_notm, n_noti, n_add, n_addw]
     refine seqT_do (o := ⟨_, _, _, _, _, _⟩) (by rw [HO.out]; rfl) (by rfl) (fun K hK => ?_)
     go_wp2_with fail
     refine hK.out _ _ (fun h => absurd rfl h) ?_
     clear hK K
     try simp only [Act.put, List.setIfInBounds_toArray, List.set_cons_zero, List.set_cons_succ]
     refine seqT_done ?_
     --END26
     generalize (v6.setCell _ _).drew = v7 at *
     clear c3 fz3
     go_wp2_with fail
     go_end0
     refine ⟨rfl, ?_, HK7.out⟩
     rw [comp5, ← HV.out]
     exact HE7.out
end Go.Proofs.YtchfhojighopkaaGreatDoor
