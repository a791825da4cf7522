/-
  Parts of the proof: Sw2.
-/
import Derived.Test.YtchfhojighopkaaGreatDoorGuAD
import Derived.Test.YtchfhojighopkaaGreatDoorGuAE
namespace Go.Proofs.YtchfhojighopkaaGreatDoor
open Go.RowKit Wh.Sha

/-- A block of words. -/
def WordsAt (w : World) (g : Nat) (ws : List W) (t : TypeId) : Prop := BoxIs w g (ws.map vw).toArray t
theorem WordsAt.lt {w : World} {g : Nat} {ws : List W} {t : TypeId} (h : WordsAt w g ws t) : g < w.heap.size := BoxIs.lt h
theorem WordsAt.cell {w : World} {g : Nat} {ws : List W} {t : TypeId} (h : WordsAt w g ws t) {i : Nat} (hi : i < ws.length) : w.cell? ⟨g, i, none⟩ = some (vw (ws.getD i 0)) :=
 BoxIs.cell h (by rw [List.getElem?_toArray, List.getElem?_map, List.getD_eq_getElem?_getD, List.getElem?_eq_getElem hi]; rfl)
theorem WordsAt.set {w : World} {g : Nat} {ws : List W} {t : TypeId} (h : WordsAt w g ws t) (i : Nat) (v : W) : WordsAt (w.setCell ⟨g, i, none⟩ (vw v)) g (ws.set i v) t := by
 unfold WordsAt at *
 unfold BoxIs at *
 simp [World.setCell, Array.getElem?_modify, h, List.map_set]
theorem WordsAt.kp {F : Nat → Prop} {w w' : World} {g : Nat} {ws : List W} {t : TypeId} (h : WordsAt w g ws t) (ha : Kp F w w') (hne : ¬ F g) : WordsAt w' g ws t := BoxIs.kp h ha hne

/-- Bytes that stand somewhere. -/
def BytesAt (w : World) (b o : Nat) (p : List UInt8) : Prop := b < w.heap.size ∧ ∀ i, i < p.length → w.cell? ⟨b, o + i, none⟩ = some (vb (p.getD i 0))
theorem BytesAt.kp {F : Nat → Prop} {w w' : World} {b o : Nat} {p : List UInt8} (h : BytesAt w b o p) (ha : Kp F w w') (hne : ¬ F b) : BytesAt w' b o p :=
 ⟨Nat.lt_of_lt_of_le h.1 ha.size, fun i hi => cell_kp ha (h.2 i hi) hne⟩

theorem w8_nat (c : UInt8) : (w8 c).toNat = c.toNat := by
 have := c.toNat_lt
 unfold w8
 rw [BitVec.toNat_ofNat]
 omega
theorem w_cv (c : UInt8) : IntKind.u32.wrap (c.toNat : Int) = ((w8 c).toNat : Int) := by
 rw [wrap_u32 _ (by have := c.toNat_lt; omega), w8_nat]
theorem words_next (f : Nat → W) (ws : List W) {k : Nat} (hk : k < ws.length) (_hl : 16 ≤ ws.length) (h : k < 16) :
  ((List.range k).map f ++ ws.drop k).set k (f k) = (List.range (k + 1)).map f ++ ws.drop (k + 1) := by
 apply List.ext_getElem?
 intro i
 rw [List.getElem?_set]
 rcases Nat.lt_trichotomy i k with hi | hi | hi
 ·rw [if_neg (by omega), List.getElem?_append_left (by simp; omega), List.getElem?_append_left (by simp; omega)]
  simp [hi, Nat.lt_succ_of_lt hi]
 ·subst hi
  rw [if_pos rfl, if_pos (by simp; omega), List.getElem?_append_left (by simp)]
  simp
 ·rw [if_neg (by omega), List.getElem?_append_right (by simp; omega), List.getElem?_append_right (by simp; omega)]
  simp
  congr 1
  omega

set_option maxHeartbeats 4000000 in
set_option maxRecDepth 100000 in
theorem wordsOf_any (b o g n c : Nat) (p : List UInt8) (ws : List W) (t : TypeId) (w : World) (hp : p.length = 64) (hB : BytesAt w b o p) (hW : WordsAt w g ws t) (hbg : b ≠ g) (hl : 16 ≤ ws.length) (hn : n = ws.length) :
  Calls Tryz.prog 278 #[.pointer (some ⟨b, o, none⟩), .slice (some ⟨g, 0, none⟩) n c] w fun e w' => e = .returned (.tuple #[]) ∧ WordsAt w' g ((List.range 16).map (word p) ++ ws.drop 16) t ∧ Kp (· = g) w w' := by
 have HB := Lib.hid hB
 have HW := Lib.hid hW
 have HP := Lib.hid hp
 have HN0 := Lib.hid hn
 clear hB hW hp hn
 go_enter Tryz.func278, Tryz.ntmps278
 go_wp2_with fail
 go_loopg [5] 16 (fun gk i wx => ∃ k : Nat, k + gk = 16 ∧ i = .int .i64 k ∧ Hid (WordsAt wx g ((List.range k).map (word p) ++ ws.drop k) t) ∧ Hid (Kp (· = g) w wx))
 case atStart => exact ⟨0, by omega, rfl, Lib.hid (by simpa using HW.out), Lib.hid (Kp.refl _ _)⟩
 case round =>
  clear HW
  obtain ⟨k, hk, rfl, HW, HK⟩ := hrel
  by_cases hlt : k < 16
  ·obtain ⟨gk2, rfl⟩ : ∃ gk2, gk = gk2 + 1 := ⟨gk - 1, by omega⟩
   have HB2 := Lib.hid (HB.out.kp HK.out (by omega))
   obtain ⟨k0, hk0⟩ : ∃ k0, k0 = 4 * k := ⟨_, rfl⟩
   obtain ⟨k1, hk1⟩ : ∃ k1, k1 = 4 * k + 1 := ⟨_, rfl⟩
   obtain ⟨k2, hk2⟩ : ∃ k2, k2 = 4 * k + 2 := ⟨_, rfl⟩
   obtain ⟨k3, hk3⟩ : ∃ k3, k3 = 4 * k + 3 := ⟨_, rfl⟩
   have c0 := HB2.out.2 k0 (by have := HP.out; omega)
   have c1 := HB2.out.2 k1 (by have := HP.out; omega)
   have c2 := HB2.out.2 k2 (by have := HP.out; omega)
   have c3 := HB2.out.2 k3 (by have := HP.out; omega)
   generalize hq0 : p.getD k0 0 = q0 at *
   generalize hq1 : p.getD k1 0 = q1 at *
   generalize hq2 : p.getD k2 0 = q2 at *
   generalize hq3 : p.getD k3 0 = q3 at *
   have HQ : Hid (word p k = oW (oW (oW (lW 24 (w8 q0)) (lW 16 (w8 q1))) (lW 8 (w8 q2))) (w8 q3)) := Lib.hid (by rw [← hq0, ← hq1, ← hq2, ← hq3, hk0, hk1, hk2, hk3]; rfl)
   clear hq0 hq1 hq2 hq3
   have e0 : IntKind.i64.wrap (4 * (k : Int)) = (k0 : Int) := by rw [IntWalk.i64_in _ (by omega)]; omega
   have e1 : IntKind.i64.wrap ((k0 : Int) + 1) = (k1 : Int) := by rw [IntWalk.i64_in _ (by omega)]; omega
   have e2 : IntKind.i64.wrap ((k0 : Int) + 2) = (k2 : Int) := by rw [IntWalk.i64_in _ (by omega)]; omega
   have e3 : IntKind.i64.wrap ((k0 : Int) + 3) = (k3 : Int) := by rw [IntWalk.i64_in _ (by omega)]; omega
   have u0 : (k0 : Int) < 64 := by omega
   have u1 : (k1 : Int) < 64 := by omega
   have u2 : (k2 : Int) < 64 := by omega
   have u3 : (k3 : Int) < 64 := by omega
   clear hk0 hk1 hk2 hk3
   have hg := HW.out.lt
   have f1 := Lib.frozen_of_heap HW.out k
   have hwl : ((List.range k).map (word p) ++ ws.drop k).length = ws.length := by simp; omega
   obtain ⟨z0, f0⟩ : ∃ z, wr.cell? ⟨g, k, none⟩ = some z := ⟨_, HW.out.cell (by omega)⟩
   have hkl : k < n := by rw [HN0.out]; omega
   have HW2 : Hid (WordsAt (wr.setCell ⟨g, k, none⟩ (vw (oW (oW (oW (lW 24 (w8 q0)) (lW 16 (w8 q1))) (lW 8 (w8 q2))) (w8 q3)))).drew g (((List.range k).map (word p) ++ ws.drop k).set k (word p k)) t) := Lib.hid (by
    rw [← HQ.out]
    exact WordsAt.set HW.out k (word p k))
   have HK2 : Hid (Kp (· = g) w (wr.setCell ⟨g, k, none⟩ (vw (oW (oW (oW (lW 24 (w8 q0)) (lW 16 (w8 q1))) (lW 8 (w8 q2))) (w8 q3)))).drew) := Lib.hid ((HK.out.set (b := g) (.inl rfl) k _).drew 1)
   have HN := Lib.hid (words_next (word p) ws (k := k) (by omega) hl hlt)
   clear HW HK HB2 hwl
   go_upto_region 3 with fail
   generalize hw3 : wr = w3 at *
   --R0
   refine wp_region_seqT (fun W => W = w3.drew) 40 [(0, true), (1, true), (2, true), (3, true), (4, true), (5, true), (6, true), (7, true), (8, true), (9, true), (10, true), (11, true), (12, true), (13, true), (14, true), (15, true), (16, true), (17, true), (18, true), (19, true), (20, true), (21, true), (22, true), (23, true), (24, true), (25, true), (26, true), (27, true), (28, true), (29, true), (30, true), (31, true), (32, true), (33, true), (34, true), (35, true), (36, true), (37, true), (38, true), (39, true), (40, false)] (by as_aux_lemma => kernel_rfl) (by as_aux_lemma => kernel_rfl) (by as_aux_lemma => kernel_rfl) (by decide) (by as_aux_lemma => kernel_rfl) (by decide) rfl ?_
   intro OPS HO
   iterate 8
    refine seqT_take (o := ⟨_, _, _, _, _, _⟩) (v := ?_) (by rw [HO.out]; rfl) (by rfl) ?_ ?_
    rotate_left 1
    ·first | ((intro W _; go_simp) <;> with_reducible rfl) | (intro W hW; subst hW; (go_simp <;> with_reducible rfl))
    try simp only [Act.put, List.setIfInBounds_toArray, List.set_cons_zero, List.set_cons_succ]
    try simp only [n_l24, n_l16, n_l8, n_l24w, n_l16w, n_l8w, n_or, w_cv]
   refine seqT_take (o := ⟨_, _, _, _, _, _⟩) (v := ?_) (by rw [HO.out]; rfl) (by rfl) ?_ ?_
   rotate_left 1
   ·first | ((intro W _; go_simp) <;> with_reducible rfl) | (intro W hW; subst hW; (go_simp <;> with_reducible rfl))
   try simp only [Act.put, List.setIfInBounds_toArray, List.set_cons_zero, List.set_cons_succ]
   try simp only [w_cv]
   refine seqT_take (o := ⟨_, _, _, _, _, _⟩) (v := ?_) (by rw [HO.out]; rfl) (by rfl) ?_ ?_
   rotate_left 1
   ·first | ((intro W _; go_simp) <;> with_reducible rfl) | (intro W hW; subst hW; (go_simp <;> with_reducible rfl))
   try simp only [Act.put, List.setIfInBounds_toArray, List.set_cons_zero, List.set_cons_succ]
   try simp only [n_l24w]
   iterate 7
    refine seqT_take (o := ⟨_, _, _, _, _, _⟩) (v := ?_) (by rw [HO.out]; rfl) (by rfl) ?_ ?_
    rotate_left 1
    ·first | ((intro W _; go_simp) <;> with_reducible rfl) | (intro W hW; subst hW; (go_simp <;> with_reducible rfl))
    try simp only [Act.put, List.setIfInBounds_toArray, List.set_cons_zero, List.set_cons_succ]
    try simp only [n_l24, n_l16, n_l8, n_l24w, n_l16w, n_l8w, n_or, w_cv]
   refine seqT_take (o := ⟨_, _, _, _, _, _⟩) (v := ?_) (by rw [HO.out]; rfl) (by rfl) ?_ ?_
   rotate_left 1
   ·first | ((intro W _; go_simp) <;> with_reducible rfl) | (intro W hW; subst hW; (go_simp <;> with_reducible rfl))
   try simp only [Act.put, List.setIfInBounds_toArray, List.set_cons_zero, List.set_cons_succ]
   try simp only [w_cv]
   refine seqT_take (o := ⟨_, _, _, _, _, _⟩) (v := ?_) (by rw [HO.out]; rfl) (by rfl) ?_ ?_
   rotate_left 1
   ·first | ((intro W _; go_simp) <;> with_reducible rfl) | (intro W hW; subst hW; (go_simp <;> with_reducible rfl))
   try simp only [Act.put, List.setIfInBounds_toArray, List.set_cons_zero, List.set_cons_succ]
   try simp only [n_l16w]
   refine seqT_take (o := ⟨_, _, _, _, _, _⟩) (v := ?_) (by rw [HO.out]; rfl) (by rfl) ?_ ?_
   rotate_left 1
   ·first | ((intro W _; go_simp) <;> with_reducible rfl) | (intro W hW; subst hW; (go_simp <;> with_reducible rfl))
   try simp only [Act.put, List.setIfInBounds_toArray, List.set_cons_zero, List.set_cons_succ]
   try simp only [n_or]
   iterate 7
    refine seqT_take (o := ⟨_, _, _, _, _, _⟩) (v := ?_) (by rw [HO.out]; rfl) (by rfl) ?_ ?_
    rotate_left 1
    ·first | ((intro W _; go_simp) <;> with_reducible rfl) | (intro W hW; subst hW; (go_simp <;> with_reducible rfl))
    try simp only [Act.put, List.setIfInBounds_toArray, List.set_cons_zero, List.set_cons_succ]
    try simp only [n_l24, n_l16, n_l8, n_l24w, n_l16w, n_l8w, n_or, w_cv]
   refine seqT_take (o := ⟨_, _, _, _, _, _⟩) (v := ?_) (by rw [HO.out]; rfl) (by rfl) ?_ ?_
   rotate_left 1
   ·first | ((intro W _; go_simp) <;> with_reducible rfl) | (intro W hW; subst hW; (go_simp <;> with_reducible rfl))
   try simp only [Act.put, List.setIfInBounds_toArray, List.set_cons_zero, List.set_cons_succ]
   try simp only [w_cv]
   refine seqT_take (o := ⟨_, _, _, _, _, _⟩) (v := ?_) (by rw [HO.out]; rfl) (by rfl) ?_ ?_
   rotate_left 1
   ·first | ((intro W _; go_simp) <;> with_reducible rfl) | (intro W hW; subst hW; (go_simp <;> with_reducible rfl))
   try simp only [Act.put, List.setIfInBounds_toArray, List.set_cons_zero, List.set_cons_succ]
   try simp only [n_l8w]
   refine seqT_take (o := ⟨_, _, _, _, _, _⟩) (v := ?_) (by rw [HO.out]; rfl) (by rfl) ?_ ?_
   rotate_left 1
   ·first | ((intro W _; go_simp) <;> with_reducible rfl) | (intro W hW; subst hW; (go_simp <;> with_reducible rfl))
   try simp only [Act.put, List.setIfInBounds_toArray, List.set_cons_zero, List.set_cons_succ]
   try simp only [n_or]
   iterate 7
    refine seqT_take (o := ⟨_, _, _, _, _, _⟩) (v := ?_) (by rw [HO.out]; rfl) (by rfl) ?_ ?_
    rotate_left 1
    ·first | ((intro W _; go_simp) <;> with_reducible rfl) | (intro W hW; subst hW; (go_simp <;> with_reducible rfl))
    try simp only [Act.put, List.setIfInBounds_toArray, List.set_cons_zero, List.set_cons_succ]
    try simp only [n_l24, n_l16, n_l8, n_l24w, n_l16w, n_l8w, n_or, w_cv]
   refine seqT_take (o := ⟨_, _, _, _, _, _⟩) (v := ?_) (by rw [HO.out]; rfl) (by rfl) ?_ ?_
   rotate_left 1
   ·first | ((intro W _; go_simp) <;> with_reducible rfl) | (intro W hW; subst hW; (go_simp <;> with_reducible rfl))
   try simp only [Act.put, List.setIfInBounds_toArray, List.set_cons_zero, List.set_cons_succ]
   try simp only [w_cv]
   refine seqT_take (o := ⟨_, _, _, _, _, _⟩) (v := ?_) (by rw [HO.out]; rfl) (by rfl) ?_ ?_
   rotate_left 1
   ·first | ((intro W _; go_simp) <;> with_reducible rfl) | (intro W hW; subst hW; (go_simp <;> with_reducible rfl))
   try simp only [Act.put, List.setIfInBounds_toArray, List.set_cons_zero, List.set_cons_succ]
   try simp only [n_or]
   refine seqT_take (o := ⟨_, _, _, _, _, _⟩) (v := ?_) (by rw [HO.out]; rfl) (by rfl) ?_ ?_
   rotate_left 1
   ·first | ((intro W _; go_simp) <;> with_reducible rfl) | (intro W hW; subst hW; (go_simp <;> with_reducible rfl))
   try simp only [Act.put, List.setIfInBounds_toArray, List.set_cons_zero, List.set_cons_succ]
   try simp only [n_l24, n_l16, n_l8, n_l24w, n_l16w, n_l8w, n_or, w_cv]
   refine seqT_do (o := ⟨_, _, _, _, _, _⟩) (by rw [HO.out]; rfl) (by rfl) (fun K hK => ?_)
   go_wp2_with fail
   refine hK.out _ _ (fun h => absurd rfl h) ?_
   clear hK K
   try simp only [Act.put, List.setIfInBounds_toArray, List.set_cons_zero, List.set_cons_succ]
   refine seqT_done ?_
   --END0
   generalize (w3.setCell _ _).drew = w4 at *
   go_wp2_with fail
   go_roundg gk2
   case measure => omega
   case rel => exact ⟨k + 1, by omega, rfl, Lib.hid (by rw [← HN.out]; exact HW2.out), HK2⟩
  ·obtain rfl : k = 16 := by omega
   clear hk hlt
   go_wp2_with fail
   go_end0
   exact ⟨rfl, HW.out, HK.out⟩
end Go.Proofs.YtchfhojighopkaaGreatDoor
