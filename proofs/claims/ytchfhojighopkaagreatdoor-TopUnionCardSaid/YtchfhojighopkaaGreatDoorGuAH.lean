/-
  Parts of the proof: Sw4.
-/
import Derived.Test.YtchfhojighopkaaGreatDoorGuAG
namespace Wh.Sha
/-- The words of a piece, and those that are made of them (SHA-1). -/
def sch1 (p : Nat → W) (i : Nat) : W :=
 if _h : i < 16 then p i else rot 1 (sch1 p (i - 3) ^^^ sch1 p (i - 8) ^^^ sch1 p (i - 14) ^^^ sch1 p (i - 16))
termination_by i
theorem sch1_first {p : Nat → W} {i : Nat} (h : i < 16) : sch1 p i = p i := by rw [sch1, dif_pos h]
theorem sch1_next {p : Nat → W} {i : Nat} (h : 16 ≤ i) : sch1 p i = rot 1 (sch1 p (i - 3) ^^^ sch1 p (i - 8) ^^^ sch1 p (i - 14) ^^^ sch1 p (i - 16)) := by
 rw [sch1, dif_neg (by omega)]
/-- The state: five words. -/
structure S5 where
 a : W
 b : W
 c : W
 d : W
 e : W
def S5.list (v : S5) : List W := [v.a, v.b, v.c, v.d, v.e]
def f1 (i : Nat) (b c d : W) : W := if i / 20 = 0 then b &&& c ||| ~~~b &&& d else if i / 20 = 1 then b ^^^ c ^^^ d else if i / 20 = 2 then b &&& c ||| b &&& d ||| c &&& d else b ^^^ c ^^^ d
def k1 (i : Nat) : W := if i / 20 = 0 then 1518500249#32 else if i / 20 = 1 then 1859775393#32 else if i / 20 = 2 then 2400959708#32 else 3395469782#32
def S5.step (i : Nat) (x : W) (v : S5) : S5 := ⟨rot 5 v.a + f1 i v.b v.c v.d + v.e + k1 i + x, v.a, rot 30 v.b, v.c, v.d⟩
def S5.add (u v : S5) : S5 := ⟨u.a + v.a, u.b + v.b, u.c + v.c, u.d + v.d, u.e + v.e⟩
def rounds1 (X : Nat → W) : Nat → S5 → S5
 | 0, v => v
 | n + 1, v => (rounds1 X n v).step n (X n)
def comp1 (h : S5) (p : List UInt8) : S5 := h.add (rounds1 (sch1 (word p)) 80 h)
end Wh.Sha
namespace Go.Proofs.YtchfhojighopkaaGreatDoor
open Go.RowKit Wh.Sha

theorem wpList_alloc {P : Program} {w : World} {ops : Array Oper} {rest : List Oper} {o : Oper} {act : Act} {Q : Exit → Act → World → Prop} (hgd : o.guard = none) (t : TypeId) (z : Array Value) (ho : o.op = .alloc t)
  (hz : (zeroValue t).run P w = .ok (.agg z) w) (h : wpList P ops Q rest (act.put o.dst (.pointer (some ⟨w.heap.size, 0, none⟩))) (w.alloc (.cells z t))) : wpList P ops Q (o :: rest) act w :=
 wpList_plain hgd fun K hK => by
  have h1 : (Instr.alloc t true (.tuple #[])).run P w = .ok (.pointer (some ⟨w.heap.size, 0, none⟩)) (w.alloc (.cells z t)) := by
   simp [Instr.alloc, hz, newVar, newRow, Value.cells]
  have h2 : (execOp act.eval o).run P w = .ok (.value (.pointer (some ⟨w.heap.size, 0, none⟩))) (w.alloc (.cells z t)) := by
   unfold execOp
   rw [ho]
   show Sem.run P (Instr.alloc t true (.tuple #[]) >>= fun x => pure (Next.value x)) w = _
   rw [Sem.run_bind, h1]
   rfl
  unfold Oper.wp
  rw [h2]
  exact hK _ _ h

theorem grown_first1 (p : List UInt8) : (List.range 16).map (word p) ++ (List.replicate 80 (0 : W)).drop 16 = grown (sch1 (word p)) 16 80 := by
 unfold grown
 congr 1
 apply List.map_congr_left
 intro i hi
 exact (sch1_first (List.mem_range.1 hi)).symm
theorem add5_at (u v : S5) {i : Nat} (hi : i < 5) : (u.add v).list.getD i 0 = pW (u.list.getD i 0) (v.list.getD i 0) := by
 match i, hi with
 | 0, _ => rfl
 | 1, _ => rfl
 | 2, _ => rfl
 | 3, _ => rfl
 | 4, _ => rfl

set_option maxHeartbeats 8000000 in
set_option maxRecDepth 100000 in
theorem sha1_piece (b o ge : Nat) (p : List UInt8) (st : S5) (w : World) (hp : p.length = 64) (hB : BytesAt w b o p) (hE : WordsAt w ge st.list 241) (_hbg : b ≠ ge) :
  Calls Tryz.prog 275 #[.pointer (some ⟨ge, 0, none⟩), .pointer (some ⟨b, o, none⟩)] w fun e w' => e = .returned (.tuple #[]) ∧ WordsAt w' ge (comp1 st p).list 241 ∧ Kp (· = ge) w w' := by
 have HB := Lib.hid hB
 have HE := Lib.hid hE
 have HP := Lib.hid hp
 have hge0 := hE.lt
 have hbl := hB.1
 clear hB hE hp
 have hz := fun wz => (zero_of_info (P := Tryz.prog) (t := 333) (v := .agg ((List.replicate 80 (0 : W)).map vw).toArray) (n := 80) (by kernel_rfl)).1 wz
 go_enter Tryz.func275, Tryz.ntmps275
 go_upto_region 0 with fail
 apply wp_region_lit
 refine wpList_alloc rfl _ _ rfl (hz w) ?_
 clear hz
 refine wpList_nil ?_
 have HW1 : Hid (WordsAt (w.alloc (.cells ((List.replicate 80 (0 : W)).map vw).toArray 333)) w.heap.size (List.replicate 80 (0 : W)) 333) := Lib.hid (by
  unfold WordsAt BoxIs
  exact heap_alloc_new _ _)
 have HK1 : Hid (Kp (fun _ => False) w (w.alloc (.cells ((List.replicate 80 (0 : W)).map vw).toArray 333))) := Lib.hid (Kp.of (bAlloc (Below.refl _ _) _))
 have hz1 : w.heap.size < (w.alloc (.cells ((List.replicate 80 (0 : W)).map vw).toArray 333)).heap.size := HW1.out.lt
 obtain ⟨g, hg⟩ : ∃ g, g = w.heap.size := ⟨_, rfl⟩
 rw [← hg] at HW1 hz1 ⊢
 obtain ⟨w1, hw1⟩ : ∃ w1, w.alloc (.cells ((List.replicate 80 (0 : W)).map vw).toArray 333) = w1 := ⟨_, rfl⟩
 rw [hw1] at HW1 HK1 hz1 ⊢
 clear hw1
 simp only [Act.put, List.setIfInBounds_toArray, List.set_cons_zero, List.set_cons_succ]
 have hgge : g ≠ ge := by omega
 have hgb : b ≠ g := by omega
 have HG := Lib.hid hg
 have HB1 := Lib.hid (HB.out.kp HK1.out (fun e => e))
 clear hg
 go_upto_region 2 with (go_at_call 278; refine (wordsOf_any b o g 80 80 p (List.replicate 80 0) 333 w1 HP.out HB1.out HW1.out hgb (by decide) rfl).mono ?_; rintro e w2 ⟨rfl, hw2a, hw2b⟩)
 have HW2 : Hid (WordsAt w2 g (grown (sch1 (word p)) 16 80) 333) := Lib.hid (by rw [← grown_first1]; exact hw2a)
 have HK2 := Lib.hid (HK1.out.chain hw2b (fun i hi => .inr (by rw [hi, HG.out]; exact Nat.le_refl _)))
 clear hw2a hw2b HW1 HB1 HK1 hz1
 go_upto_region 3 with fail
 go_loopg [5] 64 (fun gk s5 wx => ∃ i : Nat, i + gk = 80 ∧ 16 ≤ i ∧ s5 = .int .i64 i ∧ Hid (WordsAt wx g (grown (sch1 (word p)) i 80) 333) ∧ Hid (Kp (fun _ => False) w wx))
 case atStart => exact ⟨16, by omega, by omega, rfl, HW2, HK2⟩
 case round =>
  clear HW2 HK2
  obtain ⟨i, hi, hi16, rfl, HW, HK⟩ := hrel
  by_cases hlt : i < 80
  ·obtain ⟨gk2, rfl⟩ : ∃ gk2, gk = gk2 + 1 := ⟨gk - 1, by omega⟩
   obtain ⟨j3, hj3⟩ : ∃ j, j + 3 = i := ⟨i - 3, by omega⟩
   obtain ⟨j8, hj8⟩ : ∃ j, j + 8 = i := ⟨i - 8, by omega⟩
   obtain ⟨j14, hj14⟩ : ∃ j, j + 14 = i := ⟨i - 14, by omega⟩
   obtain ⟨j16, hj16⟩ : ∃ j, j + 16 = i := ⟨i - 16, by omega⟩
   have hl := grown_len (sch1 (word p)) (i := i) (n := 80) (by omega)
   have c3 := HW.out.cell (i := j3) (by omega)
   have c8 := HW.out.cell (i := j8) (by omega)
   have c14 := HW.out.cell (i := j14) (by omega)
   have c16 := HW.out.cell (i := j16) (by omega)
   rw [grown_at _ (by omega)] at c3 c8 c14 c16
   obtain ⟨X3, hX3⟩ : ∃ X, X = sch1 (word p) j3 := ⟨_, rfl⟩
   obtain ⟨X8, hX8⟩ : ∃ X, X = sch1 (word p) j8 := ⟨_, rfl⟩
   obtain ⟨X14, hX14⟩ : ∃ X, X = sch1 (word p) j14 := ⟨_, rfl⟩
   obtain ⟨X16, hX16⟩ : ∃ X, X = sch1 (word p) j16 := ⟨_, rfl⟩
   rw [← hX3] at c3
   rw [← hX8] at c8
   rw [← hX14] at c14
   rw [← hX16] at c16
   have HX : sch1 (word p) i = rotK 1 (xW (xW (xW X3 X8) X14) X16) := by
    rw [sch1_next hi16, show i - 3 = j3 by omega, show i - 8 = j8 by omega, show i - 14 = j14 by omega, show i - 16 = j16 by omega, ← hX3, ← hX8, ← hX14, ← hX16]
    rfl
   have e3 := i64_less i j3 3 (by omega) (by omega) (by omega)
   have e8 := i64_less i j8 8 (by omega) (by omega) (by omega)
   have e14 := i64_less i j14 14 (by omega) (by omega) (by omega)
   have e16 := i64_less i j16 16 (by omega) (by omega) (by omega)
   have u3 : (j3 : Int) < 80 := by omega
   have u8 : (j8 : Int) < 80 := by omega
   have u14 : (j14 : Int) < 80 := by omega
   have u16 : (j16 : Int) < 80 := by omega
   have ui : (i : Int) < 80 := by omega
   obtain ⟨z0, f0⟩ : ∃ z, wr.cell? ⟨g, i, none⟩ = some z := ⟨_, HW.out.cell (by omega)⟩
   have fz := Lib.frozen_of_heap HW.out i
   have HW4 : Hid (WordsAt (wr.setCell ⟨g, i, none⟩ (vw (rotK 1 (xW (xW (xW X3 X8) X14) X16)))).drew g (grown (sch1 (word p)) (i + 1) 80) 333) := Lib.hid (by
    rw [← HX, ← grown_next _ hlt]
    exact WordsAt.set HW.out i _)
   have HK4 : Hid (Kp (fun _ => False) w (wr.setCell ⟨g, i, none⟩ (vw (rotK 1 (xW (xW (xW X3 X8) X14) X16)))).drew) := Lib.hid ((HK.out.set (.inr (by rw [HG.out]; exact Nat.le_refl _)) i _).drew 1)
   clear hX3 hX8 hX14 hX16 hj3 hj8 hj14 hj16 hl HX HW HK
   go_upto_region 5 with fail
   generalize hw3 : wr = w3 at *
   --R1
   refine wp_region_seq3 (fun W => W = w3.drew) 22 [(0, true), (1, true), (2, true), (3, true), (4, true), (5, true), (6, true), (7, true), (8, true), (9, true), (10, true), (11, true), (12, true), (13, true), (14, true), (15, true), (16, true), (17, true), (18, true), (19, true), (20, false), (21, true), (22, false)] (by as_aux_lemma => kernel_rfl) (by as_aux_lemma => kernel_rfl) (by as_aux_lemma => kernel_rfl) (by decide) (by as_aux_lemma => kernel_rfl) (by decide) rfl ?_
   intro OPS HO
   iterate 9
    refine seqT_take (o := ⟨_, _, _, _, _, _⟩) (v := ?_) (by rw [HO.out]; rfl) (by rfl) ?_ ?_
    rotate_left 1
    ·first | ((intro W _; go_simp) <;> with_reducible rfl) | (intro W hW; subst hW; (go_simp <;> with_reducible rfl))
    try simp only [Act.put, List.setIfInBounds_toArray, List.set_cons_zero, List.set_cons_succ]
    try simp only [n_xor, n_and, n_or, n_not, n_notm, n_add, n_addw]
   refine seqT_take (o := ⟨_, _, _, _, _, _⟩) (v := ?_) (by rw [HO.out]; rfl) (by rfl) ?_ ?_
   rotate_left 1
   ·first | ((intro W _; go_simp) <;> with_reducible rfl) | (intro W hW; subst hW; (go_simp <;> with_reducible rfl))
   try simp only [Act.put, List.setIfInBounds_toArray, List.set_cons_zero, List.set_cons_succ]
   try simp only [n_xor]
   iterate 4
    refine seqT_take (o := ⟨_, _, _, _, _, _⟩) (v := ?_) (by rw [HO.out]; rfl) (by rfl) ?_ ?_
    rotate_left 1
    ·first | ((intro W _; go_simp) <;> with_reducible rfl) | (intro W hW; subst hW; (go_simp <;> with_reducible rfl))
    try simp only [Act.put, List.setIfInBounds_toArray, List.set_cons_zero, List.set_cons_succ]
    try simp only [n_xor, n_and, n_or, n_not, n_notm, n_add, n_addw]
   refine seqT_take (o := ⟨_, _, _, _, _, _⟩) (v := ?_) (by rw [HO.out]; rfl) (by rfl) ?_ ?_
   rotate_left 1
   ·first | ((intro W _; go_simp) <;> with_reducible rfl) | (intro W hW; subst hW; (go_simp <;> with_reducible rfl))
   try simp only [Act.put, List.setIfInBounds_toArray, List.set_cons_zero, List.set_cons_succ]
   try simp only [n_xor]
   iterate 4
    refine seqT_take (o := ⟨_, _, _, _, _, _⟩) (v := ?_) (by rw [HO.out]; rfl) (by rfl) ?_ ?_
    rotate_left 1
    ·first | ((intro W _; go_simp) <;> with_reducible rfl) | (intro W hW; subst hW; (go_simp <;> with_reducible rfl))
    try simp only [Act.put, List.setIfInBounds_toArray, List.set_cons_zero, List.set_cons_succ]
    try simp only [n_xor, n_and, n_or, n_not, n_notm, n_add, n_addw]
   refine seqT_take (o := ⟨_, _, _, _, _, _⟩) (v := ?_) (by rw [HO.out]; rfl) (by rfl) ?_ ?_
   rotate_left 1
   ·first | ((intro W _; go_simp) <;> with_reducible rfl) | (intro W hW; subst hW; (go_simp <;> with_reducible rfl))
   try simp only [Act.put, List.setIfInBounds_toArray, List.set_cons_zero, List.set_cons_succ]
   try simp only [n_xor]
   refine seqT_do (o := ⟨_, _, _, _, _, _⟩) (by rw [HO.out]; rfl) (by rfl) (fun K hK => ?_)
   go_wp2_with (go_at_call 272; (with_reducible refine (rotate_any _ _ _).mono ?_); rintro e w' ⟨rfl, rfl⟩)
   refine hK.out _ _ (fun _ => rfl) ?_
   clear hK K
   try simp only [Act.put, List.setIfInBounds_toArray, List.set_cons_zero, List.set_cons_succ]
   refine seqT_take (o := ⟨_, _, _, _, _, _⟩) (v := ?_) (by rw [HO.out]; rfl) (by rfl) ?_ ?_
   rotate_left 1
   ·first | ((intro W _; go_simp) <;> with_reducible rfl) | (intro W hW; subst hW; (go_simp <;> with_reducible rfl))
   try simp only [Act.put, List.setIfInBounds_toArray, List.set_cons_zero, List.set_cons_succ]
   try simp only [n_xor, n_and, n_or, n_not, n_notm, n_add, n_addw]
   refine seqT_do (o := ⟨_, _, _, _, _, _⟩) (by rw [HO.out]; rfl) (by rfl) (fun K hK => ?_)
   go_wp2_with fail
   refine hK.out _ _ (fun h => absurd rfl h) ?_
   clear hK K
   try simp only [Act.put, List.setIfInBounds_toArray, List.set_cons_zero, List.set_cons_succ]
   refine seqT_done ?_
   --END1
   generalize (w3.setCell _ _).drew = w4 at *
   go_wp2_with fail
   go_roundg gk2
   case measure => omega
   case rel => exact ⟨i + 1, by omega, by omega, rfl, HW4, HK4⟩
  ·obtain rfl : i = 80 := by omega
   clear hi hlt hi16
   have HE2 := Lib.hid (HE.out.kp HK.out (fun e => e))
   have c0 : wr.cell? ⟨ge, 0, none⟩ = some (vw st.a) := HE2.out.cell (i := 0) (show 0 < 5 by decide)
   have c1 : wr.cell? ⟨ge, 1, none⟩ = some (vw st.b) := HE2.out.cell (i := 1) (show 1 < 5 by decide)
   have c2 : wr.cell? ⟨ge, 2, none⟩ = some (vw st.c) := HE2.out.cell (i := 2) (show 2 < 5 by decide)
   have c3 : wr.cell? ⟨ge, 3, none⟩ = some (vw st.d) := HE2.out.cell (i := 3) (show 3 < 5 by decide)
   have c4 : wr.cell? ⟨ge, 4, none⟩ = some (vw st.e) := HE2.out.cell (i := 4) (show 4 < 5 by decide)
   go_upto_region 6 with fail
   go_quiet (fail)
   have HW3 : Hid (WordsAt (wr.drewN nq) g (grown (sch1 (word p)) 80 80) 333) := Lib.hid HW.out
   have HE3 : Hid (WordsAt (wr.drewN nq) ge st.list 241) := Lib.hid HE2.out
   have HK3 : Hid (Kp (fun _ => False) w (wr.drewN nq)) := Lib.hid (HK.out.drew nq)
   clear c0 c1 c2 c3 c4 HW HE2 HK
   generalize wr.drewN nq = w5 at *
   obtain ⟨VS, hVS, hV2⟩ : ∃ VS : Array Value, (Instr.loadAt 333 (.pointer (some ⟨g, 0, none⟩))).run Tryz.prog w5 = .ok (.agg VS) w5 ∧ ∀ i, i < 80 → VS[i]? = some (vw (sch1 (word p) i)) := by
    refine ⟨_, loadAt_row HW3.out (n := 80) (e := 164) (by kernel_rfl) (by rw [grown_len _ (Nat.le_refl _)]; kernel_rfl), fun i hi => ?_⟩
    rw [List.getElem?_toArray, List.getElem?_map, List.getElem?_eq_getElem (by simp [grown]; omega)]
    simp [grown]
   have HVS := Lib.hid hV2
   have HVL := Lib.hid hVS
   clear hV2 hVS HW3
   go_upto_region 7 with fail
   apply wp_region_lit
   refine wpList_load rfl _ _ (.agg VS) rfl HVL.out ?_
   clear HVL
   go_upto_region 8 with fail
   go_loopg [72, 6, 7, 8, 9, 10] 80 (fun gk s72 s6 s7 s8 s9 s10 wx => ∃ (i : Nat) (v : S5), i + gk = 80 ∧ s72 = .int .i64 i ∧ s6 = vw v.a ∧ s7 = vw v.b ∧ s8 = vw v.c ∧ s9 = vw v.d ∧ s10 = vw v.e ∧ wx = w5 ∧ Hid (v = rounds1 (sch1 (word p)) i st))
   case atStart => exact ⟨0, st, by omega, rfl, rfl, rfl, rfl, rfl, rfl, rfl, Lib.hid rfl⟩
   case round =>
    obtain ⟨i, v, hi, rfl, rfl, rfl, rfl, rfl, rfl, rfl, HV⟩ := hrel
    by_cases hlt : i < 80
    ·obtain ⟨gk2, rfl⟩ : ∃ gk2, gk = gk2 + 1 := ⟨gk - 1, by omega⟩
     obtain ⟨x, hx⟩ : ∃ x, x = sch1 (word p) i := ⟨_, rfl⟩
     have hvs := HVS.out i hlt
     rw [← hx] at hvs
     have HNX : Hid (v.step i x = rounds1 (sch1 (word p)) (i + 1) st) := Lib.hid (by rw [HV.out, hx]; rfl)
     have hix := fun wz => index_row (P := Tryz.prog) (w := wz) (t := 333) (e := 164) (n := 80) (k := .u32) (by kernel_rfl) (by kernel_rfl) (ie := Tryz.prog.types[164]!) (by kernel_rfl) (by kernel_rfl) hlt hvs
     have ui : (i : Int) < 80 := by omega
     clear hx hvs HV
     have hq : i / 20 = 0 ∨ i / 20 = 1 ∨ i / 20 = 2 ∨ i / 20 = 3 := by omega
     rcases hq with hq | hq | hq | hq
     ·have hqi : (i : Int).tdiv 20 = 0 := by rw [Int.tdiv_eq_ediv_of_nonneg (by omega)]; omega
      have hqj : (i : Int) / 20 = 0 := by omega
      obtain ⟨kk, hkk⟩ : ∃ kk : W, kk = 1518500249#32 := ⟨_, rfl⟩
      have hk : (1518500249 : Int) = (kk.toNat : Int) := by rw [hkk]; rfl
      have HF : Hid (v.step i x = ⟨pW (pW (pW (pW (rotK 5 v.a) (oW (aW v.b v.c) (aW (nW v.b) v.d))) v.e) kk) x, v.a, rotK 30 v.b, v.c, v.d⟩) := Lib.hid (by
       rw [hkk]
       simp only [S5.step, f1, k1, hq, if_true]
       rfl)
      clear hq hkk
      go_upto_region 19 with fail
      clear hix hqi hqj
      try simp only [n_and]
      --R19a
      apply wp_region_lit
      refine wpList_val rfl (v := ?_) ?_ ?_
      rotate_left 1
      ·first | (go_simp <;> with_reducible rfl)
      try simp only [Act.put, List.setIfInBounds_toArray, List.set_cons_zero, List.set_cons_succ]
      try simp only [n_xor, n_and, n_or, n_not, n_notm, n_add, n_addw]
      refine wpList_do rfl (fun K hK => ?_)
      go_wp2_with (go_at_call 272; (with_reducible refine (rotate_any _ _ _).mono ?_); rintro e w' ⟨rfl, hw⟩; (have hw2 := hw.symm; clear hw; subst hw2))
      refine hK.out _ _ ?_
      clear hK K
      try simp only [Act.put, List.setIfInBounds_toArray, List.set_cons_zero, List.set_cons_succ]
      refine wpList_val rfl (v := ?_) ?_ ?_
      rotate_left 1
      ·first | (go_simp <;> with_reducible rfl)
      try simp only [Act.put, List.setIfInBounds_toArray, List.set_cons_zero, List.set_cons_succ]
      try simp only [n_and, n_or, n_notm]
      iterate 4
       refine wpList_val rfl (v := ?_) ?_ ?_
       rotate_left 1
       ·first | (go_simp <;> with_reducible rfl)
       try simp only [Act.put, List.setIfInBounds_toArray, List.set_cons_zero, List.set_cons_succ]
       try simp only [n_addw]
       refine wpList_val rfl (v := ?_) ?_ ?_
       rotate_left 1
       ·first | (go_simp <;> with_reducible rfl)
       try simp only [Act.put, List.setIfInBounds_toArray, List.set_cons_zero, List.set_cons_succ]
       try simp only [n_xor, n_and, n_or, n_not, n_notm, n_add, n_addw]
      refine wpList_val rfl (v := ?_) ?_ ?_
      rotate_left 1
      ·first | (go_simp <;> with_reducible rfl)
      try simp only [Act.put, List.setIfInBounds_toArray, List.set_cons_zero, List.set_cons_succ]
      try simp only [n_xor, n_and, n_or, n_not, n_notm, n_add, n_addw]
      refine wpList_do rfl (fun K hK => ?_)
      go_wp2_with (go_at_call 272; (with_reducible refine (rotate_any _ _ _).mono ?_); rintro e w' ⟨rfl, hw⟩; (have hw2 := hw.symm; clear hw; subst hw2))
      refine hK.out _ _ ?_
      clear hK K
      try simp only [Act.put, List.setIfInBounds_toArray, List.set_cons_zero, List.set_cons_succ]
      iterate 7
       refine wpList_val rfl (v := ?_) ?_ ?_
       rotate_left 1
       ·first | (go_simp <;> with_reducible rfl)
       try simp only [Act.put, List.setIfInBounds_toArray, List.set_cons_zero, List.set_cons_succ]
       try simp only [n_xor, n_and, n_or, n_not, n_notm, n_add, n_addw]
      refine wpList_nil ?_
      --END19a
      clear hk
      go_wp2_with fail
      go_roundg gk2
      case measure => omega
      case rel => exact ⟨i + 1, _, by omega, rfl, rfl, rfl, rfl, rfl, rfl, rfl, Lib.hid (HF.out.symm.trans HNX.out)⟩
     ·have hqi : (i : Int).tdiv 20 = 1 := by rw [Int.tdiv_eq_ediv_of_nonneg (by omega)]; omega
      have hqj : (i : Int) / 20 = 1 := by omega
      obtain ⟨kk, hkk⟩ : ∃ kk : W, kk = 1859775393#32 := ⟨_, rfl⟩
      have hk : (1859775393 : Int) = (kk.toNat : Int) := by rw [hkk]; rfl
      have HF : Hid (v.step i x = ⟨pW (pW (pW (pW (rotK 5 v.a) (xW (xW v.b v.c) v.d)) v.e) kk) x, v.a, rotK 30 v.b, v.c, v.d⟩) := Lib.hid (by
       rw [hkk]
       simp only [S5.step, f1, k1, hq, show ¬ (1 = 0) by decide, if_false, if_true]
       rfl)
      clear hq hkk
      go_upto_region 19 with fail
      clear hix hqi hqj
      try simp only [n_xor]
      --R19b
      apply wp_region_lit
      refine wpList_val rfl (v := ?_) ?_ ?_
      rotate_left 1
      ·first | (go_simp <;> with_reducible rfl)
      try simp only [Act.put, List.setIfInBounds_toArray, List.set_cons_zero, List.set_cons_succ]
      try simp only [n_xor, n_and, n_or, n_not, n_notm, n_add, n_addw]
      refine wpList_do rfl (fun K hK => ?_)
      go_wp2_with (go_at_call 272; (with_reducible refine (rotate_any _ _ _).mono ?_); rintro e w' ⟨rfl, hw⟩; (have hw2 := hw.symm; clear hw; subst hw2))
      refine hK.out _ _ ?_
      clear hK K
      try simp only [Act.put, List.setIfInBounds_toArray, List.set_cons_zero, List.set_cons_succ]
      iterate 4
       refine wpList_val rfl (v := ?_) ?_ ?_
       rotate_left 1
       ·first | (go_simp <;> with_reducible rfl)
       try simp only [Act.put, List.setIfInBounds_toArray, List.set_cons_zero, List.set_cons_succ]
       try simp only [n_xor, n_and, n_or, n_not, n_notm, n_add, n_addw]
       refine wpList_val rfl (v := ?_) ?_ ?_
       rotate_left 1
       ·first | (go_simp <;> with_reducible rfl)
       try simp only [Act.put, List.setIfInBounds_toArray, List.set_cons_zero, List.set_cons_succ]
       try simp only [n_addw]
      iterate 2
       refine wpList_val rfl (v := ?_) ?_ ?_
       rotate_left 1
       ·first | (go_simp <;> with_reducible rfl)
       try simp only [Act.put, List.setIfInBounds_toArray, List.set_cons_zero, List.set_cons_succ]
       try simp only [n_xor, n_and, n_or, n_not, n_notm, n_add, n_addw]
      refine wpList_do rfl (fun K hK => ?_)
      go_wp2_with (go_at_call 272; (with_reducible refine (rotate_any _ _ _).mono ?_); rintro e w' ⟨rfl, hw⟩; (have hw2 := hw.symm; clear hw; subst hw2))
      refine hK.out _ _ ?_
      clear hK K
      try simp only [Act.put, List.setIfInBounds_toArray, List.set_cons_zero, List.set_cons_succ]
      iterate 7
       refine wpList_val rfl (v := ?_) ?_ ?_
       rotate_left 1
       ·first | (go_simp <;> with_reducible rfl)
       try simp only [Act.put, List.setIfInBounds_toArray, List.set_cons_zero, List.set_cons_succ]
       try simp only [n_xor, n_and, n_or, n_not, n_notm, n_add, n_addw]
      refine wpList_nil ?_
      --END19b
      clear hk
      go_wp2_with fail
      go_roundg gk2
      case measure => omega
      case rel => exact ⟨i + 1, _, by omega, rfl, rfl, rfl, rfl, rfl, rfl, rfl, Lib.hid (HF.out.symm.trans HNX.out)⟩
     ·have hqi : (i : Int).tdiv 20 = 2 := by rw [Int.tdiv_eq_ediv_of_nonneg (by omega)]; omega
      have hqj : (i : Int) / 20 = 2 := by omega
      obtain ⟨kk, hkk⟩ : ∃ kk : W, kk = 2400959708#32 := ⟨_, rfl⟩
      have hk : (2400959708 : Int) = (kk.toNat : Int) := by rw [hkk]; rfl
      have HF : Hid (v.step i x = ⟨pW (pW (pW (pW (rotK 5 v.a) (oW (oW (aW v.b v.c) (aW v.b v.d)) (aW v.c v.d))) v.e) kk) x, v.a, rotK 30 v.b, v.c, v.d⟩) := Lib.hid (by
       rw [hkk]
       simp only [S5.step, f1, k1, hq, show ¬ (2 = 0) by decide, show ¬ (2 = 1) by decide, if_false, if_true]
       rfl)
      clear hq hkk
      go_upto_region 19 with fail
      clear hix hqi hqj
      try simp only [n_and, n_or]
      --R19c
      apply wp_region_lit
      refine wpList_val rfl (v := ?_) ?_ ?_
      rotate_left 1
      ·first | (go_simp <;> with_reducible rfl)
      try simp only [Act.put, List.setIfInBounds_toArray, List.set_cons_zero, List.set_cons_succ]
      try simp only [n_xor, n_and, n_or, n_not, n_notm, n_add, n_addw]
      refine wpList_do rfl (fun K hK => ?_)
      go_wp2_with (go_at_call 272; (with_reducible refine (rotate_any _ _ _).mono ?_); rintro e w' ⟨rfl, hw⟩; (have hw2 := hw.symm; clear hw; subst hw2))
      refine hK.out _ _ ?_
      clear hK K
      try simp only [Act.put, List.setIfInBounds_toArray, List.set_cons_zero, List.set_cons_succ]
      iterate 4
       refine wpList_val rfl (v := ?_) ?_ ?_
       rotate_left 1
       ·first | (go_simp <;> with_reducible rfl)
       try simp only [Act.put, List.setIfInBounds_toArray, List.set_cons_zero, List.set_cons_succ]
       try simp only [n_xor, n_and, n_or, n_not, n_notm, n_add, n_addw]
       refine wpList_val rfl (v := ?_) ?_ ?_
       rotate_left 1
       ·first | (go_simp <;> with_reducible rfl)
       try simp only [Act.put, List.setIfInBounds_toArray, List.set_cons_zero, List.set_cons_succ]
       try simp only [n_addw]
      iterate 2
       refine wpList_val rfl (v := ?_) ?_ ?_
       rotate_left 1
       ·first | (go_simp <;> with_reducible rfl)
       try simp only [Act.put, List.setIfInBounds_toArray, List.set_cons_zero, List.set_cons_succ]
       try simp only [n_xor, n_and, n_or, n_not, n_notm, n_add, n_addw]
      refine wpList_do rfl (fun K hK => ?_)
      go_wp2_with (go_at_call 272; (with_reducible refine (rotate_any _ _ _).mono ?_); rintro e w' ⟨rfl, hw⟩; (have hw2 := hw.symm; clear hw; subst hw2))
      refine hK.out _ _ ?_
      clear hK K
      try simp only [Act.put, List.setIfInBounds_toArray, List.set_cons_zero, List.set_cons_succ]
      iterate 7
       refine wpList_val rfl (v := ?_) ?_ ?_
       rotate_left 1
       ·first | (go_simp <;> with_reducible rfl)
       try simp only [Act.put, List.setIfInBounds_toArray, List.set_cons_zero, List.set_cons_succ]
       try simp only [n_xor, n_and, n_or, n_not, n_notm, n_add, n_addw]
      refine wpList_nil ?_
      --END19c
      clear hk
      go_wp2_with fail
      go_roundg gk2
      case measure => omega
      case rel => exact ⟨i + 1, _, by omega, rfl, rfl, rfl, rfl, rfl, rfl, rfl, Lib.hid (HF.out.symm.trans HNX.out)⟩
     ·have hqi : (i : Int).tdiv 20 = 3 := by rw [Int.tdiv_eq_ediv_of_nonneg (by omega)]; omega
      have hqj : (i : Int) / 20 = 3 := by omega
      obtain ⟨kk, hkk⟩ : ∃ kk : W, kk = 3395469782#32 := ⟨_, rfl⟩
      have hk : (3395469782 : Int) = (kk.toNat : Int) := by rw [hkk]; rfl
      have HF : Hid (v.step i x = ⟨pW (pW (pW (pW (rotK 5 v.a) (xW (xW v.b v.c) v.d)) v.e) kk) x, v.a, rotK 30 v.b, v.c, v.d⟩) := Lib.hid (by
       rw [hkk]
       simp only [S5.step, f1, k1, hq, show ¬ (3 = 0) by decide, show ¬ (3 = 1) by decide, show ¬ (3 = 2) by decide, if_false]
       rfl)
      clear hq hkk
      go_upto_region 19 with fail
      clear hix hqi hqj
      try simp only [n_xor]
      --R19d
      apply wp_region_lit
      refine wpList_val rfl (v := ?_) ?_ ?_
      rotate_left 1
      ·first | (go_simp <;> with_reducible rfl)
      try simp only [Act.put, List.setIfInBounds_toArray, List.set_cons_zero, List.set_cons_succ]
      try simp only [n_xor, n_and, n_or, n_not, n_notm, n_add, n_addw]
      refine wpList_do rfl (fun K hK => ?_)
      go_wp2_with (go_at_call 272; (with_reducible refine (rotate_any _ _ _).mono ?_); rintro e w' ⟨rfl, hw⟩; (have hw2 := hw.symm; clear hw; subst hw2))
      refine hK.out _ _ ?_
      clear hK K
      try simp only [Act.put, List.setIfInBounds_toArray, List.set_cons_zero, List.set_cons_succ]
      iterate 4
       refine wpList_val rfl (v := ?_) ?_ ?_
       rotate_left 1
       ·first | (go_simp <;> with_reducible rfl)
       try simp only [Act.put, List.setIfInBounds_toArray, List.set_cons_zero, List.set_cons_succ]
       try simp only [n_xor, n_and, n_or, n_not, n_notm, n_add, n_addw]
       refine wpList_val rfl (v := ?_) ?_ ?_
       rotate_left 1
       ·first | (go_simp <;> with_reducible rfl)
       try simp only [Act.put, List.setIfInBounds_toArray, List.set_cons_zero, List.set_cons_succ]
       try simp only [n_addw]
      iterate 2
       refine wpList_val rfl (v := ?_) ?_ ?_
       rotate_left 1
       ·first | (go_simp <;> with_reducible rfl)
       try simp only [Act.put, List.setIfInBounds_toArray, List.set_cons_zero, List.set_cons_succ]
       try simp only [n_xor, n_and, n_or, n_not, n_notm, n_add, n_addw]
      refine wpList_do rfl (fun K hK => ?_)
      go_wp2_with (go_at_call 272; (with_reducible refine (rotate_any _ _ _).mono ?_); rintro e w' ⟨rfl, hw⟩; (have hw2 := hw.symm; clear hw; subst hw2))
      refine hK.out _ _ ?_
      clear hK K
      try simp only [Act.put, List.setIfInBounds_toArray, List.set_cons_zero, List.set_cons_succ]
      iterate 7
       refine wpList_val rfl (v := ?_) ?_ ?_
       rotate_left 1
       ·first | (go_simp <;> with_reducible rfl)
       try simp only [Act.put, List.setIfInBounds_toArray, List.set_cons_zero, List.set_cons_succ]
       try simp only [n_xor, n_and, n_or, n_not, n_notm, n_add, n_addw]
      refine wpList_nil ?_
      --END19d
      clear hk
      go_wp2_with fail
      go_roundg gk2
      case measure => omega
      case rel => exact ⟨i + 1, _, by omega, rfl, rfl, rfl, rfl, rfl, rfl, rfl, Lib.hid (HF.out.symm.trans HNX.out)⟩
    ·obtain rfl : i = 80 := by omega
     clear hi hlt HVS
     have HK6 : Hid (Kp (· = ge) w wr) := Lib.hid (HK3.out.mono (fun _ e => e.elim))
     go_upto_region 22 with fail
     go_loopg [135] 5 (fun gk s135 wx => ∃ i : Nat, i + gk = 5 ∧ s135 = .int .i64 i ∧ Hid (WordsAt wx ge (mix (st.add v).list st.list i) 241) ∧ Hid (Kp (· = ge) w wx))
     case atStart => exact ⟨0, by omega, rfl, HE3, HK6⟩
     case round =>
      clear HE3 HK6 HK3
      obtain ⟨i, hi, rfl, HVV, HK⟩ := hrel
      by_cases hlt : i < 5
      ·obtain ⟨gk2, rfl⟩ : ∃ gk2, gk = gk2 + 1 := ⟨gk - 1, by omega⟩
       obtain ⟨y, hy⟩ : ∃ y, y = v.list.getD i 0 := ⟨_, rfl⟩
       obtain ⟨z, hz⟩ : ∃ z, z = st.list.getD i 0 := ⟨_, rfl⟩
       have hll : (st.add v).list.length = st.list.length := rfl
       have hl8 : st.list.length = 5 := rfl
       have hvs : ((v.list.map vw).toArray)[i]? = some (vw y) := by
        rw [hy, List.getElem?_toArray, List.getElem?_map, List.getElem?_eq_getElem (show i < v.list.length from hlt), List.getD_eq_getElem?_getD, List.getElem?_eq_getElem (show i < v.list.length from hlt)]
        rfl
       have hix : ∀ wz, (Instr.index 239 (.agg #[vw v.a, vw v.b, vw v.c, vw v.d, vw v.e]) (.int .i64 (i : Int))).run Tryz.prog wz = .ok (vw y) wz := fun wz =>
        index_row (P := Tryz.prog) (w := wz) (t := 239) (e := 164) (n := 5) (k := .u32) (by kernel_rfl) (by kernel_rfl) (ie := Tryz.prog.types[164]!) (by kernel_rfl) (by kernel_rfl) hlt hvs
       have c0 : wr.cell? ⟨ge, i, none⟩ = some (vw z) := by
        rw [hz, ← mix_at hll (by rw [hl8]; exact hlt)]
        exact HVV.out.cell (by rw [mix_len hll (by rw [hl8]; omega), hl8]; exact hlt)
       have fz := Lib.frozen_of_heap HVV.out i
       have HV2 : Hid (WordsAt (wr.setCell ⟨ge, i, none⟩ (vw (pW z y))).drew ge (mix (st.add v).list st.list (i + 1)) 241) := Lib.hid (by
        have h := HVV.out.set i ((st.add v).list.getD i 0)
        rw [mix_set hll (by rw [hl8]; exact hlt), add5_at st v hlt, ← hz, ← hy] at h
        exact h)
       have HK2 : Hid (Kp (· = ge) w (wr.setCell ⟨ge, i, none⟩ (vw (pW z y))).drew) := Lib.hid ((HK.out.set (.inl rfl) i _).drew 1)
       have ui : (i : Int) < 5 := by omega
       clear hy hz hvs hll hl8 HVV HK
       go_upto_region 24 with fail
       clear hix
       generalize hw3 : wr = w3 at *
       --R24
       refine wp_region_seq3 (fun W => W = w3.drew) 11 [(0, true), (1, true), (2, true), (3, true), (4, true), (5, true), (6, true), (7, true), (8, true), (9, true), (10, true), (11, false)] (by as_aux_lemma => kernel_rfl) (by as_aux_lemma => kernel_rfl) (by as_aux_lemma => kernel_rfl) (by decide) (by as_aux_lemma => kernel_rfl) (by decide) rfl ?_
       intro OPS HO
       iterate 7
        refine seqT_take (o := ⟨_, _, _, _, _, _⟩) (v := ?_) (by rw [HO.out]; rfl) (by rfl) ?_ ?_
        rotate_left 1
        ·first | ((intro W _; go_simp) <;> with_reducible rfl) | (intro W hW; subst hW; (go_simp <;> with_reducible rfl))
        try simp only [Act.put, List.setIfInBounds_toArray, List.set_cons_zero, List.set_cons_succ]
        try simp only [n_xor, n_and, n_or, n_not, n_notm, n_add, n_addw]
       refine seqT_take (o := ⟨_, _, _, _, _, _⟩) (v := ?_) (by rw [HO.out]; rfl) (by rfl) ?_ ?_
       rotate_left 1
       ·first | ((intro W _; go_simp) <;> with_reducible rfl) | (intro W hW; subst hW; (go_simp <;> with_reducible rfl))
       try simp only [Act.put, List.setIfInBounds_toArray, List.set_cons_zero, List.set_cons_succ]
       try simp only [n_addw]
       iterate 3
        refine seqT_take (o := ⟨_, _, _, _, _, _⟩) (v := ?_) (by rw [HO.out]; rfl) (by rfl) ?_ ?_
        rotate_left 1
        ·first | ((intro W _; go_simp) <;> with_reducible rfl) | (intro W hW; subst hW; (go_simp <;> with_reducible rfl))
        try simp only [Act.put, List.setIfInBounds_toArray, List.set_cons_zero, List.set_cons_succ]
        try simp only [n_xor, n_and, n_or, n_not, n_notm, n_add, n_addw]
       refine seqT_do (o := ⟨_, _, _, _, _, _⟩) (by rw [HO.out]; rfl) (by rfl) (fun K hK => ?_)
       go_wp2_with fail
       refine hK.out _ _ (fun h => absurd rfl h) ?_
       clear hK K
       try simp only [Act.put, List.setIfInBounds_toArray, List.set_cons_zero, List.set_cons_succ]
       refine seqT_done ?_
       --END24
       generalize (w3.setCell _ _).drew = w4 at *
       go_wp2_with fail
       go_roundg gk2
       case measure => omega
       case rel => exact ⟨i + 1, by omega, rfl, HV2, HK2⟩
      ·obtain rfl : i = 5 := by omega
       clear hi hlt
       go_wp2_with fail
       go_end0
       refine ⟨rfl, ?_, HK.out⟩
       rw [comp1, ← HV.out]
       exact HVV.out
end Go.Proofs.YtchfhojighopkaaGreatDoor
