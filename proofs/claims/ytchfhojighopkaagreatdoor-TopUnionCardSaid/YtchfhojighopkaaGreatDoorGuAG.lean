/-
  Parts of the proof: Sw3.
-/
import Derived.Deep.WholeRow
import Derived.Test.YtchfhojighopkaaGreatDoorGuAF
import Derived.Test.YtchfhojighopkaaGreatDoorGuAE
namespace Go.Proofs.YtchfhojighopkaaGreatDoor
open Go.RowKit Wh.Sha

theorem turn_any (x : W) (n : Int) (w : World) (h0 : 0 ≤ n) (h1 : n ≤ 31) : Calls Tryz.prog 284 #[vw x, .int .i64 n] w fun e w' => e = .returned (vw (rotK (-n) x)) ∧ w' = w := by
 go_enter Tryz.func284, Tryz.ntmps284
 go_wp2_with (go_at_call 272; refine (rotate_any _ _ _).mono ?_; rintro e w' ⟨rfl, hw⟩; subst hw)
 go_ret
 exact ⟨rfl, rfl⟩

/-- A block that grows word by word: the first i are right. -/
def grown (f : Nat → W) (i n : Nat) : List W := (List.range i).map f ++ List.replicate (n - i) 0
theorem grown_len (f : Nat → W) {i n : Nat} (h : i ≤ n) : (grown f i n).length = n := by simp [grown]; omega
theorem grown_at (f : Nat → W) {i j n : Nat} (h : j < i) : (grown f i n).getD j 0 = f j := by
 unfold grown
 rw [List.getD_eq_getElem?_getD, List.getElem?_append_left (by simp; omega)]
 simp [h]
theorem grown_next (f : Nat → W) {i n : Nat} (h : i < n) : (grown f i n).set i (f i) = grown f (i + 1) n := by
 unfold grown
 apply List.ext_getElem?
 intro j
 rw [List.getElem?_set]
 rcases Nat.lt_trichotomy j i with hi | hi | hi
 ·rw [if_neg (by omega), List.getElem?_append_left (by simp; omega), List.getElem?_append_left (by simp; omega)]
  simp [hi, Nat.lt_succ_of_lt hi]
 ·subst hi
  rw [if_pos rfl, if_pos (by simp; omega), List.getElem?_append_left (by simp)]
  simp
 ·rw [if_neg (by omega), List.getElem?_append_right (by simp; omega), List.getElem?_append_right (by simp; omega)]
  simp only [List.length_map, List.length_range, List.getElem?_replicate]
  congr 1
  simp only [eq_iff_iff]
  omega
theorem grown_first (p : List UInt8) : (List.range 16).map (word p) ++ (List.replicate 64 (0 : W)).drop 16 = grown (sch (word p)) 16 64 := by
 unfold grown
 congr 1
 apply List.map_congr_left
 intro i hi
 exact (sch_first (List.mem_range.1 hi)).symm

theorem i64_less (i j : Nat) (c : Int) (h : (j : Int) + c = i) (hi : i < 1000000) (hj : j ≤ i) : IntKind.i64.wrap ((i : Int) - c) = (j : Int) := by
 rw [IntWalk.i64_in _ (by omega)]
 omega

theorem loadAt_row {P : Program} {w : World} {g n : Nat} {ws : List W} {t : TypeId} (h : WordsAt w g ws t) {e : TypeId} (hu : P.underlying t = some (.array n e)) (hi : (P.info? t).map (·.size) = some ws.length) :
  (Instr.loadAt t (.pointer (some ⟨g, 0, none⟩))).run P w = .ok (.agg (ws.map vw).toArray) w := by
 simp only [Instr.loadAt, Instr.sureAddr, Sem.run_bind, Sem.run_pure, Result.andThen]
 exact run_loadVar_row _ _ t t (ws.map vw).toArray (0, 0) _ h hu rfl (by rw [hi]; simp)
theorem wpList_val {P : Program} {w : World} {ops : Array Oper} {rest : List Oper} {o : Oper} {act : Act} {Q : Exit → Act → World → Prop} {v : Value} (hgd : o.guard = none)
  (hl : (execOp act.eval o).run P w = .ok (.value v) w) (h : wpList P ops Q rest (act.put o.dst v) w) : wpList P ops Q (o :: rest) act w :=
 wpList_plain hgd fun K hK => by
  unfold Oper.wp
  rw [hl]
  exact hK _ _ h
theorem wpList_do {P : Program} {w : World} {ops : Array Oper} {rest : List Oper} {o : Oper} {act : Act} {Q : Exit → Act → World → Prop} (hgd : o.guard = none)
  (h : ∀ K : Act → World → Prop, Shut (∀ a w, wpList P ops Q rest a w → K a w) → Oper.wp P o act w K Q) : wpList P ops Q (o :: rest) act w :=
 wpList_plain hgd fun K hK => h K hK
/-- A whole row into its block. -/
theorem wpList_storeRow {P : Program} {w : World} {ops : Array Oper} {rest : List Oper} {o : Oper} {act : Act} {Q : Exit → Act → World → Prop} (hgd : o.guard = none) (t : TypeId) (p u : Operand) (ho : o.op = .store t p u) (g : Nat) (ws : List W)
  (c' : Array Value) (t' : TypeId) (hp : act.eval p = .pointer (some ⟨g, 0, none⟩)) (hu : act.eval u = .agg c') (hb : WordsAt w g ws t') (hi : (P.info? t).map (·.size) = some c'.size) (hs : (ws.map vw).toArray.size = c'.size) (h1 : c'.all (·.oneCell') = true)
  (h : ∀ w8, w8 = w.setRow g c' → wpList P ops Q rest (act.put o.dst undef) w8) : wpList P ops Q (o :: rest) act w :=
 wpList_plain hgd fun K hK => by
  have hl : (Instr.storeAt t (.pointer (some ⟨g, 0, none⟩)) (.agg c')).run P w = .ok () (w.setRow g c') := by
   simp only [Instr.storeAt, Instr.sureAddr, Sem.run_bind, Sem.run_pure, Result.andThen]
   exact run_storeVar_row _ _ t' t (ws.map vw).toArray c' hb hi hs h1
  have h2 : (execOp act.eval o).run P w = .ok .skip (w.setRow g c') := by
   unfold execOp
   rw [ho]
   show Sem.run P (Instr.storeAt t (act.eval p) (act.eval u) >>= fun _ => pure Next.skip) w = _
   rw [hp, hu, Sem.run_bind, hl]
   rfl
  unfold Oper.wp
  rw [h2]
  exact hK _ _ (h _ rfl)
theorem WordsAt.setRow {w : World} {g : Nat} {ws : List W} {t : TypeId} (h : WordsAt w g ws t) (vs : List W) : WordsAt (w.setRow g (vs.map vw).toArray) g vs t := setRow_heap _ _ _ _ _ _ h
theorem Kp.setRow {F : Nat → Prop} {w w' : World} (h : Kp F w w') {b : Nat} (hb : F b ∨ w.heap.size ≤ b) (c : Array Value) : Kp F w (w'.setRow b c) :=
 ⟨h.os, h.tape, h.output, by rw [setRow_size]; exact h.size, fun k hk hF =>
  (setRow_other _ _ _ _ (fun e => by subst e; exact hb.elim hF (fun e => by omega))).trans (h.block k hk hF)⟩
/-- A cell of a whole array. -/
theorem index_row {P : Program} {w : World} {t e : TypeId} {n i : Nat} {VS : Array Value} {v : Value} {k : IntKind} {ie : TypeInfo} (hu : P.underlying t = some (.array n e)) (he : P.underlying e = some (.int k)) (hi : P.info? e = some ie) (h1 : ie.size = 1) (hlt : i < n) (hv : VS[i]? = some v) :
  (Instr.index t (.agg VS) (.int .i64 (i : Int))).run P w = .ok v w := by
 have hlt' : (0 : Int) ≤ (i : Int) ∧ (i : Int) < (n : Int) := by omega
 simp [Instr.index, asIntOf, run_underlying hu, run_underlying he, hlt, sizeOf, typeInfo, hi, h1, part, isAgg, hv]
theorem wpList_load {P : Program} {w : World} {ops : Array Oper} {rest : List Oper} {o : Oper} {act : Act} {Q : Exit → Act → World → Prop} (hgd : o.guard = none) (t : TypeId) (p : Operand) (v : Value) (ho : o.op = .load t p)
  (hl : (Instr.loadAt t (act.eval p)).run P w = .ok v w) (h : wpList P ops Q rest (act.put o.dst v) w) : wpList P ops Q (o :: rest) act w :=
 wpList_plain hgd fun K hK => by
  have h1 : (execOp act.eval o).run P w = .ok (.value v) w := by
   unfold execOp
   rw [ho]
   show Sem.run P (Instr.loadAt t (act.eval p) >>= fun x => pure (Next.value x)) w = _
   rw [Sem.run_bind, hl]
   rfl
  unfold Oper.wp
  rw [h1]
  exact hK _ _ h

/-- The first i words of one list, then the others of another one. -/
def mix (l m : List W) (i : Nat) : List W := l.take i ++ m.drop i
theorem mix_at {l m : List W} {i : Nat} (h : l.length = m.length) (hi : i < m.length) : (mix l m i).getD i 0 = m.getD i 0 := by
 unfold mix
 rw [List.getD_eq_getElem?_getD, List.getElem?_append_right (by rw [List.length_take]; exact Nat.min_le_left _ _), List.getD_eq_getElem?_getD, List.getElem?_drop]
 congr 2
 simp
 omega
theorem mix_set {l m : List W} {i : Nat} (h : l.length = m.length) (hi : i < m.length) : (mix l m i).set i (l.getD i 0) = mix l m (i + 1) := by
 unfold mix
 apply List.ext_getElem?
 intro j
 rw [List.getElem?_set]
 rcases Nat.lt_trichotomy j i with hj | hj | hj
 ·rw [if_neg (by omega), List.getElem?_append_left (by simp; omega), List.getElem?_append_left (by simp; omega), List.getElem?_take, List.getElem?_take, if_pos hj, if_pos (by omega)]
 ·subst hj
  rw [if_pos rfl, if_pos (by simp; omega), List.getElem?_append_left (by simp; omega), List.getElem?_take, if_pos (by omega), List.getD_eq_getElem?_getD, List.getElem?_eq_getElem (by omega)]
  rfl
 ·rw [if_neg (by omega), List.getElem?_append_right (by simp; omega), List.getElem?_append_right (by simp; omega), List.getElem?_drop, List.getElem?_drop]
  congr 1
  simp
  omega
theorem mix_len {l m : List W} {i : Nat} (h : l.length = m.length) (hi : i ≤ m.length) : (mix l m i).length = m.length := by unfold mix; simp; omega
theorem add_at (u v : St) {i : Nat} (hi : i < 8) : (u.add v).list.getD i 0 = pW (u.list.getD i 0) (v.list.getD i 0) := by
 match i, hi with
 | 0, _ => rfl
 | 1, _ => rfl
 | 2, _ => rfl
 | 3, _ => rfl
 | 4, _ => rfl
 | 5, _ => rfl
 | 6, _ => rfl
 | 7, _ => rfl

set_option maxHeartbeats 8000000 in
set_option maxRecDepth 100000 in
theorem sha256_piece (b o ge : Nat) (p : List UInt8) (st : St) (tb : List W) (w : World) (hp : p.length = 64) (hB : BytesAt w b o p) (hE : WordsAt w ge st.list 245) (_hbg : b ≠ ge)
  (hT : WordsAt w 8 tb 330) (htl : tb.length = 64) (_hge : ge ≠ 8) :
  Calls Tryz.prog 281 #[.pointer (some ⟨ge, 0, none⟩), .pointer (some ⟨b, o, none⟩)] w fun e w' => e = .returned (.tuple #[]) ∧ WordsAt w' ge (st.add (rounds (fun i => tb.getD i 0) (sch (word p)) 64 st)).list 245 ∧ Kp (· = ge) w w' := by
 have HB := Lib.hid hB
 have HE := Lib.hid hE
 have HT := Lib.hid hT
 have HP := Lib.hid hp
 have HTL := Lib.hid htl
 have hge0 := hE.lt
 have hbl := hB.1
 clear hB hE hT hp htl
 go_enter Tryz.func281, Tryz.ntmps281
 go_upto_region 1 with fail
 have HW1 : Hid (WordsAt (w.alloc (.cells ((List.replicate 64 (0 : W)).map vw).toArray 330)) w.heap.size (List.replicate 64 (0 : W)) 330) := Lib.hid (by
  unfold WordsAt BoxIs
  exact heap_alloc_new _ _)
 have HK1 : Hid (Kp (fun _ => False) w (w.alloc (.cells ((List.replicate 64 (0 : W)).map vw).toArray 330))) := Lib.hid (Kp.of (bAlloc (Below.refl _ _) _))
 have hz1 : w.heap.size < (w.alloc (.cells ((List.replicate 64 (0 : W)).map vw).toArray 330)).heap.size := HW1.out.lt
 obtain ⟨g, hg⟩ : ∃ g, g = w.heap.size := ⟨_, rfl⟩
 rw [← hg] at HW1 hz1 ⊢
 change Code.wp _ _ _ _ (w.alloc (.cells ((List.replicate 64 (0 : W)).map vw).toArray 330))
 generalize w.alloc _ = w1 at *
 have hgge : g ≠ ge := by omega
 have hgb : b ≠ g := by omega
 have HG := Lib.hid hg
 have HB1 := Lib.hid (HB.out.kp HK1.out (fun e => e))
 clear hg
 go_upto_region 3 with (go_at_call 278; refine (wordsOf_any b o g 64 64 p (List.replicate 64 0) 330 w1 HP.out HB1.out HW1.out hgb (by decide) rfl).mono ?_; rintro e w2 ⟨rfl, hw2a, hw2b⟩)
 have HW2 : Hid (WordsAt w2 g (grown (sch (word p)) 16 64) 330) := Lib.hid (by rw [← grown_first]; exact hw2a)
 have HK2 := Lib.hid (HK1.out.chain hw2b (fun i hi => .inr (by rw [hi, HG.out]; exact Nat.le_refl _)))
 clear hw2a hw2b HW1 HB1 HK1 hz1
 go_upto_region 4 with fail
 go_loopg [6] 48 (fun gk s6 wx => ∃ i : Nat, i + gk = 64 ∧ 16 ≤ i ∧ s6 = .int .i64 i ∧ Hid (WordsAt wx g (grown (sch (word p)) i 64) 330) ∧ Hid (Kp (fun _ => False) w wx))
 case atStart => exact ⟨16, by omega, by omega, rfl, HW2, HK2⟩
 case round =>
  clear HW2 HK2
  obtain ⟨i, hi, hi16, rfl, HW, HK⟩ := hrel
  by_cases hlt : i < 64
  ·obtain ⟨gk2, rfl⟩ : ∃ gk2, gk = gk2 + 1 := ⟨gk - 1, by omega⟩
   obtain ⟨j2, hj2⟩ : ∃ j, j + 2 = i := ⟨i - 2, by omega⟩
   obtain ⟨j7, hj7⟩ : ∃ j, j + 7 = i := ⟨i - 7, by omega⟩
   obtain ⟨j15, hj15⟩ : ∃ j, j + 15 = i := ⟨i - 15, by omega⟩
   obtain ⟨j16, hj16⟩ : ∃ j, j + 16 = i := ⟨i - 16, by omega⟩
   have hl := grown_len (sch (word p)) (i := i) (n := 64) (by omega)
   have c2 := HW.out.cell (i := j2) (by omega)
   have c7 := HW.out.cell (i := j7) (by omega)
   have c15 := HW.out.cell (i := j15) (by omega)
   have c16 := HW.out.cell (i := j16) (by omega)
   rw [grown_at _ (by omega)] at c2 c7 c15 c16
   obtain ⟨X2, hX2⟩ : ∃ X, X = sch (word p) j2 := ⟨_, rfl⟩
   obtain ⟨X7, hX7⟩ : ∃ X, X = sch (word p) j7 := ⟨_, rfl⟩
   obtain ⟨X15, hX15⟩ : ∃ X, X = sch (word p) j15 := ⟨_, rfl⟩
   obtain ⟨X16, hX16⟩ : ∃ X, X = sch (word p) j16 := ⟨_, rfl⟩
   rw [← hX2] at c2
   rw [← hX7] at c7
   rw [← hX15] at c15
   rw [← hX16] at c16
   have HX : Hid (sch (word p) i = pW (pW (pW X16 (xW (xW (rotK (-7) X15) (rotK (-18) X15)) (rW 3 X15))) X7) (xW (xW (rotK (-17) X2) (rotK (-19) X2)) (rW 10 X2))) := Lib.hid (by
    rw [sch_next hi16, show i - 16 = j16 by omega, show i - 15 = j15 by omega, show i - 7 = j7 by omega, show i - 2 = j2 by omega, ← hX2, ← hX7, ← hX15, ← hX16]
    rfl)
   have e2 := i64_less i j2 2 (by omega) (by omega) (by omega)
   have e7 := i64_less i j7 7 (by omega) (by omega) (by omega)
   have e15 := i64_less i j15 15 (by omega) (by omega) (by omega)
   have e16 := i64_less i j16 16 (by omega) (by omega) (by omega)
   have u2 : (j2 : Int) < 64 := by omega
   have u7 : (j7 : Int) < 64 := by omega
   have u15 : (j15 : Int) < 64 := by omega
   have u16 : (j16 : Int) < 64 := by omega
   have ui : (i : Int) < 64 := by omega
   have l7 : j7 < i := by omega
   have l16 : j16 < i := by omega
   obtain ⟨z0, f0⟩ : ∃ z, wr.cell? ⟨g, i, none⟩ = some z := ⟨_, HW.out.cell (by omega)⟩
   have f1 := Lib.frozen_of_heap HW.out i
   have HX7 := Lib.hid hX7
   have HX16 := Lib.hid hX16
   clear hX2 hX7 hX15 hX16 hj2 hj7 hj15 hj16 hl
   go_upto_region 6 with fail
   go_quiet (fail)
   have HW3 : Hid (WordsAt (wr.drewN nq) g (grown (sch (word p)) i 64) 330) := Lib.hid HW.out
   have HK3 : Hid (Kp (fun _ => False) w (wr.drewN nq)) := Lib.hid (HK.out.drew nq)
   clear c2 c7 c15 c16 f0 f1 HW HK
   generalize wr.drewN nq = w3 at *
   have c7 := HW3.out.cell (i := j7) (by rw [grown_len _ (by omega)]; omega)
   have c16 := HW3.out.cell (i := j16) (by rw [grown_len _ (by omega)]; omega)
   rw [grown_at _ (by omega)] at c7 c16
   rw [← HX7.out] at c7
   rw [← HX16.out] at c16
   obtain ⟨z0, f0⟩ : ∃ z, w3.cell? ⟨g, i, none⟩ = some z := ⟨_, HW3.out.cell (by rw [grown_len _ (by omega)]; omega)⟩
   have f1 := Lib.frozen_of_heap HW3.out i
   have HW4 : Hid (WordsAt (w3.setCell ⟨g, i, none⟩ (vw (pW (pW (pW X16 (xW (xW (rotK (-7) X15) (rotK (-18) X15)) (rW 3 X15))) X7) (xW (xW (rotK (-17) X2) (rotK (-19) X2)) (rW 10 X2))))).drew g (grown (sch (word p)) (i + 1) 64) 330) := Lib.hid (by
    rw [← HX.out, ← grown_next _ hlt]
    exact WordsAt.set HW3.out i _)
   have HK4 : Hid (Kp (fun _ => False) w (w3.setCell ⟨g, i, none⟩ (vw (pW (pW (pW X16 (xW (xW (rotK (-7) X15) (rotK (-18) X15)) (rW 3 X15))) X7) (xW (xW (rotK (-17) X2) (rotK (-19) X2)) (rW 10 X2))))).drew) := Lib.hid ((HK3.out.set (.inr (by rw [HG.out]; exact Nat.le_refl _)) i _).drew 1)
   clear HX
   go_upto_region 7 with fail
   --R1
   refine wp_region_seqT (fun W => W = w3.drew) 33 [(0, true), (1, true), (2, true), (3, true), (4, true), (5, true), (6, true), (8, true), (9, true), (12, true), (13, true), (16, true), (17, true), (18, true), (19, true), (21, true), (22, true), (24, true), (25, true), (28, true), (29, true), (7, false), (10, false), (11, true), (14, true), (15, true), (20, true), (23, false), (26, false), (27, true), (30, true), (31, true), (32, true), (33, false)] (by as_aux_lemma => kernel_rfl) (by as_aux_lemma => kernel_rfl) (by as_aux_lemma => kernel_rfl) (by decide) (by as_aux_lemma => kernel_rfl) (by decide) rfl ?_
   intro OPS HO
   iterate 10
    refine seqT_take (o := ⟨_, _, _, _, _, _⟩) (v := ?_) (by rw [HO.out]; rfl) (by rfl) ?_ ?_
    rotate_left 1
    ·first | ((intro W _; go_simp) <;> with_reducible rfl) | (intro W hW; subst hW; (go_simp <;> with_reducible rfl))
    try simp only [Act.put, List.setIfInBounds_toArray, List.set_cons_zero, List.set_cons_succ]
    try simp only [n_xor, n_and, n_or, n_not, n_notm, n_add, n_addw, n_r3, n_r10]
   refine seqT_take (o := ⟨_, _, _, _, _, _⟩) (v := ?_) (by rw [HO.out]; rfl) (by rfl) ?_ ?_
   rotate_left 1
   ·first | ((intro W _; go_simp) <;> with_reducible rfl) | (intro W hW; subst hW; (go_simp <;> with_reducible rfl))
   try simp only [Act.put, List.setIfInBounds_toArray, List.set_cons_zero, List.set_cons_succ]
   try simp only [n_r3]
   iterate 9
    refine seqT_take (o := ⟨_, _, _, _, _, _⟩) (v := ?_) (by rw [HO.out]; rfl) (by rfl) ?_ ?_
    rotate_left 1
    ·first | ((intro W _; go_simp) <;> with_reducible rfl) | (intro W hW; subst hW; (go_simp <;> with_reducible rfl))
    try simp only [Act.put, List.setIfInBounds_toArray, List.set_cons_zero, List.set_cons_succ]
    try simp only [n_xor, n_and, n_or, n_not, n_notm, n_add, n_addw, n_r3, n_r10]
   refine seqT_take (o := ⟨_, _, _, _, _, _⟩) (v := ?_) (by rw [HO.out]; rfl) (by rfl) ?_ ?_
   rotate_left 1
   ·first | ((intro W _; go_simp) <;> with_reducible rfl) | (intro W hW; subst hW; (go_simp <;> with_reducible rfl))
   try simp only [Act.put, List.setIfInBounds_toArray, List.set_cons_zero, List.set_cons_succ]
   try simp only [n_r10]
   iterate 2
    refine seqT_do (o := ⟨_, _, _, _, _, _⟩) (by rw [HO.out]; rfl) (by rfl) (fun K hK => ?_)
    go_wp2_with (go_at_call 284; (with_reducible refine (turn_any _ _ _ (by decide) (by decide)).mono ?_); rintro e w' ⟨rfl, rfl⟩)
    refine hK.out _ _ (fun _ => rfl) ?_
    clear hK K
    try simp only [Act.put, List.setIfInBounds_toArray, List.set_cons_zero, List.set_cons_succ]
   iterate 2
    refine seqT_take (o := ⟨_, _, _, _, _, _⟩) (v := ?_) (by rw [HO.out]; rfl) (by rfl) ?_ ?_
    rotate_left 1
    ·first | ((intro W _; go_simp) <;> with_reducible rfl) | (intro W hW; subst hW; (go_simp <;> with_reducible rfl))
    try simp only [Act.put, List.setIfInBounds_toArray, List.set_cons_zero, List.set_cons_succ]
    try simp only [n_xor]
   iterate 2
    refine seqT_take (o := ⟨_, _, _, _, _, _⟩) (v := ?_) (by rw [HO.out]; rfl) (by rfl) ?_ ?_
    rotate_left 1
    ·first | ((intro W _; go_simp) <;> with_reducible rfl) | (intro W hW; subst hW; (go_simp <;> with_reducible rfl))
    try simp only [Act.put, List.setIfInBounds_toArray, List.set_cons_zero, List.set_cons_succ]
    try simp only [n_addw]
   iterate 2
    refine seqT_do (o := ⟨_, _, _, _, _, _⟩) (by rw [HO.out]; rfl) (by rfl) (fun K hK => ?_)
    go_wp2_with (go_at_call 284; (with_reducible refine (turn_any _ _ _ (by decide) (by decide)).mono ?_); rintro e w' ⟨rfl, rfl⟩)
    refine hK.out _ _ (fun _ => rfl) ?_
    clear hK K
    try simp only [Act.put, List.setIfInBounds_toArray, List.set_cons_zero, List.set_cons_succ]
   iterate 2
    refine seqT_take (o := ⟨_, _, _, _, _, _⟩) (v := ?_) (by rw [HO.out]; rfl) (by rfl) ?_ ?_
    rotate_left 1
    ·first | ((intro W _; go_simp) <;> with_reducible rfl) | (intro W hW; subst hW; (go_simp <;> with_reducible rfl))
    try simp only [Act.put, List.setIfInBounds_toArray, List.set_cons_zero, List.set_cons_succ]
    try simp only [n_xor]
   refine seqT_take (o := ⟨_, _, _, _, _, _⟩) (v := ?_) (by rw [HO.out]; rfl) (by rfl) ?_ ?_
   rotate_left 1
   ·first | ((intro W _; go_simp) <;> with_reducible rfl) | (intro W hW; subst hW; (go_simp <;> with_reducible rfl))
   try simp only [Act.put, List.setIfInBounds_toArray, List.set_cons_zero, List.set_cons_succ]
   try simp only [n_addw]
   refine seqT_take (o := ⟨_, _, _, _, _, _⟩) (v := ?_) (by rw [HO.out]; rfl) (by rfl) ?_ ?_
   rotate_left 1
   ·first | ((intro W _; go_simp) <;> with_reducible rfl) | (intro W hW; subst hW; (go_simp <;> with_reducible rfl))
   try simp only [Act.put, List.setIfInBounds_toArray, List.set_cons_zero, List.set_cons_succ]
   try simp only [n_xor, n_and, n_or, n_not, n_notm, n_add, n_addw, n_r3, n_r10]
   refine seqT_do (o := ⟨_, _, _, _, _, _⟩) (by rw [HO.out]; rfl) (by rfl) (fun K hK => ?_)
   go_wp2_with fail
   refine hK.out _ _ (fun h => absurd rfl h) ?_
   clear hK K
   try simp only [Act.put, List.setIfInBounds_toArray, List.set_cons_zero, List.set_cons_succ]
   refine seqT_done ?_
   --END1
   generalize (w3.setCell _ _).drew = w4 at *
   go_wp2_with fail
   go_roundg gk2
   case measure => omega
   case rel => exact ⟨i + 1, by omega, by omega, rfl, HW4, HK4⟩
  ·obtain rfl : i = 64 := by omega
   clear hi hlt hi16
   have HE2 := Lib.hid (HE.out.kp HK.out (fun e => e))
   have c0 : wr.cell? ⟨ge, 0, none⟩ = some (vw st.a) := HE2.out.cell (i := 0) (show 0 < 8 by decide)
   have c1 : wr.cell? ⟨ge, 1, none⟩ = some (vw st.b) := HE2.out.cell (i := 1) (show 1 < 8 by decide)
   have c2 : wr.cell? ⟨ge, 2, none⟩ = some (vw st.c) := HE2.out.cell (i := 2) (show 2 < 8 by decide)
   have c3 : wr.cell? ⟨ge, 3, none⟩ = some (vw st.d) := HE2.out.cell (i := 3) (show 3 < 8 by decide)
   have c4 : wr.cell? ⟨ge, 4, none⟩ = some (vw st.e) := HE2.out.cell (i := 4) (show 4 < 8 by decide)
   have c5 : wr.cell? ⟨ge, 5, none⟩ = some (vw st.f) := HE2.out.cell (i := 5) (show 5 < 8 by decide)
   have c6 : wr.cell? ⟨ge, 6, none⟩ = some (vw st.g) := HE2.out.cell (i := 6) (show 6 < 8 by decide)
   have c7 : wr.cell? ⟨ge, 7, none⟩ = some (vw st.h) := HE2.out.cell (i := 7) (show 7 < 8 by decide)
   go_upto_region 9 with fail
   have HV : Hid (WordsAt (wr.alloc (.cells (st.list.map vw).toArray 243)) wr.heap.size st.list 243) := Lib.hid (by
    unfold WordsAt BoxIs
    exact heap_alloc_new _ _)
   have hb5 : Below wr.heap.size wr (wr.alloc (.cells (st.list.map vw).toArray 243)) := bAlloc (Below.refl _ _) _
   have HW5 := Lib.hid (HW.out.kp (Kp.of (F := fun _ => False) hb5) (fun e => e))
   have HE5 := Lib.hid (HE2.out.kp (Kp.of (F := fun _ => False) hb5) (fun e => e))
   have HK5 := Lib.hid (HK.out.trans (Kp.of hb5))
   have hgw := HW.out.lt
   have hgew := HE2.out.lt
   obtain ⟨gv, hgv⟩ : ∃ gv, gv = wr.heap.size := ⟨_, rfl⟩
   rw [← hgv] at HV hgw hgew ⊢
   have HGV : Hid (w.heap.size ≤ gv) := Lib.hid (by rw [hgv]; exact HK.out.size)
   change Code.wp _ _ _ _ (wr.alloc (.cells (st.list.map vw).toArray 243))
   clear c0 c1 c2 c3 c4 c5 c6 c7 HW HE2 HK hb5 hgv
   generalize wr.alloc _ = w5 at *
   obtain ⟨VS, hVS, hV2⟩ : ∃ VS : Array Value, (Instr.loadAt 330 (.pointer (some ⟨g, 0, none⟩))).run Tryz.prog w5 = .ok (.agg VS) w5 ∧ ∀ i, i < 64 → VS[i]? = some (vw (sch (word p) i)) := by
    refine ⟨_, loadAt_row HW5.out (n := 64) (e := 164) (by kernel_rfl) (by rw [grown_len _ (Nat.le_refl _)]; kernel_rfl), fun i hi => ?_⟩
    rw [List.getElem?_toArray, List.getElem?_map, List.getElem?_eq_getElem (by simp [grown]; omega)]
    simp [grown]
   have HVS := Lib.hid hV2
   have HVL := Lib.hid hVS
   clear hV2 hVS
   apply wp_region_lit
   refine wpList_load rfl _ _ (.agg VS) rfl HVL.out ?_
   clear HVL
   go_upto_region 10 with fail
   go_loopg [76] 64 (fun gk s76 wx => ∃ i : Nat, i + gk = 64 ∧ s76 = .int .i64 i ∧ Hid (WordsAt wx gv (rounds (fun i => tb.getD i 0) (sch (word p)) i st).list 243) ∧ Hid (Kp (fun k => k = gv) w5 wx))
   case atStart => exact ⟨0, by omega, rfl, HV, Lib.hid (Kp.refl _ _)⟩
   case round =>
    clear HV
    obtain ⟨i, hi, rfl, HV, HKv⟩ := hrel
    by_cases hlt : i < 64
    ·obtain ⟨gk2, rfl⟩ : ∃ gk2, gk = gk2 + 1 := ⟨gk - 1, by omega⟩
     obtain ⟨v, hv⟩ : ∃ v, v = rounds (fun i => tb.getD i 0) (sch (word p)) i st := ⟨_, rfl⟩
     rw [← hv] at HV
     obtain ⟨x, hx⟩ : ∃ x, x = sch (word p) i := ⟨_, rfl⟩
     have hvs := HVS.out i hlt
     rw [← hx] at hvs
     obtain ⟨tk, htk⟩ : ∃ tk, tk = tb.getD i 0 := ⟨_, rfl⟩
     have HNX : Hid (rounds (fun i => tb.getD i 0) (sch (word p)) (i + 1) st = v.step tk x) := Lib.hid (by rw [hv, htk, hx]; rfl)
     have hix := fun W => index_row (P := Tryz.prog) (w := W) (t := 330) (e := 164) (n := 64) (k := .u32) (by kernel_rfl) (by kernel_rfl) (ie := Tryz.prog.types[164]!) (by kernel_rfl) (by kernel_rfl) hlt hvs
     clear hv hx hvs
     have ui : (i : Int) < 64 := by omega
     have c0 : wr.cell? ⟨gv, 0, none⟩ = some (vw v.a) := HV.out.cell (i := 0) (show 0 < 8 by decide)
     have c1 : wr.cell? ⟨gv, 1, none⟩ = some (vw v.b) := HV.out.cell (i := 1) (show 1 < 8 by decide)
     have c2 : wr.cell? ⟨gv, 2, none⟩ = some (vw v.c) := HV.out.cell (i := 2) (show 2 < 8 by decide)
     have c4 : wr.cell? ⟨gv, 4, none⟩ = some (vw v.e) := HV.out.cell (i := 4) (show 4 < 8 by decide)
     have c5 : wr.cell? ⟨gv, 5, none⟩ = some (vw v.f) := HV.out.cell (i := 5) (show 5 < 8 by decide)
     have c6 : wr.cell? ⟨gv, 6, none⟩ = some (vw v.g) := HV.out.cell (i := 6) (show 6 < 8 by decide)
     have c7 : wr.cell? ⟨gv, 7, none⟩ = some (vw v.h) := HV.out.cell (i := 7) (show 7 < 8 by decide)
     go_upto_region 12 with fail
     go_quiet (fail)
     have HV6 : Hid (WordsAt (wr.drewN nq) gv v.list 243) := Lib.hid HV.out
     have HK6 : Hid (Kp (fun k => k = gv) w5 (wr.drewN nq)) := Lib.hid (HKv.out.drew nq)
     clear c0 c1 c2 c4 c5 c6 c7 HV HKv hix
     generalize wr.drewN nq = w6 at *
     have ct : w6.cell? ⟨8, i, none⟩ = some (vw tk) := by
      have h5 := HT.out.kp HK5.out (fun e => e)
      have h6 := h5.kp HK6.out (fun e => by have := HGV.out; have := HT.out.lt; omega)
      rw [htk]
      exact h6.cell (by rw [HTL.out]; exact hlt)
     clear htk
     go_upto_region 13 with fail
     --R13
     refine wp_region_seqT (fun W => W = w6.drew) 28 [(0, true), (1, true), (2, true), (4, true), (5, true), (8, true), (9, true), (13, true), (14, true), (15, true), (16, true), (17, true), (18, true), (19, true), (20, true), (22, true), (23, true), (24, true), (26, true), (3, false), (6, false), (7, true), (10, false), (11, true), (12, true), (21, true), (25, true), (27, true), (28, true)] (by as_aux_lemma => kernel_rfl) (by as_aux_lemma => kernel_rfl) (by as_aux_lemma => kernel_rfl) (by decide) (by as_aux_lemma => kernel_rfl) (by decide) rfl ?_
     intro OPS HO
     iterate 9
      refine seqT_take (o := ⟨_, _, _, _, _, _⟩) (v := ?_) (by rw [HO.out]; rfl) (by rfl) ?_ ?_
      rotate_left 1
      ·first | ((intro W _; go_simp) <;> with_reducible rfl) | (intro W hW; subst hW; (go_simp <;> with_reducible rfl))
      try simp only [Act.put, List.setIfInBounds_toArray, List.set_cons_zero, List.set_cons_succ]
      try simp only [n_xor, n_and, n_or, n_not, n_notm, n_add, n_addw, n_r3, n_r10]
     refine seqT_take (o := ⟨_, _, _, _, _, _⟩) (v := ?_) (by rw [HO.out]; rfl) (by rfl) ?_ ?_
     rotate_left 1
     ·first | ((intro W _; go_simp) <;> with_reducible rfl) | (intro W hW; subst hW; (go_simp <;> with_reducible rfl))
     try simp only [Act.put, List.setIfInBounds_toArray, List.set_cons_zero, List.set_cons_succ]
     try simp only [n_and]
     iterate 9
      refine seqT_take (o := ⟨_, _, _, _, _, _⟩) (v := ?_) (by rw [HO.out]; rfl) (by rfl) ?_ ?_
      rotate_left 1
      ·first | ((intro W _; go_simp) <;> with_reducible rfl) | (intro W hW; subst hW; (go_simp <;> with_reducible rfl))
      try simp only [Act.put, List.setIfInBounds_toArray, List.set_cons_zero, List.set_cons_succ]
      try simp only [n_xor, n_and, n_or, n_not, n_notm, n_add, n_addw, n_r3, n_r10]
     iterate 2
      refine seqT_do (o := ⟨_, _, _, _, _, _⟩) (by rw [HO.out]; rfl) (by rfl) (fun K hK => ?_)
      go_wp2_with (go_at_call 284; (with_reducible refine (turn_any _ _ _ (by decide) (by decide)).mono ?_); rintro e w' ⟨rfl, rfl⟩)
      refine hK.out _ _ (fun _ => rfl) ?_
      clear hK K
      try simp only [Act.put, List.setIfInBounds_toArray, List.set_cons_zero, List.set_cons_succ]
     refine seqT_take (o := ⟨_, _, _, _, _, _⟩) (v := ?_) (by rw [HO.out]; rfl) (by rfl) ?_ ?_
     rotate_left 1
     ·first | ((intro W _; go_simp) <;> with_reducible rfl) | (intro W hW; subst hW; (go_simp <;> with_reducible rfl))
     try simp only [Act.put, List.setIfInBounds_toArray, List.set_cons_zero, List.set_cons_succ]
     try simp only [n_xor, n_and, n_notm]
     refine seqT_do (o := ⟨_, _, _, _, _, _⟩) (by rw [HO.out]; rfl) (by rfl) (fun K hK => ?_)
     go_wp2_with (go_at_call 284; (with_reducible refine (turn_any _ _ _ (by decide) (by decide)).mono ?_); rintro e w' ⟨rfl, rfl⟩)
     refine hK.out _ _ (fun _ => rfl) ?_
     clear hK K
     try simp only [Act.put, List.setIfInBounds_toArray, List.set_cons_zero, List.set_cons_succ]
     refine seqT_take (o := ⟨_, _, _, _, _, _⟩) (v := ?_) (by rw [HO.out]; rfl) (by rfl) ?_ ?_
     rotate_left 1
     ·first | ((intro W _; go_simp) <;> with_reducible rfl) | (intro W hW; subst hW; (go_simp <;> with_reducible rfl))
     try simp only [Act.put, List.setIfInBounds_toArray, List.set_cons_zero, List.set_cons_succ]
     try simp only [n_xor]
     iterate 4
      refine seqT_take (o := ⟨_, _, _, _, _, _⟩) (v := ?_) (by rw [HO.out]; rfl) (by rfl) ?_ ?_
      rotate_left 1
      ·first | ((intro W _; go_simp) <;> with_reducible rfl) | (intro W hW; subst hW; (go_simp <;> with_reducible rfl))
      try simp only [Act.put, List.setIfInBounds_toArray, List.set_cons_zero, List.set_cons_succ]
      try simp only [n_addw]
     refine seqT_take (o := ⟨_, _, _, _, _, _⟩) (v := ?_) (by rw [HO.out]; rfl) (by rfl) ?_ ?_
     rotate_left 1
     ·first | ((intro W _; go_simp) <;> with_reducible rfl) | (intro W hW; subst hW; (go_simp <;> with_reducible rfl))
     try simp only [Act.put, List.setIfInBounds_toArray, List.set_cons_zero, List.set_cons_succ]
     try simp only [n_xor, n_and, n_or, n_not, n_notm, n_add, n_addw, n_r3, n_r10]
     refine seqT_done ?_
     --END13
     have HV7 : Hid (WordsAt w6.drew gv v.list 243) := Lib.hid HV6.out
     have HK7 : Hid (Kp (fun k => k = gv) w5 w6.drew) := Lib.hid (HK6.out.drew 1)
     clear ct HV6 HK6
     generalize w6.drew = w7 at *
     have c3 : w7.cell? ⟨gv, 3, none⟩ = some (vw v.d) := HV7.out.cell (i := 3) (show 3 < 8 by decide)
     go_upto_region 14 with fail
     --R14
     apply wp_region_lit
     iterate 2
      refine wpList_val rfl (v := ?_) ?_ ?_
      rotate_left 1
      ·first | (go_simp <;> with_reducible rfl)
      try simp only [Act.put, List.setIfInBounds_toArray, List.set_cons_zero, List.set_cons_succ]
      try simp only [n_xor, n_and, n_or, n_not, n_notm, n_add, n_addw, n_r3, n_r10]
     refine wpList_do rfl (fun K hK => ?_)
     go_wp2_with (go_at_call 284; (with_reducible refine (turn_any _ _ _ (by decide) (by decide)).mono ?_); rintro e w' ⟨rfl, hw⟩; (have hw2 := hw.symm; clear hw; subst hw2))
     refine hK.out _ _ ?_
     clear hK K
     try simp only [Act.put, List.setIfInBounds_toArray, List.set_cons_zero, List.set_cons_succ]
     iterate 2
      refine wpList_val rfl (v := ?_) ?_ ?_
      rotate_left 1
      ·first | (go_simp <;> with_reducible rfl)
      try simp only [Act.put, List.setIfInBounds_toArray, List.set_cons_zero, List.set_cons_succ]
      try simp only [n_xor, n_and, n_or, n_not, n_notm, n_add, n_addw, n_r3, n_r10]
     refine wpList_do rfl (fun K hK => ?_)
     go_wp2_with (go_at_call 284; (with_reducible refine (turn_any _ _ _ (by decide) (by decide)).mono ?_); rintro e w' ⟨rfl, hw⟩; (have hw2 := hw.symm; clear hw; subst hw2))
     refine hK.out _ _ ?_
     clear hK K
     try simp only [Act.put, List.setIfInBounds_toArray, List.set_cons_zero, List.set_cons_succ]
     refine wpList_val rfl (v := ?_) ?_ ?_
     rotate_left 1
     ·first | (go_simp <;> with_reducible rfl)
     try simp only [Act.put, List.setIfInBounds_toArray, List.set_cons_zero, List.set_cons_succ]
     try simp only [n_xor]
     iterate 2
      refine wpList_val rfl (v := ?_) ?_ ?_
      rotate_left 1
      ·first | (go_simp <;> with_reducible rfl)
      try simp only [Act.put, List.setIfInBounds_toArray, List.set_cons_zero, List.set_cons_succ]
      try simp only [n_xor, n_and, n_or, n_not, n_notm, n_add, n_addw, n_r3, n_r10]
     refine wpList_do rfl (fun K hK => ?_)
     go_wp2_with (go_at_call 284; (with_reducible refine (turn_any _ _ _ (by decide) (by decide)).mono ?_); rintro e w' ⟨rfl, hw⟩; (have hw2 := hw.symm; clear hw; subst hw2))
     refine hK.out _ _ ?_
     clear hK K
     try simp only [Act.put, List.setIfInBounds_toArray, List.set_cons_zero, List.set_cons_succ]
     refine wpList_val rfl (v := ?_) ?_ ?_
     rotate_left 1
     ·first | (go_simp <;> with_reducible rfl)
     try simp only [Act.put, List.setIfInBounds_toArray, List.set_cons_zero, List.set_cons_succ]
     try simp only [n_xor]
     iterate 2
      refine wpList_val rfl (v := ?_) ?_ ?_
      rotate_left 1
      ·first | (go_simp <;> with_reducible rfl)
      try simp only [Act.put, List.setIfInBounds_toArray, List.set_cons_zero, List.set_cons_succ]
      try simp only [n_xor, n_and, n_or, n_not, n_notm, n_add, n_addw, n_r3, n_r10]
     refine wpList_val rfl (v := ?_) ?_ ?_
     rotate_left 1
     ·first | (go_simp <;> with_reducible rfl)
     try simp only [Act.put, List.setIfInBounds_toArray, List.set_cons_zero, List.set_cons_succ]
     try simp only [n_and]
     iterate 2
      refine wpList_val rfl (v := ?_) ?_ ?_
      rotate_left 1
      ·first | (go_simp <;> with_reducible rfl)
      try simp only [Act.put, List.setIfInBounds_toArray, List.set_cons_zero, List.set_cons_succ]
      try simp only [n_xor, n_and, n_or, n_not, n_notm, n_add, n_addw, n_r3, n_r10]
     refine wpList_val rfl (v := ?_) ?_ ?_
     rotate_left 1
     ·first | (go_simp <;> with_reducible rfl)
     try simp only [Act.put, List.setIfInBounds_toArray, List.set_cons_zero, List.set_cons_succ]
     try simp only [n_and]
     refine wpList_val rfl (v := ?_) ?_ ?_
     rotate_left 1
     ·first | (go_simp <;> with_reducible rfl)
     try simp only [Act.put, List.setIfInBounds_toArray, List.set_cons_zero, List.set_cons_succ]
     try simp only [n_xor]
     iterate 2
      refine wpList_val rfl (v := ?_) ?_ ?_
      rotate_left 1
      ·first | (go_simp <;> with_reducible rfl)
      try simp only [Act.put, List.setIfInBounds_toArray, List.set_cons_zero, List.set_cons_succ]
      try simp only [n_xor, n_and, n_or, n_not, n_notm, n_add, n_addw, n_r3, n_r10]
     refine wpList_val rfl (v := ?_) ?_ ?_
     rotate_left 1
     ·first | (go_simp <;> with_reducible rfl)
     try simp only [Act.put, List.setIfInBounds_toArray, List.set_cons_zero, List.set_cons_succ]
     try simp only [n_and]
     refine wpList_val rfl (v := ?_) ?_ ?_
     rotate_left 1
     ·first | (go_simp <;> with_reducible rfl)
     try simp only [Act.put, List.setIfInBounds_toArray, List.set_cons_zero, List.set_cons_succ]
     try simp only [n_xor]
     refine wpList_val rfl (v := ?_) ?_ ?_
     rotate_left 1
     ·first | (go_simp <;> with_reducible rfl)
     try simp only [Act.put, List.setIfInBounds_toArray, List.set_cons_zero, List.set_cons_succ]
     try simp only [n_addw]
     refine wpList_val rfl (v := ?_) ?_ ?_
     rotate_left 1
     ·first | (go_simp <;> with_reducible rfl)
     try simp only [Act.put, List.setIfInBounds_toArray, List.set_cons_zero, List.set_cons_succ]
     try simp only [n_xor, n_and, n_or, n_not, n_notm, n_add, n_addw, n_r3, n_r10]
     refine wpList_nil ?_
     --END14
     go_upto_region 15 with fail
     --R15
     apply wp_region_lit
     iterate 2
      refine wpList_val rfl (v := ?_) ?_ ?_
      rotate_left 1
      ·first | (go_simp <;> with_reducible rfl)
      try simp only [Act.put, List.setIfInBounds_toArray, List.set_cons_zero, List.set_cons_succ]
      try simp only [n_xor, n_and, n_or, n_not, n_notm, n_add, n_addw, n_r3, n_r10]
     refine wpList_val rfl (v := ?_) ?_ ?_
     rotate_left 1
     ·first | (go_simp <;> with_reducible rfl)
     try simp only [Act.put, List.setIfInBounds_toArray, List.set_cons_zero, List.set_cons_succ]
     try simp only [n_addw]
     iterate 6
      refine wpList_val rfl (v := ?_) ?_ ?_
      rotate_left 1
      ·first | (go_simp <;> with_reducible rfl)
      try simp only [Act.put, List.setIfInBounds_toArray, List.set_cons_zero, List.set_cons_succ]
      try simp only [n_xor, n_and, n_or, n_not, n_notm, n_add, n_addw, n_r3, n_r10]
     refine wpList_val rfl (v := ?_) ?_ ?_
     rotate_left 1
     ·first | (go_simp <;> with_reducible rfl)
     try simp only [Act.put, List.setIfInBounds_toArray, List.set_cons_zero, List.set_cons_succ]
     try simp only [n_addw]
     iterate 4
      refine wpList_val rfl (v := ?_) ?_ ?_
      rotate_left 1
      ·first | (go_simp <;> with_reducible rfl)
      try simp only [Act.put, List.setIfInBounds_toArray, List.set_cons_zero, List.set_cons_succ]
      try simp only [n_xor, n_and, n_or, n_not, n_notm, n_add, n_addw, n_r3, n_r10]
     refine wpList_storeRow rfl _ _ _ rfl gv _ _ _ rfl rfl HV7.out (by kernel_rfl) rfl (by simp [Value.oneCell']) (fun w8 hw8 => ?_)
     try simp only [Act.put]
     refine wpList_nil ?_
     --END15
     have HV8 : Hid (WordsAt w8 gv (v.step tk x).list 243) := Lib.hid (by
      rw [hw8]
      exact HV7.out.setRow (v.step tk x).list)
     have HK8 : Hid (Kp (fun k => k = gv) w5 w8) := Lib.hid (by
      rw [hw8]
      exact HK7.out.setRow (.inl rfl) _)
     rw [← HNX.out] at HV8
     clear c3 HV7 HK7 HNX hw8
     go_wp2_with fail
     go_roundg gk2
     case measure => omega
     case rel => exact ⟨i + 1, by omega, rfl, HV8, HK8⟩
    ·obtain rfl : i = 64 := by omega
     clear hi hlt HVS
     have HE6 := Lib.hid (HE5.out.kp HKv.out (by omega))
     have HK6 : Hid (Kp (· = ge) w wr) := Lib.hid ((HK5.out.mono (fun _ e => e.elim)).chain HKv.out (fun i hi => .inr (by rw [hi]; exact HGV.out)))
     obtain ⟨v, hv⟩ : ∃ v, v = rounds (fun i => tb.getD i 0) (sch (word p)) 64 st := ⟨_, rfl⟩
     rw [← hv] at HV
     have HVV := Lib.hid hv
     clear hv
     have c0 : wr.cell? ⟨gv, 0, none⟩ = some (vw v.a) := HV.out.cell (i := 0) (show 0 < 8 by decide)
     have c1 : wr.cell? ⟨gv, 1, none⟩ = some (vw v.b) := HV.out.cell (i := 1) (show 1 < 8 by decide)
     have c2 : wr.cell? ⟨gv, 2, none⟩ = some (vw v.c) := HV.out.cell (i := 2) (show 2 < 8 by decide)
     have c3 : wr.cell? ⟨gv, 3, none⟩ = some (vw v.d) := HV.out.cell (i := 3) (show 3 < 8 by decide)
     have c4 : wr.cell? ⟨gv, 4, none⟩ = some (vw v.e) := HV.out.cell (i := 4) (show 4 < 8 by decide)
     have c5 : wr.cell? ⟨gv, 5, none⟩ = some (vw v.f) := HV.out.cell (i := 5) (show 5 < 8 by decide)
     have c6 : wr.cell? ⟨gv, 6, none⟩ = some (vw v.g) := HV.out.cell (i := 6) (show 6 < 8 by decide)
     have c7 : wr.cell? ⟨gv, 7, none⟩ = some (vw v.h) := HV.out.cell (i := 7) (show 7 < 8 by decide)
     go_upto_region 18 with fail
     clear c0 c1 c2 c3 c4 c5 c6 c7
     obtain ⟨w9, hw9⟩ : ∃ w9, w9 = wr := ⟨_, rfl⟩
     subst hw9
     go_loopg [161] 8 (fun gk s161 wx => ∃ i : Nat, i + gk = 8 ∧ s161 = .int .i64 i ∧ Hid (WordsAt wx ge (mix (st.add v).list st.list i) 245) ∧ Hid (Kp (· = ge) w wx))
     case atStart => exact ⟨0, by omega, rfl, HE6, HK6⟩
     case round =>
      clear HE6 HK6 HV
      obtain ⟨i, hi, rfl, HV, HK⟩ := hrel
      by_cases hlt : i < 8
      ·obtain ⟨gk2, rfl⟩ : ∃ gk2, gk = gk2 + 1 := ⟨gk - 1, by omega⟩
       obtain ⟨y, hy⟩ : ∃ y, y = v.list.getD i 0 := ⟨_, rfl⟩
       obtain ⟨z, hz⟩ : ∃ z, z = st.list.getD i 0 := ⟨_, rfl⟩
       have hll : (st.add v).list.length = st.list.length := rfl
       have hl8 : st.list.length = 8 := rfl
       have hvs : ((v.list.map vw).toArray)[i]? = some (vw y) := by
        rw [hy, List.getElem?_toArray, List.getElem?_map, List.getElem?_eq_getElem (show i < v.list.length from hlt), List.getD_eq_getElem?_getD, List.getElem?_eq_getElem (show i < v.list.length from hlt)]
        rfl
       have hix : ∀ W, (Instr.index 243 (.agg #[vw v.a, vw v.b, vw v.c, vw v.d, vw v.e, vw v.f, vw v.g, vw v.h]) (.int .i64 (i : Int))).run Tryz.prog W = .ok (vw y) W := fun W =>
        index_row (P := Tryz.prog) (w := W) (t := 243) (e := 164) (n := 8) (k := .u32) (by kernel_rfl) (by kernel_rfl) (ie := Tryz.prog.types[164]!) (by kernel_rfl) (by kernel_rfl) hlt hvs
       have c0 : wr.cell? ⟨ge, i, none⟩ = some (vw z) := by
        rw [hz, ← mix_at hll (by rw [hl8]; exact hlt)]
        exact HV.out.cell (by rw [mix_len hll (by rw [hl8]; omega), hl8]; exact hlt)
       have f1 := Lib.frozen_of_heap HV.out i
       have HV2 : Hid (WordsAt (wr.setCell ⟨ge, i, none⟩ (vw (pW z y))).drew ge (mix (st.add v).list st.list (i + 1)) 245) := Lib.hid (by
        have h := HV.out.set i ((st.add v).list.getD i 0)
        rw [mix_set hll (by rw [hl8]; exact hlt), add_at st v hlt, ← hz, ← hy] at h
        exact h)
       have HK2 : Hid (Kp (· = ge) w (wr.setCell ⟨ge, i, none⟩ (vw (pW z y))).drew) := Lib.hid ((HK.out.set (.inl rfl) i _).drew 1)
       have ui : (i : Int) < 8 := by omega
       clear hy hz hvs hll hl8 HV HK
       go_upto_region 20 with fail
       clear hix
       generalize hw3 : wr = w3 at *
       --R20
       refine wp_region_seq3 (fun W => W = w3.drew) 11 [(0, true), (1, true), (2, true), (3, true), (4, true), (5, true), (6, true), (7, true), (8, true), (9, true), (10, true), (11, false)] (by as_aux_lemma => kernel_rfl) (by as_aux_lemma => kernel_rfl) (by as_aux_lemma => kernel_rfl) (by decide) (by as_aux_lemma => kernel_rfl) (by decide) rfl ?_
       intro OPS HO
       iterate 7
        refine seqT_take (o := ⟨_, _, _, _, _, _⟩) (v := ?_) (by rw [HO.out]; rfl) (by rfl) ?_ ?_
        rotate_left 1
        ·first | ((intro W _; go_simp) <;> with_reducible rfl) | (intro W hW; subst hW; (go_simp <;> with_reducible rfl))
        try simp only [Act.put, List.setIfInBounds_toArray, List.set_cons_zero, List.set_cons_succ]
        try simp only [n_xor, n_and, n_or, n_not, n_notm, n_add, n_addw, n_r3, n_r10]
       refine seqT_take (o := ⟨_, _, _, _, _, _⟩) (v := ?_) (by rw [HO.out]; rfl) (by rfl) ?_ ?_
       rotate_left 1
       ·first | ((intro W _; go_simp) <;> with_reducible rfl) | (intro W hW; subst hW; (go_simp <;> with_reducible rfl))
       try simp only [Act.put, List.setIfInBounds_toArray, List.set_cons_zero, List.set_cons_succ]
       try simp only [n_addw]
       iterate 3
        refine seqT_take (o := ⟨_, _, _, _, _, _⟩) (v := ?_) (by rw [HO.out]; rfl) (by rfl) ?_ ?_
        rotate_left 1
        ·first | ((intro W _; go_simp) <;> with_reducible rfl) | (intro W hW; subst hW; (go_simp <;> with_reducible rfl))
        try simp only [Act.put, List.setIfInBounds_toArray, List.set_cons_zero, List.set_cons_succ]
        try simp only [n_xor, n_and, n_or, n_not, n_notm, n_add, n_addw, n_r3, n_r10]
       refine seqT_do (o := ⟨_, _, _, _, _, _⟩) (by rw [HO.out]; rfl) (by rfl) (fun K hK => ?_)
       go_wp2_with fail
       refine hK.out _ _ (fun h => absurd rfl h) ?_
       clear hK K
       try simp only [Act.put, List.setIfInBounds_toArray, List.set_cons_zero, List.set_cons_succ]
       refine seqT_done ?_
       --END20
       generalize (w3.setCell _ _).drew = w4 at *
       go_wp2_with fail
       go_roundg gk2
       case measure => omega
       case rel => exact ⟨i + 1, by omega, rfl, HV2, HK2⟩
      ·obtain rfl : i = 8 := by omega
       clear hi hlt
       go_wp2_with fail
       go_end0
       refine ⟨rfl, ?_, HK.out⟩
       rw [← HVV.out]
       exact HV.out
end Go.Proofs.YtchfhojighopkaaGreatDoor
