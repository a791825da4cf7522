/-
  Parts of the proof: Sw8.
-/
import Derived.Laws.Cover3
import Derived.Test.YtchfhojighopkaaGreatDoorGuAJ
namespace Go.Proofs.YtchfhojighopkaaGreatDoor
open Go.RowKit Wh.Sha

/-- A stream: its block, its engine's, its row of bytes that are left over. -/
structure StreamAt (w : World) (B b ge : Nat) (k : EK) (ra : Option Addr) (cap : Nat) (l : List W) (rest : List UInt8) (many : Int) : Prop where
 box : BoxIs w b #[.iface k.pty (.pointer (some ⟨ge, 0, none⟩)), .slice ra rest.length cap, .int .i64 many] 226
 eng : WordsAt w ge l k.box
 len : l.length = k.len
 row : RowU w B ra cap rest
 hb : B ≤ b
 hge : B ≤ ge
 ne : b ≠ ge
 off : ∀ i, rb ra i → i ≠ b ∧ i ≠ ge
 small : rest.length < 64
/-- The blocks of a stream. -/
def Fs (b ge : Nat) (ra : Option Addr) (i : Nat) : Prop := i = b ∨ i = ge ∨ rb ra i

theorem BoxIs.putAt {w : World} {b : Nat} {vs : Array Value} {t : TypeId} (h : BoxIs w b vs t) (j : Nat) (x : Value) : BoxIs (w.setCell ⟨b, j, none⟩ x) b (vs.setIfInBounds j x) t := by
 unfold BoxIs at h ⊢
 simp [World.setCell, Array.getElem?_modify, h]
theorem frozen_kp {F : Nat → Prop} {w w' : World} (ha : Kp F w w') {p : Addr} {v : Bool} (h : w.frozen? p = v) (hlt : p.block < w.heap.size) (hne : ¬ F p.block) : w'.frozen? p = v := by
 rw [← h]
 exact World.frozen?_of_block (ha.block p.block hlt hne)
theorem goF_full {f : List W → List UInt8 → List W} {l1 l9 : List W} {r2 : List UInt8} (h : r2.length = 64) (h9 : f l1 r2 = l9) : goF f l1 r2 = (l9, []) := by
 have h2 := goF_piece (f := f) (h := l1) (t := []) h
 rw [List.append_nil] at h2
 rw [h2, h9]
 exact goF_few (show (0 : Nat) < 64 by decide)
/-- A method of a pointer's type, found by its name. -/
theorem method_ptr {P : Program} {w : World} {t e : TypeId} {i : TypeInfo} {f : FuncId} {nm : String} (hi : P.info? t = some i) (hm : (i.methods.find? (·.name == nm)).map (fun m => (m.path.toList, m.func)) = some ([], some (f, true)))
  (hu : P.underlying t = some (.pointer e)) {n : Nat} (hn : 0 < n) (v : Value) : (method n t v nm).run P w = .ok (f, v) w := by
 obtain ⟨k, rfl⟩ : ∃ k, n = k + 1 := ⟨n - 1, by omega⟩
 cases h : i.methods.find? (·.name == nm) with
 | none => rw [h] at hm; cases hm
 | some m =>
  rw [h] at hm
  simp only [Option.map_some, Option.some.injEq, Prod.mk.injEq] at hm
  unfold method
  simp [typeInfo, hi, h, follow, hm.1, hm.2, receiverAt, run_underlying hu, Place.get]
theorem wp_append_text {o : Oper} {act : Act} {K : Act → World → Prop} {Q : Exit → Act → World → Prop} {w : World} {B cap : Nat} {ra : Option Addr} {xs : List UInt8} (h : RowU w B ra cap xs) (s : ByteArray) (hs : xs.length + s.size ≤ 1000000000) (hB : B ≤ w.heap.size)
  (sl x : Operand) (ho : o.op = .call { callee := .builtin .append, args := #[sl, x], argTypes := #[125, 9] }) (hsl : act.eval sl = .slice ra xs.length cap) (hx : act.eval x = .string s)
  (hK : ∀ ra' cap' w', RowU w' B ra' cap' (xs ++ s.data.toList) → Kp (rb ra) w w' → (∀ i, rb ra' i → rb ra i ∨ w.heap.size ≤ i) → K (act.put o.dst (.slice ra' (xs.length + s.size) cap')) w') : Oper.wp Tryz.prog o act w K Q := by
 obtain ⟨ra', cap', w', hr, h2, h3, h4⟩ := append_text h s o.type hs hB
 unfold Oper.wp execOp
 simp only [ho, resolve, invoke, builtin, Sem.run_bind, Sem.run_pure, Result.andThen_ok, List.map_toArray, List.map_cons, List.map_nil, hsl, hx, hr]
 exact hK ra' cap' w' h2 h3 h4

set_option maxHeartbeats 4000000 in
set_option maxRecDepth 100000 in
theorem write_any (B b ge : Nat) (k : EK) (T : Tabs) (ra : Option Addr) (cap : Nat) (l : List W) (rest : List UInt8) (many : Int) (s : ByteArray) (w : World) (hS : StreamAt w B b ge k ra cap l rest many) (hT : TabsAt w T) (hNB : ∀ i, B ≤ i → NoTab i)
  (hB : B ≤ w.heap.size) (hs : s.size ≤ 100000000) (hm0 : 0 ≤ many) (hm1 : many ≤ 2305843009213693951) :
  Calls Tryz.prog 261 #[.pointer (some ⟨b, 0, none⟩), .string s] w fun e w' => e = .returned (.tuple #[]) ∧ ∃ ra' cap', StreamAt w' B b ge k ra' cap' (goF (k.f T) l (rest ++ s.data.toList)).1 (goF (k.f T) l (rest ++ s.data.toList)).2 (many + s.size) ∧
   Kp (Fs b ge ra) w w' ∧ (∀ i, rb ra' i → rb ra i ∨ w.heap.size ≤ i) := by
 have HS := Lib.hid hS
 have HT := Lib.hid hT
 have HNB := Lib.hid hNB
 have c2 := hS.box.cell (j := 2) rfl
 have f2 := Lib.frozen_of_heap hS.box 2
 clear hS hT hNB
 go_enter Tryz.func261, Tryz.ntmps261
 go_upto_region 1 with fail
 have HS1 : Hid (StreamAt (w.setCell ⟨b, 2, none⟩ (.int .i64 (many + s.size))) B b ge k ra cap l rest (many + s.size)) := Lib.hid (by
  have h := HS.out
  have hk : Kp (· = b) w (w.setCell ⟨b, 2, none⟩ (.int .i64 (many + s.size))) := (Kp.refl (fun i => i = b) _).set (b := b) (.inl rfl) 2 _
  exact ⟨BoxIs.putAt h.box 2 _, h.eng.kp hk (fun e => h.ne e.symm), h.len, h.row.kp hk (fun i hi e => (h.off i hi).1 e), h.hb, h.hge, h.ne, h.off, h.small⟩)
 have HK1 : Hid (Kp (Fs b ge ra) w (w.setCell ⟨b, 2, none⟩ (.int .i64 (many + s.size)))) := Lib.hid ((Kp.refl _ _).set (.inl (.inl rfl)) 2 _)
 clear c2 f2
 generalize w.setCell _ _ = w1 at *
 go_loopg [1] s.size (fun gk s1 wx => ∃ (d : List UInt8) (u : ByteArray) (ra1 : Option Addr) (cap1 : Nat) (l1 : List W) (r1 : List UInt8), s1 = .string u ∧ u.size ≤ gk ∧ Hid (d ++ u.data.toList = s.data.toList) ∧ Hid (goF (k.f T) l (rest ++ d) = (l1, r1)) ∧
  Hid (StreamAt wx B b ge k ra1 cap1 l1 r1 (many + s.size)) ∧ Hid (Kp (Fs b ge ra) w wx) ∧ Hid (∀ i, rb ra1 i → rb ra i ∨ w.heap.size ≤ i))
 case atStart => exact ⟨[], s, ra, cap, l, rest, rfl, Nat.le_refl _, Lib.hid rfl, Lib.hid (by rw [List.append_nil]; exact goF_few HS.out.small), HS1, HK1, Lib.hid (fun i hi => .inl hi)⟩
 case round =>
  clear HS1 HK1
  obtain ⟨d, u, ra1, cap1, l1, r1, rfl, hgk, HD, HG, HSt, HK, HOf⟩ := hrel
  by_cases hu : 0 < u.size
  ·obtain ⟨gk2, rfl⟩ : ∃ gk2, gk = gk2 + 1 := ⟨gk - 1, by omega⟩
   have hus : u.size ≤ s.size := by
    have h := congrArg List.length HD.out
    rw [List.length_append, ← Lib.size_eq, ← Lib.size_eq] at h
    omega
   obtain ⟨m, hm⟩ : ∃ m, r1.length = m := ⟨_, rfl⟩
   have hm64 : m < 64 := by have := HSt.out.small; omega
   obtain ⟨n, hn⟩ : ∃ n, n = min (64 - m) u.size := ⟨_, rfl⟩
   have hn0 : 0 < n := by omega
   have hn1 : n ≤ u.size := by omega
   have hn2 : m + n ≤ 64 := by omega
   have hmin : min (64 - (m : Int)) (u.size : Int) = (n : Int) := by omega
   have c1 := HSt.out.box.cell (j := 1) rfl
   rw [show (#[Value.iface k.pty (.pointer (some ⟨ge, 0, none⟩)), .slice ra1 r1.length cap1, .int .i64 (many + s.size)] : Array Value)[1] = .slice ra1 m cap1 by rw [← hm]; rfl] at c1
   have hne : u.toList.isEmpty = false := by
    rw [Lib.toList_data]
    cases h : u.data.toList with
    | nil => rw [Lib.size_eq, h] at hu; exact absurd hu (by decide)
    | cons a b => rfl
   clear hn
   go_upto_region 3 with fail
   clear hmin hne c1
   obtain ⟨w3, hw3⟩ : ∃ w3, w3 = wr := ⟨_, rfl⟩
   subst hw3
   have S0 : Hid (w3.drew.cell? ⟨b, 1, none⟩ = some (.slice ra1 m cap1)) := Lib.hid (by rw [← hm]; exact HSt.out.box.cell (j := 1) rfl)
   have HM := Lib.hid hm
   have HR : Hid (RowU w3.drew B ra1 cap1 r1) := Lib.hid (HSt.out.row.kp ((Kp.refl (fun _ => False) w3).drew 1) (fun _ _ e => e))
   have hBw : B ≤ w3.drew.heap.size := Nat.le_trans hB HK.out.size
   obtain ⟨uh, huh0⟩ : ∃ uh, u.extract 0 n = uh := ⟨_, rfl⟩
   obtain ⟨ut, hut0⟩ : ∃ ut, u.extract n u.size = ut := ⟨_, rfl⟩
   have huhs : uh.size = n := by rw [← huh0, ByteArray.size_extract]; omega
   have huh : r1.length + uh.size ≤ 1000000000 := by omega
   have hbw : b < w3.drew.heap.size := HSt.out.box.lt
   have hf1 : w3.drew.frozen? ⟨b, 1, none⟩ = false := Lib.frozen_of_heap HSt.out.box 1
   --R3
   refine wp_region_seq3 (fun W => W.cell? ⟨b, 1, none⟩ = some (.slice ra1 m cap1)) 11 [(0, true), (1, true), (2, true), (3, true), (4, true), (5, true), (6, true), (7, true), (8, false), (9, true), (10, true), (11, false)] (by as_aux_lemma => kernel_rfl) (by as_aux_lemma => kernel_rfl) (by as_aux_lemma => kernel_rfl) (by decide) (by as_aux_lemma => kernel_rfl) (by decide) S0.out ?_
   intro OPS HO
   iterate 8
    refine seqT_take (o := ⟨_, _, _, _, _, _⟩) (v := ?_) (by rw [HO.out]; rfl) (by rfl) ?_ ?_
    rotate_left 1
    ·first | ((intro W _; go_simp) <;> with_reducible rfl) | (intro W hW; skip; (go_simp <;> with_reducible rfl))
    try simp only [Act.put, List.setIfInBounds_toArray, List.set_cons_zero, List.set_cons_succ]
   refine seqT_do (o := ⟨_, _, _, _, _, _⟩) (by rw [HO.out]; rfl) (by rfl) (fun K hK => ?_)
   refine wp_append_text HR.out uh huh hBw _ _ rfl (by rw [HM.out]; rfl) rfl (fun ra2 cap2 wy hy1 hy2 hy3 => ?_)
   refine hK.out _ _ (fun _ => cell_kp hy2 S0.out (fun e => (HSt.out.off _ e).1 rfl)) ?_
   clear hK K
   iterate 2
    try simp only [Act.put, List.setIfInBounds_toArray, List.set_cons_zero, List.set_cons_succ]
    refine seqT_take (o := ⟨_, _, _, _, _, _⟩) (v := ?_) (by rw [HO.out]; rfl) (by rfl) ?_ ?_
    rotate_left 1
    ·first | ((intro W _; go_simp) <;> with_reducible rfl) | (intro W hW; skip; (go_simp <;> with_reducible rfl))
   try simp only [Act.put, List.setIfInBounds_toArray, List.set_cons_zero, List.set_cons_succ]
   refine seqT_do (o := ⟨_, _, _, _, _, _⟩) (by rw [HO.out]; rfl) (by rfl) (fun K hK => ?_)
   have fy := frozen_kp hy2 hf1 hbw (fun e => (HSt.out.off _ e).1 rfl)
   have cy := cell_kp hy2 S0.out (fun e => (HSt.out.off _ e).1 rfl)
   go_wp2_with fail
   refine hK.out _ _ (fun h => absurd rfl h) ?_
   clear hK K
   try simp only [Act.put, List.setIfInBounds_toArray, List.set_cons_zero, List.set_cons_succ]
   refine seqT_done ?_
   --END3
   obtain ⟨r2, hr2⟩ : ∃ r2, r2 = r1 ++ uh.data.toList := ⟨_, rfl⟩
   have hr2l : r2.length = m + n := by rw [hr2, List.length_append, hm, ← Lib.size_eq, huhs]
   rw [← hr2] at hy1
   have hy1' : Kp (rb ra1) w3 wy := ((Kp.refl _ w3).drew 1).trans hy2
   have hoff2 : ∀ i, rb ra2 i → i ≠ b ∧ i ≠ ge := fun i hi => by
    rcases hy3 i hi with h | h
    ·exact HSt.out.off i h
    ·have h1 := HSt.out.box.lt
     have h2 := HSt.out.eng.lt
     have h3 : w3.heap.size ≤ i := h
     exact ⟨by omega, by omega⟩
   have HO5 : Hid (∀ i, rb ra2 i → rb ra i ∨ w.heap.size ≤ i) := Lib.hid (fun i hi => by
    rcases hy3 i hi with h | h
    ·exact HOf.out i h
    ·exact .inr (Nat.le_trans HK.out.size h))
   have HKy : Hid (Kp (Fs b ge ra) w wy) := Lib.hid (HK.out.chain hy1' (fun i hi => (HOf.out i hi).imp (fun h => .inr (.inr h)) id))
   have HK5 : Hid (Kp (Fs b ge ra) w (wy.setCell ⟨b, 1, none⟩ (.slice ra2 (m + n) cap2))) := Lib.hid (HKy.out.set (.inl (.inl rfl)) 1 _)
   have hkb : Kp (· = b) wy (wy.setCell ⟨b, 1, none⟩ (.slice ra2 (m + n) cap2)) := (Kp.refl (fun i => i = b) wy).set (b := b) (.inl rfl) 1 _
   have HX5 : Hid (BoxIs (wy.setCell ⟨b, 1, none⟩ (.slice ra2 (m + n) cap2)) b #[.iface k.pty (.pointer (some ⟨ge, 0, none⟩)), .slice ra2 (m + n) cap2, .int .i64 (many + s.size)] 226) :=
    Lib.hid (BoxIs.putAt (HSt.out.box.kp hy1' (fun e => (HSt.out.off _ e).1 rfl)) 1 _)
   have HE5 : Hid (WordsAt (wy.setCell ⟨b, 1, none⟩ (.slice ra2 (m + n) cap2)) ge l1 k.box) := Lib.hid ((HSt.out.eng.kp hy1' (fun e => (HSt.out.off _ e).2 rfl)).kp hkb (fun e => HSt.out.ne e.symm))
   have HR5 : Hid (RowU (wy.setCell ⟨b, 1, none⟩ (.slice ra2 (m + n) cap2)) B ra2 cap2 r2) := Lib.hid (hy1.kp hkb (fun i hi e => (hoff2 i hi).1 e))
   have HT5 : Hid (TabsAt (wy.setCell ⟨b, 1, none⟩ (.slice ra2 (m + n) cap2)) T) := Lib.hid (((HT.out.kp HK.out (fun i hi => HNB.out i (by
    rcases hi with rfl | rfl | h
    ·exact HSt.out.hb
    ·exact HSt.out.hge
    ·exact (HS.out.row.base i h).1))).kp hy1' (fun i hi => HNB.out i (HSt.out.row.base i hi).1)).kp hkb (fun i hi => HNB.out i (by rw [hi]; exact HSt.out.hb)))
   have HG5 : goF (k.f T) l (rest ++ (d ++ uh.data.toList)) = goF (k.f T) l1 r2 := by
    rw [← List.append_assoc, goF_append _ _ _ _ (Nat.le_refl _), HG.out, hr2]
   have HD5 : Hid ((d ++ uh.data.toList) ++ ut.data.toList = s.data.toList) := Lib.hid (by
    rw [← HD.out, List.append_assoc, ← huh0, ← hut0]
    congr 1
    simp only [ByteArray.data_extract, Array.toList_extract, List.extract_eq_take_drop, List.drop_zero, Nat.sub_zero]
    rw [List.take_of_length_le (l := List.drop n _) (by rw [List.length_drop, ← Lib.size_eq]; omega), List.take_append_drop])
   have huts : ut.size = u.size - n := by rw [← hut0, ByteArray.size_extract]; omega
   have hmn : m + n ≤ 64 := by omega
   obtain ⟨mn, hmn0⟩ : ∃ mn, mn = m + n := ⟨_, rfl⟩
   rw [← hmn0] at HK5 HX5 HE5 HR5 HT5 hr2l hmn ⊢
   clear hy1 hy2 hy3 HKy hkb S0 hf1 hbw HR hBw hy1' huh hr2
   generalize wy.setCell _ _ = w5 at *
   have c1 := HX5.out.cell (j := 1) rfl
   by_cases hfull : mn = 64
   ·subst hfull
    clear hmn0
    have c0 := HX5.out.cell (j := 0) rfl
    have hcw : w5.cell? ⟨b, 0, none⟩ = some (.iface k.pty (.pointer (some ⟨ge, 0, none⟩))) := c0
    have hcw1 : w5.cell? ⟨b, 1, none⟩ = some (.slice ra2 64 cap2) := c1
    obtain ⟨a2, ha2⟩ : ∃ a2, ra2 = some a2 := by
     cases ra2 with
     | none =>
      exfalso
      rcases HR5.out.2 with ⟨_, h0⟩ | ⟨g, cap', cur, h1, _⟩
      ·omega
      ·cases h1
     | some a2 => exact ⟨a2, rfl⟩
    subst ha2
    obtain ⟨g3, hg3e, hB6⟩ := HR5.out.bytes
    subst hg3e
    have hg3 : g3 ≠ ge := (hoff2 g3 ⟨_, rfl, rfl⟩).2
    have hg3b : g3 ≠ b := (hoff2 g3 ⟨_, rfl, rfl⟩).1
    have hgn : NoTab ge := HNB.out ge HSt.out.hge
    have HB6 : Hid (BytesAt w5.drew g3 0 r2) := Lib.hid hB6
    have HT6 : Hid (TabsAt w5.drew T) := Lib.hid (HT5.out.kp ((Kp.refl (fun _ => False) w5).drew 1) (fun _ e => e.elim))
    have HE6 : Hid (WordsAt w5.drew ge l1 k.box) := Lib.hid HE5.out
    have HL6 := Lib.hid hr2l
    have hcd : w5.drew.cell? ⟨b, 0, none⟩ = some (.iface k.pty (.pointer (some ⟨ge, 0, none⟩))) := hcw
    have hcd1 : w5.drew.cell? ⟨b, 1, none⟩ = some (.slice (some ⟨g3, 0, none⟩) 64 cap2) := hcw1
    have har : ∀ wz, (Instr.arrayAt 247 (.slice (some ⟨g3, 0, none⟩) 64 cap2)).run Tryz.prog wz = .ok (.pointer (some ⟨g3, 0, none⟩)) wz := fun wz => run_arrayAt (P := Tryz.prog) (w := wz) 247 5 64 _ 64 cap2 (by kernel_rfl) (Nat.le_refl _)
    clear c0 c1 hB6
    cases k with
    | md5 =>
     have hpt : (EK.md5).pty = 234 := rfl
     have hmt : ∀ (wz : World) (n : Nat) (v : Value), 0 < n → (method n 234 v "wherryman/sums.piece").run Tryz.prog wz = .ok (269, v) wz := fun wz n v hn => method_ptr (P := Tryz.prog) (i := Tryz.prog.types[234]!) (e := 237) (by kernel_rfl) (by kernel_rfl) (by kernel_rfl) hn v
     go_upto_region 6 with fail
     --R6a
     refine wp_region_seq (fun W => W.cell? ⟨b, 0, none⟩ = some (.iface (EK.md5).pty (.pointer (some ⟨ge, 0, none⟩))) ∧ W.cell? ⟨b, 1, none⟩ = some (.slice (some ⟨g3, 0, none⟩) 64 cap2)) [(0, true), (1, true), (2, true), (3, true), (4, true), (5, true), (6, true), (7, true), (8, true), (9, true), (10, true), (11, false)] (by as_aux_lemma => kernel_rfl) (by as_aux_lemma => kernel_rfl) (by decide) (by as_aux_lemma => kernel_rfl) ⟨hcd, hcd1⟩ ?_
     intro OPS HO
     iterate 11
      refine seq_take (o := ⟨_, _, _, _, _, _⟩) (v := ?_) (by rw [HO.out]; rfl) (by rfl) ?_ ?_
      rotate_left 1
      ·first | ((intro W _; go_simp) <;> with_reducible rfl) | (intro W hW; obtain ⟨hW0, hW1⟩ := hW; (go_simp <;> with_reducible rfl))
      try simp only [Act.put, List.setIfInBounds_toArray, List.set_cons_zero, List.set_cons_succ]
     refine seq_do (o := ⟨_, _, _, _, _, _⟩) (by rw [HO.out]; rfl) (by rfl) (fun K hK => ?_)
     go_wp2_with (go_at_call 269; refine (piece_any .md5 T g3 0 ge r2 l1 _ HT6.out HL6.out HB6.out HE6.out HSt.out.len hg3 hgn).mono ?_; rintro e w9 ⟨rfl, hw1, hw2⟩)
     have hS : w9.cell? ⟨b, 0, none⟩ = some (.iface (EK.md5).pty (.pointer (some ⟨ge, 0, none⟩))) ∧ w9.cell? ⟨b, 1, none⟩ = some (.slice (some ⟨g3, 0, none⟩) 64 cap2) := ⟨cell_kp hw2 hcd HSt.out.ne, cell_kp hw2 hcd1 HSt.out.ne⟩
     refine hK.out _ _ hS (fun _ => ?_)
     clear hK K
     try simp only [Act.put, List.setIfInBounds_toArray, List.set_cons_zero, List.set_cons_succ]
     refine seq_done ?_
     --END6a
     have HL9 : Hid (((EK.md5).f T l1 r2).length = (EK.md5).len) := Lib.hid (EK.f_len _ _ _ _)
     have HG9 : Hid (∀ l9, (EK.md5).f T l1 r2 = l9 → goF ((EK.md5).f T) l (rest ++ (d ++ uh.data.toList)) = (l9, [])) := Lib.hid (fun l9 h9 => HG5.trans (goF_full HL6.out h9))
     obtain ⟨l9, hl9⟩ : ∃ l9, (EK.md5).f T l1 r2 = l9 := ⟨_, rfl⟩
     have HG9' := Lib.hid (HG9.out l9 hl9)
     rw [hl9] at hw1
     have HL9' : Hid (l9.length = (EK.md5).len) := Lib.hid (by rw [← hl9]; exact HL9.out)
     clear hl9 HG9 HL9 HG5
     have HX9 : Hid (BoxIs w9 b #[.iface (EK.md5).pty (.pointer (some ⟨ge, 0, none⟩)), .slice (some ⟨g3, 0, none⟩) 64 cap2, .int .i64 (many + s.size)] 226) := Lib.hid (BoxIs.kp (w := w5.drew) HX5.out hw2 HSt.out.ne)
     have c9 : w9.cell? ⟨b, 1, none⟩ = some (.slice (some ⟨g3, 0, none⟩) 64 cap2) := HX9.out.cell (j := 1) rfl
     have f9 : w9.frozen? ⟨b, 1, none⟩ = false := Lib.frozen_of_heap HX9.out 1
     have hk10 : Kp (· = b) w9 (w9.setCell ⟨b, 1, none⟩ (.slice (some ⟨g3, 0, none⟩) 0 cap2)) := (Kp.refl (fun i => i = b) w9).set (b := b) (.inl rfl) 1 _
     have HX10 : Hid (BoxIs (w9.setCell ⟨b, 1, none⟩ (.slice (some ⟨g3, 0, none⟩) 0 cap2)) b #[.iface (EK.md5).pty (.pointer (some ⟨ge, 0, none⟩)), .slice (some ⟨g3, 0, none⟩) 0 cap2, .int .i64 (many + s.size)] 226) := Lib.hid (BoxIs.putAt HX9.out 1 _)
     have HE10 : Hid (WordsAt (w9.setCell ⟨b, 1, none⟩ (.slice (some ⟨g3, 0, none⟩) 0 cap2)) ge l9 (EK.md5).box) := Lib.hid (hw1.kp hk10 (fun e => HSt.out.ne e.symm))
     have HR10 : Hid (RowU (w9.setCell ⟨b, 1, none⟩ (.slice (some ⟨g3, 0, none⟩) 0 cap2)) B (some ⟨g3, 0, none⟩) cap2 []) := Lib.hid (RowU.cut (((HR5.out.kp ((Kp.refl (fun _ => False) w5).drew 1) (fun _ _ e => e)).kp hw2 (fun i hi e => (hoff2 i hi).2 e)).kp hk10 (fun i hi e => (hoff2 i hi).1 e)) (by simp))
     have HK10 : Hid (Kp (Fs b ge ra) w (w9.setCell ⟨b, 1, none⟩ (.slice (some ⟨g3, 0, none⟩) 0 cap2))) := Lib.hid (((HK5.out.drew 1).chain hw2 (fun i hi => .inl (.inr (.inl hi)))).set (.inl (.inl rfl)) 1 _)
     have HSt10 : Hid (StreamAt (w9.setCell ⟨b, 1, none⟩ (.slice (some ⟨g3, 0, none⟩) 0 cap2)) B b ge (EK.md5) (some ⟨g3, 0, none⟩) cap2 l9 [] (many + s.size)) := Lib.hid ⟨HX10.out, HE10.out, HL9'.out, HR10.out, HSt.out.hb, HSt.out.hge, HSt.out.ne, hoff2, (by decide : (0 : Nat) < 64)⟩
     clear hw1 hw2 hk10 HX9 hcd hcd1 hcw hcw1 har hpt hmt HX10 HE10 HR10 HL9'
     go_wp2_with fail
     go_roundg gk2
     case measure => omega
     case rel => exact ⟨d ++ uh.data.toList, ut, some ⟨g3, 0, none⟩, cap2, l9, [], rfl, by omega, HD5, HG9', HSt10, HK10, HO5⟩
    | sha1 =>
     have hpt : (EK.sha1).pty = 238 := rfl
     have hmt : ∀ (wz : World) (n : Nat) (v : Value), 0 < n → (method n 238 v "wherryman/sums.piece").run Tryz.prog wz = .ok (275, v) wz := fun wz n v hn => method_ptr (P := Tryz.prog) (i := Tryz.prog.types[238]!) (e := 241) (by kernel_rfl) (by kernel_rfl) (by kernel_rfl) hn v
     go_upto_region 6 with fail
     --R6b
     refine wp_region_seq (fun W => W.cell? ⟨b, 0, none⟩ = some (.iface (EK.sha1).pty (.pointer (some ⟨ge, 0, none⟩))) ∧ W.cell? ⟨b, 1, none⟩ = some (.slice (some ⟨g3, 0, none⟩) 64 cap2)) [(0, true), (1, true), (2, true), (3, true), (4, true), (5, true), (6, true), (7, true), (8, true), (9, true), (10, true), (11, false)] (by as_aux_lemma => kernel_rfl) (by as_aux_lemma => kernel_rfl) (by decide) (by as_aux_lemma => kernel_rfl) ⟨hcd, hcd1⟩ ?_
     intro OPS HO
     iterate 11
      refine seq_take (o := ⟨_, _, _, _, _, _⟩) (v := ?_) (by rw [HO.out]; rfl) (by rfl) ?_ ?_
      rotate_left 1
      ·first | ((intro W _; go_simp) <;> with_reducible rfl) | (intro W hW; obtain ⟨hW0, hW1⟩ := hW; (go_simp <;> with_reducible rfl))
      try simp only [Act.put, List.setIfInBounds_toArray, List.set_cons_zero, List.set_cons_succ]
     refine seq_do (o := ⟨_, _, _, _, _, _⟩) (by rw [HO.out]; rfl) (by rfl) (fun K hK => ?_)
     go_wp2_with (go_at_call 275; refine (piece_any .sha1 T g3 0 ge r2 l1 _ HT6.out HL6.out HB6.out HE6.out HSt.out.len hg3 hgn).mono ?_; rintro e w9 ⟨rfl, hw1, hw2⟩)
     have hS : w9.cell? ⟨b, 0, none⟩ = some (.iface (EK.sha1).pty (.pointer (some ⟨ge, 0, none⟩))) ∧ w9.cell? ⟨b, 1, none⟩ = some (.slice (some ⟨g3, 0, none⟩) 64 cap2) := ⟨cell_kp hw2 hcd HSt.out.ne, cell_kp hw2 hcd1 HSt.out.ne⟩
     refine hK.out _ _ hS (fun _ => ?_)
     clear hK K
     try simp only [Act.put, List.setIfInBounds_toArray, List.set_cons_zero, List.set_cons_succ]
     refine seq_done ?_
     --END6b
     have HL9 : Hid (((EK.sha1).f T l1 r2).length = (EK.sha1).len) := Lib.hid (EK.f_len _ _ _ _)
     have HG9 : Hid (∀ l9, (EK.sha1).f T l1 r2 = l9 → goF ((EK.sha1).f T) l (rest ++ (d ++ uh.data.toList)) = (l9, [])) := Lib.hid (fun l9 h9 => HG5.trans (goF_full HL6.out h9))
     obtain ⟨l9, hl9⟩ : ∃ l9, (EK.sha1).f T l1 r2 = l9 := ⟨_, rfl⟩
     have HG9' := Lib.hid (HG9.out l9 hl9)
     rw [hl9] at hw1
     have HL9' : Hid (l9.length = (EK.sha1).len) := Lib.hid (by rw [← hl9]; exact HL9.out)
     clear hl9 HG9 HL9 HG5
     have HX9 : Hid (BoxIs w9 b #[.iface (EK.sha1).pty (.pointer (some ⟨ge, 0, none⟩)), .slice (some ⟨g3, 0, none⟩) 64 cap2, .int .i64 (many + s.size)] 226) := Lib.hid (BoxIs.kp (w := w5.drew) HX5.out hw2 HSt.out.ne)
     have c9 : w9.cell? ⟨b, 1, none⟩ = some (.slice (some ⟨g3, 0, none⟩) 64 cap2) := HX9.out.cell (j := 1) rfl
     have f9 : w9.frozen? ⟨b, 1, none⟩ = false := Lib.frozen_of_heap HX9.out 1
     have hk10 : Kp (· = b) w9 (w9.setCell ⟨b, 1, none⟩ (.slice (some ⟨g3, 0, none⟩) 0 cap2)) := (Kp.refl (fun i => i = b) w9).set (b := b) (.inl rfl) 1 _
     have HX10 : Hid (BoxIs (w9.setCell ⟨b, 1, none⟩ (.slice (some ⟨g3, 0, none⟩) 0 cap2)) b #[.iface (EK.sha1).pty (.pointer (some ⟨ge, 0, none⟩)), .slice (some ⟨g3, 0, none⟩) 0 cap2, .int .i64 (many + s.size)] 226) := Lib.hid (BoxIs.putAt HX9.out 1 _)
     have HE10 : Hid (WordsAt (w9.setCell ⟨b, 1, none⟩ (.slice (some ⟨g3, 0, none⟩) 0 cap2)) ge l9 (EK.sha1).box) := Lib.hid (hw1.kp hk10 (fun e => HSt.out.ne e.symm))
     have HR10 : Hid (RowU (w9.setCell ⟨b, 1, none⟩ (.slice (some ⟨g3, 0, none⟩) 0 cap2)) B (some ⟨g3, 0, none⟩) cap2 []) := Lib.hid (RowU.cut (((HR5.out.kp ((Kp.refl (fun _ => False) w5).drew 1) (fun _ _ e => e)).kp hw2 (fun i hi e => (hoff2 i hi).2 e)).kp hk10 (fun i hi e => (hoff2 i hi).1 e)) (by simp))
     have HK10 : Hid (Kp (Fs b ge ra) w (w9.setCell ⟨b, 1, none⟩ (.slice (some ⟨g3, 0, none⟩) 0 cap2))) := Lib.hid (((HK5.out.drew 1).chain hw2 (fun i hi => .inl (.inr (.inl hi)))).set (.inl (.inl rfl)) 1 _)
     have HSt10 : Hid (StreamAt (w9.setCell ⟨b, 1, none⟩ (.slice (some ⟨g3, 0, none⟩) 0 cap2)) B b ge (EK.sha1) (some ⟨g3, 0, none⟩) cap2 l9 [] (many + s.size)) := Lib.hid ⟨HX10.out, HE10.out, HL9'.out, HR10.out, HSt.out.hb, HSt.out.hge, HSt.out.ne, hoff2, (by decide : (0 : Nat) < 64)⟩
     clear hw1 hw2 hk10 HX9 hcd hcd1 hcw hcw1 har hpt hmt HX10 HE10 HR10 HL9'
     go_wp2_with fail
     go_roundg gk2
     case measure => omega
     case rel => exact ⟨d ++ uh.data.toList, ut, some ⟨g3, 0, none⟩, cap2, l9, [], rfl, by omega, HD5, HG9', HSt10, HK10, HO5⟩
    | sha256 =>
     have hpt : (EK.sha256).pty = 242 := rfl
     have hmt : ∀ (wz : World) (n : Nat) (v : Value), 0 < n → (method n 242 v "wherryman/sums.piece").run Tryz.prog wz = .ok (281, v) wz := fun wz n v hn => method_ptr (P := Tryz.prog) (i := Tryz.prog.types[242]!) (e := 245) (by kernel_rfl) (by kernel_rfl) (by kernel_rfl) hn v
     go_upto_region 6 with fail
     --R6c
     refine wp_region_seq (fun W => W.cell? ⟨b, 0, none⟩ = some (.iface (EK.sha256).pty (.pointer (some ⟨ge, 0, none⟩))) ∧ W.cell? ⟨b, 1, none⟩ = some (.slice (some ⟨g3, 0, none⟩) 64 cap2)) [(0, true), (1, true), (2, true), (3, true), (4, true), (5, true), (6, true), (7, true), (8, true), (9, true), (10, true), (11, false)] (by as_aux_lemma => kernel_rfl) (by as_aux_lemma => kernel_rfl) (by decide) (by as_aux_lemma => kernel_rfl) ⟨hcd, hcd1⟩ ?_
     intro OPS HO
     iterate 11
      refine seq_take (o := ⟨_, _, _, _, _, _⟩) (v := ?_) (by rw [HO.out]; rfl) (by rfl) ?_ ?_
      rotate_left 1
      ·first | ((intro W _; go_simp) <;> with_reducible rfl) | (intro W hW; obtain ⟨hW0, hW1⟩ := hW; (go_simp <;> with_reducible rfl))
      try simp only [Act.put, List.setIfInBounds_toArray, List.set_cons_zero, List.set_cons_succ]
     refine seq_do (o := ⟨_, _, _, _, _, _⟩) (by rw [HO.out]; rfl) (by rfl) (fun K hK => ?_)
     go_wp2_with (go_at_call 281; refine (piece_any .sha256 T g3 0 ge r2 l1 _ HT6.out HL6.out HB6.out HE6.out HSt.out.len hg3 hgn).mono ?_; rintro e w9 ⟨rfl, hw1, hw2⟩)
     have hS : w9.cell? ⟨b, 0, none⟩ = some (.iface (EK.sha256).pty (.pointer (some ⟨ge, 0, none⟩))) ∧ w9.cell? ⟨b, 1, none⟩ = some (.slice (some ⟨g3, 0, none⟩) 64 cap2) := ⟨cell_kp hw2 hcd HSt.out.ne, cell_kp hw2 hcd1 HSt.out.ne⟩
     refine hK.out _ _ hS (fun _ => ?_)
     clear hK K
     try simp only [Act.put, List.setIfInBounds_toArray, List.set_cons_zero, List.set_cons_succ]
     refine seq_done ?_
     --END6c
     have HL9 : Hid (((EK.sha256).f T l1 r2).length = (EK.sha256).len) := Lib.hid (EK.f_len _ _ _ _)
     have HG9 : Hid (∀ l9, (EK.sha256).f T l1 r2 = l9 → goF ((EK.sha256).f T) l (rest ++ (d ++ uh.data.toList)) = (l9, [])) := Lib.hid (fun l9 h9 => HG5.trans (goF_full HL6.out h9))
     obtain ⟨l9, hl9⟩ : ∃ l9, (EK.sha256).f T l1 r2 = l9 := ⟨_, rfl⟩
     have HG9' := Lib.hid (HG9.out l9 hl9)
     rw [hl9] at hw1
     have HL9' : Hid (l9.length = (EK.sha256).len) := Lib.hid (by rw [← hl9]; exact HL9.out)
     clear hl9 HG9 HL9 HG5
     have HX9 : Hid (BoxIs w9 b #[.iface (EK.sha256).pty (.pointer (some ⟨ge, 0, none⟩)), .slice (some ⟨g3, 0, none⟩) 64 cap2, .int .i64 (many + s.size)] 226) := Lib.hid (BoxIs.kp (w := w5.drew) HX5.out hw2 HSt.out.ne)
     have c9 : w9.cell? ⟨b, 1, none⟩ = some (.slice (some ⟨g3, 0, none⟩) 64 cap2) := HX9.out.cell (j := 1) rfl
     have f9 : w9.frozen? ⟨b, 1, none⟩ = false := Lib.frozen_of_heap HX9.out 1
     have hk10 : Kp (· = b) w9 (w9.setCell ⟨b, 1, none⟩ (.slice (some ⟨g3, 0, none⟩) 0 cap2)) := (Kp.refl (fun i => i = b) w9).set (b := b) (.inl rfl) 1 _
     have HX10 : Hid (BoxIs (w9.setCell ⟨b, 1, none⟩ (.slice (some ⟨g3, 0, none⟩) 0 cap2)) b #[.iface (EK.sha256).pty (.pointer (some ⟨ge, 0, none⟩)), .slice (some ⟨g3, 0, none⟩) 0 cap2, .int .i64 (many + s.size)] 226) := Lib.hid (BoxIs.putAt HX9.out 1 _)
     have HE10 : Hid (WordsAt (w9.setCell ⟨b, 1, none⟩ (.slice (some ⟨g3, 0, none⟩) 0 cap2)) ge l9 (EK.sha256).box) := Lib.hid (hw1.kp hk10 (fun e => HSt.out.ne e.symm))
     have HR10 : Hid (RowU (w9.setCell ⟨b, 1, none⟩ (.slice (some ⟨g3, 0, none⟩) 0 cap2)) B (some ⟨g3, 0, none⟩) cap2 []) := Lib.hid (RowU.cut (((HR5.out.kp ((Kp.refl (fun _ => False) w5).drew 1) (fun _ _ e => e)).kp hw2 (fun i hi e => (hoff2 i hi).2 e)).kp hk10 (fun i hi e => (hoff2 i hi).1 e)) (by simp))
     have HK10 : Hid (Kp (Fs b ge ra) w (w9.setCell ⟨b, 1, none⟩ (.slice (some ⟨g3, 0, none⟩) 0 cap2))) := Lib.hid (((HK5.out.drew 1).chain hw2 (fun i hi => .inl (.inr (.inl hi)))).set (.inl (.inl rfl)) 1 _)
     have HSt10 : Hid (StreamAt (w9.setCell ⟨b, 1, none⟩ (.slice (some ⟨g3, 0, none⟩) 0 cap2)) B b ge (EK.sha256) (some ⟨g3, 0, none⟩) cap2 l9 [] (many + s.size)) := Lib.hid ⟨HX10.out, HE10.out, HL9'.out, HR10.out, HSt.out.hb, HSt.out.hge, HSt.out.ne, hoff2, (by decide : (0 : Nat) < 64)⟩
     clear hw1 hw2 hk10 HX9 hcd hcd1 hcw hcw1 har hpt hmt HX10 HE10 HR10 HL9'
     go_wp2_with fail
     go_roundg gk2
     case measure => omega
     case rel => exact ⟨d ++ uh.data.toList, ut, some ⟨g3, 0, none⟩, cap2, l9, [], rfl, by omega, HD5, HG9', HSt10, HK10, HO5⟩
   ·have hlt : mn < 64 := by omega
    have hne2 : ¬ ((mn : Int) = 64) := by omega
    go_wp2_with fail
    go_roundg gk2
    case measure => omega
    case rel => exact ⟨d ++ uh.data.toList, ut, ra2, cap2, l1, r2, rfl, by omega, HD5, Lib.hid (by rw [HG5]; exact goF_few (by omega)), Lib.hid ⟨by rw [hr2l]; exact HX5.out, HE5.out, HSt.out.len, HR5.out, HSt.out.hb, HSt.out.hge, HSt.out.ne, hoff2, by omega⟩, HK5, HO5⟩
  ·have hu0 : u.size = 0 := by omega
   have hut : u.data.toList = [] := List.eq_nil_of_length_eq_zero (by rw [← Lib.size_eq]; exact hu0)
   have hne : u.toList.isEmpty = true := by rw [Lib.toList_data, hut]; rfl
   have HD2 : Hid (d = s.data.toList) := Lib.hid (by have h := HD.out; rw [hut, List.append_nil] at h; exact h)
   clear hut hu hu0
   go_wp2_with fail
   go_end0
   refine ⟨rfl, ra1, cap1, ?_, HK.out, HOf.out⟩
   rw [← HD2.out, HG.out]
   exact HSt.out
end Go.Proofs.YtchfhojighopkaaGreatDoor
