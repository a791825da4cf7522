/-
  Parts of the proof: Sw12.
-/
import Derived.Test.YtchfhojighopkaaGreatDoorGuAN
namespace Go.Proofs.YtchfhojighopkaaGreatDoor
open Go.RowKit Wh.Sha

set_option maxRecDepth 100000 in
theorem convU {wx : World} {B : Nat} {a : Option Addr} {cap : Nat} {out : List UInt8} (h : RowU wx B a cap out) :
  (convert 125 9 (.slice a out.length cap)).run Tryz.prog wx = .ok (.string ⟨out.toArray⟩) wx := by
 rcases h.2 with ⟨hv, h0⟩ | ⟨g, cap', cur, hv, _⟩
 ·injection hv with e1 e2 e3
  rw [List.length_eq_zero_iff] at h0
  subst e1 h0
  rw [List.length_nil, run_convert_bytes_string wx 125 9 5 none 0 cap Tryz.underlying125 Tryz.underlying5 Tryz.underlying9]
  simp [Conv.bytesToString]
  rfl
 ·injection hv with e1 e2 e3
  subst e1
  refine run_convert_bytes_back wx 125 9 5 ⟨g, 0, none⟩ cap out Tryz.underlying125 Tryz.underlying5 Tryz.underlying9 fun j hj => ?_
  have e : (⟨g, 0, none⟩ : Addr).add j = ⟨g, j, none⟩ := by unfold Addr.add; split <;> simp_all
  obtain ⟨g', hg', _, hc⟩ := h.bytes
  injection hg' with hg1
  have h9 := hc j hj
  rw [Nat.zero_add, List.getD_eq_getElem?_getD, List.getElem?_eq_getElem hj] at h9
  rw [e, hg1]
  exact h9
theorem StreamAt.below {w w' : World} {B b ge : Nat} {k : EK} {ra : Option Addr} {cap : Nat} {l : List W} {rest : List UInt8} {many : Int} (h : StreamAt w B b ge k ra cap l rest many) {z : Nat} (hb : Below z w w') (hz : z = w.heap.size) : StreamAt w' B b ge k ra cap l rest many := by
 subst hz
 have hk : Kp (fun _ => False) w w' := Kp.of hb
 exact ⟨h.box.kp hk (fun e => e), h.eng.kp hk (fun e => e), h.len, h.row.kp hk (fun _ _ e => e), h.hb, h.hge, h.ne, h.off, h.small⟩

theorem u8_word (x : W) (n : Nat) (_hn : 0 < 2 ^ n) : IntKind.u8.wrap ((x.toNat : Int) / ((2 ^ n : Nat) : Int)) = ((UInt8.ofNat (x >>> n).toNat).toNat : Int) := by
 rw [BitVec.toNat_ushiftRight, Nat.shiftRight_eq_div_pow, UInt8.toNat_ofNat', ← Int.natCast_ediv]
 unfold IntKind.wrap
 simp [IntKind.bits, IntKind.signed]
theorem u8_word0 (x : W) : IntKind.u8.wrap (x.toNat : Int) = ((UInt8.ofNat x.toNat).toNat : Int) := by
 rw [UInt8.toNat_ofNat']
 unfold IntKind.wrap
 simp [IntKind.bits, IntKind.signed]

set_option maxHeartbeats 4000000 in
set_option maxRecDepth 100000 in
theorem sum_any (B b ge : Nat) (k : EK) (T : Tabs) (ra : Option Addr) (cap : Nat) (l : List W) (rest : List UInt8) (N : Nat) (w : World) (hS : StreamAt w B b ge k ra cap l rest N) (hT : TabsAt w T) (hNB : ∀ i, B ≤ i → NoTab i)
  (hB : B ≤ w.heap.size) (hN : N ≤ 1000000000) :
  Calls Tryz.prog 262 #[.pointer (some ⟨b, 0, none⟩)] w fun e w' => e = .returned (.string ⟨(sumL T k l rest N).toArray⟩) ∧ Below w.heap.size w w' := by
 have HS := Lib.hid hS
 have HT := Lib.hid hT
 have HNB := Lib.hid hNB
 obtain ⟨pt, hpt⟩ : ∃ pt, k.pty = pt := ⟨_, rfl⟩
 obtain ⟨fc, hfc⟩ : ∃ fc, k.copiedF = fc := ⟨_, rfl⟩
 have HPT := Lib.hid hpt
 obtain ⟨gc, hgc⟩ : ∃ gc, w.heap.size = gc := ⟨_, rfl⟩
 have HC : Hid (∀ wz : World, wz = w.drew → Calls Tryz.prog fc #[.pointer (some ⟨ge, 0, none⟩)] wz fun e w' => e = .returned (.iface pt (.pointer (some ⟨gc, 0, none⟩))) ∧ w' = w.drew.alloc (.cells (l.map vw).toArray k.box)) := Lib.hid (fun wz hz => by
  subst hz
  rw [← hfc, ← hpt, ← hgc]
  exact copied_any k ge l w.drew hS.eng hS.len)
 have hmt : ∀ (wz : World) (n : Nat) (v : Value), 0 < n → (method n pt v "wherryman/sums.copied").run Tryz.prog wz = .ok (fc, v) wz := fun wz n v hn => by rw [← hpt, ← hfc]; exact copied_method k wz n v hn
 have hen : ∀ (args : Array Value) (wz : World), (callFunc fc args).run Tryz.prog wz = .ok (.enter fc args) wz := fun args wz => by rw [← hfc]; exact copied_enters k args wz
 obtain ⟨m, hm⟩ : ∃ m, rest.length = m := ⟨_, rfl⟩
 have HM := Lib.hid hm
 have hms : rest.length ≤ 1000000000 := by have := hS.small; omega
 have c0 : w.drew.cell? ⟨b, 0, none⟩ = some (.iface pt (.pointer (some ⟨ge, 0, none⟩))) := by rw [← hpt]; exact hS.box.cell (j := 0) rfl
 have c1 : w.drew.cell? ⟨b, 1, none⟩ = some (.slice ra m cap) := by rw [← hm]; exact hS.box.cell (j := 1) rfl
 have HR9 : Hid (∀ w9 : World, w9 = w.drew.alloc (.cells (l.map vw).toArray k.box) → RowU w9 B ra cap rest) := Lib.hid (fun w9 h9 => by
  rw [h9]
  exact HS.out.row.kp ((Kp.of (F := fun _ => False) ((Below.refl w.heap.size w).alloc (Nat.le_refl _) (.cells (l.map vw).toArray k.box))).drew 1) (fun _ _ e => e))
 have HGC := Lib.hid hgc
 clear hS hT hNB hpt hfc hm hgc
 go_enter Tryz.func262, Tryz.ntmps262
 go_upto_region 1 with fail
 --R1
 refine wp_region_seq (fun W => W.cell? ⟨b, 0, none⟩ = some (.iface pt (.pointer (some ⟨ge, 0, none⟩))) ∧ W.cell? ⟨b, 1, none⟩ = some (.slice ra m cap)) [(0, true), (1, true), (2, true), (3, true), (5, true), (6, true), (7, true), (8, true), (4, false), (9, false), (10, true), (11, false), (12, true)] (by as_aux_lemma => kernel_rfl) (by as_aux_lemma => kernel_rfl) (by decide) (by as_aux_lemma => kernel_rfl) ⟨c0, c1⟩ ?_
 intro OPS HO
 iterate 8
  refine seq_take (o := ⟨_, _, _, _, _, _⟩) (v := ?_) (by rw [HO.out]; rfl) (by rfl) ?_ ?_
  rotate_left 1
  ·first | ((intro W _; go_simp) <;> with_reducible rfl) | (intro W hW; obtain ⟨hW0, hW1⟩ := hW; (go_simp <;> with_reducible rfl))
  try simp only [Act.put, List.setIfInBounds_toArray, List.set_cons_zero, List.set_cons_succ]
 refine seq_do (o := ⟨_, _, _, _, _, _⟩) (by rw [HO.out]; rfl) (by rfl) (fun K hK => ?_)
 go_wp2_with fail
 refine (HC.out _ rfl).mono ?_
 rintro e w9 ⟨rfl, hw9⟩
 have HW9 := Lib.hid hw9
 clear hw9
 have hS : w9.cell? ⟨b, 0, none⟩ = some (.iface pt (.pointer (some ⟨ge, 0, none⟩))) ∧ w9.cell? ⟨b, 1, none⟩ = some (.slice ra m cap) := by
  have hb9 : Kp (fun _ => False) w w9 := by rw [HW9.out]; exact (Kp.of (F := fun _ => False) ((Below.refl w.heap.size w).alloc (Nat.le_refl _) _)).drew 1
  exact ⟨cell_kp hb9 c0 (fun e => e), cell_kp hb9 c1 (fun e => e)⟩
 refine hK.out _ _ hS (fun _ => ?_)
 clear hK K
 try simp only [Act.put, List.setIfInBounds_toArray, List.set_cons_zero, List.set_cons_succ]
 refine seq_do (o := ⟨_, _, _, _, _, _⟩) (by rw [HO.out]; rfl) (by rfl) (fun K hK => ?_)
 refine wp_copyU (HR9.out w9 HW9.out) hms _ _ rfl rfl (by rw [HM.out]; rfl) (fun ra2 cap2 w10 hy1 hy2 hy3 => ?_)
 have hS2 : w10.cell? ⟨b, 0, none⟩ = some (.iface pt (.pointer (some ⟨ge, 0, none⟩))) ∧ w10.cell? ⟨b, 1, none⟩ = some (.slice ra m cap) := ⟨cell_kp (Kp.of (F := fun _ => False) hy2) hS.1 (fun e => e), cell_kp (Kp.of (F := fun _ => False) hy2) hS.2 (fun e => e)⟩
 clear hS
 have hS := hS2
 clear hS2
 refine hK.out _ _ hS (fun _ => ?_)
 clear hK K
 try simp only [Act.put, List.setIfInBounds_toArray, List.set_cons_zero, List.set_cons_succ]
 refine seq_take (o := ⟨_, _, _, _, _, _⟩) (v := ?_) (by rw [HO.out]; rfl) (by rfl) ?_ ?_
 rotate_left 1
 ·first | ((intro W _; go_simp) <;> with_reducible rfl) | (intro W hW; obtain ⟨hW0, hW1⟩ := hW; (go_simp <;> with_reducible rfl))
 try simp only [Act.put, List.setIfInBounds_toArray, List.set_cons_zero, List.set_cons_succ]
 refine seq_do (o := ⟨_, _, _, _, _, _⟩) (by rw [HO.out]; rfl) (by rfl) (fun K hK => ?_)
 go_wp2_with fail
 have hS3 : (w10.alloc (.cells #[.iface pt (.pointer (some ⟨gc, 0, none⟩)), .slice ra2 rest.length cap2, .int .i64 0] 226)).cell? ⟨b, 0, none⟩ = some (.iface pt (.pointer (some ⟨ge, 0, none⟩))) ∧ (w10.alloc (.cells #[.iface pt (.pointer (some ⟨gc, 0, none⟩)), .slice ra2 rest.length cap2, .int .i64 0] 226)).cell? ⟨b, 1, none⟩ = some (.slice ra m cap) := ⟨cell_kp (Kp.of (F := fun _ => False) (bAlloc (Below.refl _ _) _)) hS.1 (fun e => e), cell_kp (Kp.of (F := fun _ => False) (bAlloc (Below.refl _ _) _)) hS.2 (fun e => e)⟩
 clear hS
 have hS := hS3
 clear hS3
 refine hK.out _ _ hS (fun _ => ?_)
 clear hK K
 try simp only [Act.put, List.setIfInBounds_toArray, List.set_cons_zero, List.set_cons_succ]
 refine seq_take (o := ⟨_, _, _, _, _, _⟩) (v := ?_) (by rw [HO.out]; rfl) (by rfl) ?_ ?_
 rotate_left 1
 ·first | ((intro W _; go_simp) <;> with_reducible rfl) | (intro W hW; obtain ⟨hW0, hW1⟩ := hW; (go_simp <;> with_reducible rfl))
 try simp only [Act.put, List.setIfInBounds_toArray, List.set_cons_zero, List.set_cons_succ]
 refine seq_done ?_
 --END1
 have hb9 : Below w.heap.size w w9 := by
  rw [HW9.out]
  have h := (Below.refl w.heap.size w).alloc (Nat.le_refl _) (.cells (l.map vw).toArray k.box)
  exact ⟨h.os, h.tape, h.output, h.size, h.block⟩
 have hs9 : w9.heap.size = gc + 1 := by
  rw [HW9.out, ← HGC.out]
  show (w.alloc (.cells (l.map vw).toArray k.box)).heap.size = _
  simp
 have hb10 : Below w.heap.size w w10 := bTrans hb9 hy2
 have hs10 : w9.heap.size ≤ w10.heap.size := hy2.size
 have hb11 : Below w10.heap.size w10 (w10.alloc (.cells #[.iface pt (.pointer (some ⟨gc, 0, none⟩)), .slice ra2 rest.length cap2, .int .i64 0] 226)) := bAlloc (Below.refl _ _) _
 have HS11 : Hid (StreamAt (w10.alloc (.cells #[.iface pt (.pointer (some ⟨gc, 0, none⟩)), .slice ra2 rest.length cap2, .int .i64 0] 226)) gc w10.heap.size gc k ra2 cap2 l rest 0) := Lib.hid (by
  have hE9 : WordsAt w9 gc l k.box := by
   rw [HW9.out, ← HGC.out]
   exact heap_alloc_new w.drew _
  have hX : BoxIs (w10.alloc (.cells #[.iface pt (.pointer (some ⟨gc, 0, none⟩)), .slice ra2 rest.length cap2, .int .i64 0] 226)) w10.heap.size #[.iface pt (.pointer (some ⟨gc, 0, none⟩)), .slice ra2 rest.length cap2, .int .i64 0] 226 := heap_alloc_new _ _
  have hR : RowU w10 gc ra2 cap2 rest := by
   refine ⟨hy1.1, ?_⟩
   rcases hy1.2 with h | ⟨g, cap', cur, h1, h2, h3⟩
   ·exact .inl h
   ·exact .inr ⟨g, cap', cur, h1, by omega, h3⟩
  refine ⟨by rw [HPT.out]; exact hX, (hE9.kp (Kp.of (F := fun _ => False) hy2) (fun e => e)).kp (Kp.of (F := fun _ => False) hb11) (fun e => e), HS.out.len, hR.kp (Kp.of (F := fun _ => False) hb11) (fun _ _ e => e), by omega, Nat.le_refl _, by omega, fun i hi => ?_, HS.out.small⟩
  have h1 := hy3 i hi
  have h2 := (hy1.base i hi).2
  exact ⟨by omega, by omega⟩)
 have HB11 : Hid (Below w.heap.size w (w10.alloc (.cells #[.iface pt (.pointer (some ⟨gc, 0, none⟩)), .slice ra2 rest.length cap2, .int .i64 0] 226))) := Lib.hid (bTrans hb10 hb11)
 obtain ⟨bc, hbc⟩ : ∃ bc, w10.heap.size = bc := ⟨_, rfl⟩
 rw [hbc] at HS11 ⊢
 generalize w10.alloc _ = w11 at *
 clear c0 c1 hS hy1 hy2 hy3 hb9 hs9 hb10 hs10 hb11 hbc HR9 HC HW9 hmt hen
 obtain ⟨w12, hmk, hR12, hb12⟩ := make_row 80 w11 (by omega)
 have hmk2 : (Instr.makeSlice 125 (.int .i64 0) (.int .i64 80)).run Tryz.prog w11 = .ok (.slice (some ⟨w11.heap.size, 0, none⟩) 0 80) w12 := hmk
 clear hmk
 have HR12 := Lib.hid hR12
 have HB12 := Lib.hid hb12
 clear hR12 hb12
 go_upto_region 3 with fail
 clear hmk2
 obtain ⟨z11, hz11⟩ : ∃ z, w11.heap.size = z := ⟨_, rfl⟩
 rw [hz11] at HR12 HB12 ⊢
 have hz12 : z11 ≤ w12.heap.size := by rw [← hz11]; exact HB12.out.size
 have HZ := Lib.hid hz11
 clear hz11
 go_wp2_with (at_builtin; refine wpList_appU HR12.out [128] _ rfl 1 rfl (by decide) (by decide) hz12 rfl (.tmp 24) (.tmp 25) rfl rfl rfl (fun ra3 cap3 w13 hy1 hy2 hy3 => ?_))
 have HP13 : Hid (RowU w13 z11 ra3 cap3 [128]) := Lib.hid hy1
 have HB13 : Hid (Below z11 w11 w13) := Lib.hid (HB12.out.trans (hy2.below (fun i hi => (HR12.out.base i hi).1) hz12))
 clear hy1 hy2 hy3 HR12 HB12 hz12
 go_upto_region 4 with fail
 have HXb : Hid (BoxIs w11 b #[.iface k.pty (.pointer (some ⟨ge, 0, none⟩)), .slice ra rest.length cap, .int .i64 N] 226) := Lib.hid (HS.out.box.kp (Kp.of (F := fun _ => False) HB11.out) (fun e => e))
 have hbz : b < z11 := by rw [← HZ.out]; exact HXb.out.lt
 have hm64 : m < 64 := by rw [← HM.out]; exact HS.out.small
 go_loopg [4] (zeros m) (fun gk s4 wx => ∃ (z pl : Nat) (ra3 : Option Addr) (cap3 : Nat), z + gk = zeros m ∧ pl = 1 + z ∧ s4 = .slice ra3 pl cap3 ∧ Hid (RowU wx z11 ra3 cap3 (128 :: List.replicate z 0)) ∧ Hid (Below z11 w11 wx))
 case atStart => exact ⟨0, 1, ra3, cap3, by omega, rfl, rfl, HP13, HB13⟩
 case round =>
  clear HP13 HB13
  obtain ⟨z, pl, ra3, cap3, hz, hpl, rfl, HP, HBx⟩ := hrel
  have hz64 := zeros_lt m
  have c1 : wr.cell? ⟨b, 1, none⟩ = some (.slice ra m cap) := by
   rw [← HM.out, HBx.out.cell (p := ⟨b, 1, none⟩) hbz]
   exact HXb.out.cell (j := 1) rfl
  obtain ⟨ml, hml⟩ : ∃ ml, ml = m + pl := ⟨_, rfl⟩
  obtain ⟨q, hq⟩ : ∃ q, q = ml % 64 := ⟨_, rfl⟩
  have e1 : IntKind.i64.wrap ((m : Int) + (pl : Int)) = (ml : Int) := by rw [IntWalk.i64_in _ (by omega)]; omega
  have e2 : (ml : Int).tmod 64 = (q : Int) := by rw [Int.tmod_eq_emod_of_nonneg (by omega)]; omega
  have e3 : (ml : Int) % 64 = (q : Int) := by omega
  have e4 : (m : Int) + (pl : Int) = (ml : Int) := by omega
  have e7 : IntKind.i64.wrap (ml : Int) = (ml : Int) := IntWalk.i64_in _ (by omega)
  have HPL : Hid ((128 :: List.replicate z (0 : UInt8)).length = pl) := Lib.hid (by simp; omega)
  by_cases hlt : z < zeros m
  ·obtain ⟨gk2, rfl⟩ : ∃ gk2, gk = gk2 + 1 := ⟨gk - 1, by omega⟩
   have hq56 : (q : Int) ≠ 56 := by
    have h := zeros_least hlt
    intro e
    apply h
    have : q = 56 := by omega
    rw [← this, hq, hml, hpl]
    congr 1
    omega
   have hz13 : z11 ≤ wr.heap.size := by have := HBx.out.size; rw [HZ.out] at this; exact this
   have hpls : (128 :: List.replicate z (0 : UInt8)).length + 1 ≤ 1000000000 := by rw [HPL.out]; omega
   clear hq hml
   go_upto_region 5 with fail
   clear e1 e2 e3 e4 e7 c1 hq56
   go_wp2_with (at_builtin; refine wpList_appU HP.out [0] _ rfl 1 rfl (by decide) hpls hz13 rfl (.tmp 37) (.tmp 38) rfl (by show Value.slice _ _ _ = Value.slice _ _ _; rw [HPL.out]) rfl (fun ra4 cap4 w14 hy1 hy2 hy3 => ?_))
   have HP2 : Hid (RowU w14 z11 ra4 cap4 (128 :: List.replicate (z + 1) 0)) := Lib.hid (by
    have e : (128 :: List.replicate z (0 : UInt8)) ++ [0] = 128 :: List.replicate (z + 1) 0 := by rw [List.cons_append, ← List.replicate_succ']
    rw [← e]
    exact hy1)
   have HB2 : Hid (Below z11 w11 w14) := Lib.hid (HBx.out.trans (hy2.below (fun i hi => (HP.out.base i hi).1) hz13))
   clear hy1 hy2 hy3
   go_roundg gk2
   case measure => omega
   case rel => exact ⟨z + 1, pl + 1, ra4, cap4, by omega, by omega, by rw [show z + 1 + 1 = pl + 1 by omega], HP2, HB2⟩
  ·obtain rfl : z = zeros m := by omega
   have hq56 : (q : Int) = 56 := by
    have h := zeros_ok m
    have : q = 56 := by
     rw [hq, hml, hpl, ← h]
     congr 1
     omega
    omega
   have HPL1 := Lib.hid hpl
   clear hq hml hlt hz hpl
   have c2 : wr.cell? ⟨b, 2, none⟩ = some (.int .i64 N) := by
    rw [HBx.out.cell (p := ⟨b, 2, none⟩) hbz]
    exact HXb.out.cell (j := 2) rfl
   obtain ⟨nb, hnb⟩ : ∃ nb, nb = N * 8 := ⟨_, rfl⟩
   have w1 : IntKind.u64.wrap (N : Int) = (N : Int) := wrap_u64 _ (by omega)
   have w2 : IntKind.u64.wrap ((N : Int) * 8) = (nb : Int) := by
    rw [show (N : Int) * 8 = ((nb : Nat) : Int) by omega]
    exact wrap_u64 _ (by omega)
   have w3 : (N : Int) * 8 = (nb : Int) := by omega
   have HNB8 := Lib.hid hnb
   clear hnb
   go_upto_region 7 with fail
   clear c1 c2 e1 e2 e3 e4 e7 w1 w2 w3 hq56
   go_upto_region 8 with fail
   obtain ⟨lt, hlt0⟩ : ∃ lt, k.little = lt := ⟨_, rfl⟩
   obtain ⟨fl, hfl⟩ : ∃ fl, k.littleF = fl := ⟨_, rfl⟩
   have HLT := Lib.hid hlt0
   have HFL := Lib.hid hfl
   have HCL : Hid (∀ wz : World, Calls Tryz.prog fl #[.pointer (some ⟨ge, 0, none⟩)] wz fun e w' => e = .returned (.bool lt) ∧ w' = wz) := Lib.hid (fun wz => by
    rw [← hfl, ← hlt0]
    exact little_any k ge wz)
   have hmt : ∀ (wz : World) (n : Nat) (v : Value), 0 < n → (method n pt v "wherryman/sums.little").run Tryz.prog wz = .ok (fl, v) wz := fun wz n v hn => by rw [← HPT.out, ← hfl]; exact little_method k wz n v hn
   have hen : ∀ (args : Array Value) (wz : World), (callFunc fl args).run Tryz.prog wz = .ok (.enter fl args) wz := fun args wz => by rw [← hfl]; exact little_enters k args wz
   clear hlt0 hfl
   obtain ⟨PB, hPB⟩ : ∃ PB : Nat → UInt8, PB = fun i => UInt8.ofNat (nb % 2 ^ 64 / 2 ^ (if lt then 8 * i else 56 - 8 * i) % 256) := ⟨_, rfl⟩
   have HPB := Lib.hid hPB
   clear hPB
   have HPDl : Hid (∀ i, (128 :: List.replicate (zeros m) 0 ++ (List.range i).map PB).length = 1 + zeros m + i) := Lib.hid (fun i => by simp; omega)
   go_loopg [46, 4] 8 (fun gk s46 s4 wx => ∃ (i pl : Nat) (ra3 : Option Addr) (cap3 : Nat), i + gk = 8 ∧ s46 = .int .i64 i ∧ pl = 1 + zeros m + i ∧ s4 = .slice ra3 pl cap3 ∧ Hid (RowU wx z11 ra3 cap3 (128 :: List.replicate (zeros m) 0 ++ (List.range i).map PB)) ∧ Hid (Below z11 w11 wx))
   case atStart => exact ⟨0, pl, ra3, cap3, by omega, rfl, by have := HPL1.out; omega, rfl, Lib.hid (by simpa using HP.out), HBx⟩
   case round =>
    clear HP HBx HPL
    obtain ⟨i, pl, ra3, cap3, hi, rfl, hpl, rfl, HP, HBx⟩ := hrel
    have c0 : wr.cell? ⟨b, 0, none⟩ = some (.iface pt (.pointer (some ⟨ge, 0, none⟩))) := by
     rw [← HPT.out, HBx.out.cell (p := ⟨b, 0, none⟩) hbz]
     exact HXb.out.cell (j := 0) rfl
    by_cases hlt : i < 8
    ·obtain ⟨gk2, rfl⟩ : ∃ gk2, gk = gk2 + 1 := ⟨gk - 1, by omega⟩
     have ui : (i : Int) < 8 := by omega
     obtain ⟨i8, hi8⟩ : ∃ i8, i8 = 8 * i := ⟨_, rfl⟩
     obtain ⟨is, his⟩ : ∃ is, is = 56 - i8 := ⟨_, rfl⟩
     have e1 : IntKind.i64.wrap (8 * (i : Int)) = (i8 : Int) := by rw [IntWalk.i64_in _ (by omega)]; omega
     have e2 : IntKind.i64.wrap (56 - (i8 : Int)) = (is : Int) := by rw [IntWalk.i64_in _ (by omega)]; omega
     have hz13 : z11 ≤ wr.heap.size := by have := HBx.out.size; rw [HZ.out] at this; exact this
     have HPL := Lib.hid (HPDl.out i)
     rw [← hpl] at HPL
     have hpls : (128 :: List.replicate (zeros m) 0 ++ (List.range i).map PB).length + 1 ≤ 1000000000 := by rw [HPL.out]; omega
     cases lt
     case' false =>
      have us : (is : Int) < 64 := by omega
      obtain ⟨nd, hnd⟩ : ∃ nd, nd = nb / 2 ^ is := ⟨_, rfl⟩
      obtain ⟨cb, hcb⟩ : ∃ cb, cb = PB i := ⟨_, rfl⟩
      have e5 : (nb : Int) / 2 ^ is = (nd : Int) := by rw [hnd, Int.natCast_ediv, Int.natCast_pow]; rfl
      have e6 : IntKind.u8.wrap (nd : Int) = (cb.toNat : Int) := by
       have h1 : cb.toNat = nd % 256 := by
        rw [hcb, HPB.out]
        show (UInt8.ofNat (nb % 2 ^ 64 / 2 ^ (if false = true then 8 * i else 56 - 8 * i) % 256)).toNat = nd % 256
        rw [if_neg (show ¬ (false = true) by decide), ← hi8, ← his, UInt8.toNat_ofNat', hnd, Nat.mod_eq_of_lt (show nb < 2 ^ 64 by have := HNB8.out; omega)]
        omega
       rw [h1]
       unfold IntKind.wrap
       simp [IntKind.bits, IntKind.signed]
      have HCB := Lib.hid hcb
      clear hnd hcb
     case' true =>
      have us : (i8 : Int) < 64 := by omega
      obtain ⟨nd, hnd⟩ : ∃ nd, nd = nb / 2 ^ i8 := ⟨_, rfl⟩
      obtain ⟨cb, hcb⟩ : ∃ cb, cb = PB i := ⟨_, rfl⟩
      have e5 : (nb : Int) / 2 ^ i8 = (nd : Int) := by rw [hnd, Int.natCast_ediv, Int.natCast_pow]; rfl
      have e6 : IntKind.u8.wrap (nd : Int) = (cb.toNat : Int) := by
       have h1 : cb.toNat = nd % 256 := by
        rw [hcb, HPB.out]
        show (UInt8.ofNat (nb % 2 ^ 64 / 2 ^ (if true = true then 8 * i else 56 - 8 * i) % 256)).toNat = nd % 256
        rw [if_pos rfl, ← hi8, UInt8.toNat_ofNat', hnd, Nat.mod_eq_of_lt (show nb < 2 ^ 64 by have := HNB8.out; omega)]
        omega
       rw [h1]
       unfold IntKind.wrap
       simp [IntKind.bits, IntKind.signed]
      have HCB := Lib.hid hcb
      clear hnd hcb
     all_goals
      have HI8 := Lib.hid hi8
      have HPL0 := Lib.hid hpl
      clear hi8 his hpl
      go_wp2_with (first | (at_builtin; refine wpList_appU HP.out [cb] _ rfl 1 rfl (by decide) hpls hz13 rfl (.tmp 59) (.tmp 64) rfl (by show Value.slice _ _ _ = Value.slice _ _ _; rw [HPL.out]) rfl (fun ra4 cap4 w14 hy1 hy2 hy3 => ?_)) | (refine (HCL.out _).mono ?_; rintro e w' ⟨rfl, hw⟩; (have hw2 := hw.symm; clear hw; subst hw2)))
      go_roundg gk2
      case measure => omega
      case rel =>
       refine ⟨i + 1, pl + 1, ra4, cap4, by omega, rfl, by have := HPL0.out; omega, ?_, Lib.hid ?_, Lib.hid (HBx.out.trans (hy2.below (fun i hi => (HP.out.base i hi).1) hz13))⟩
       ·first
         | rfl
         | (congr 1; have := HPL0.out; omega)
       ·rw [List.range_succ, List.map_append, ← List.append_assoc]
        have e : [cb] = [i].map PB := by rw [HCB.out]; rfl
        rw [← e]
        exact hy1
    ·obtain rfl : i = 8 := by omega
     have hcv : (convert 125 9 (.slice ra3 pl cap3)).run Tryz.prog wr = .ok (.string ⟨(128 :: List.replicate (zeros m) 0 ++ (List.range 8).map PB).toArray⟩) wr := by
      have h := convU HP.out
      rw [HPDl.out 8, ← hpl] at h
      exact h
     obtain ⟨ps, hps⟩ : ∃ ps : ByteArray, ps = ⟨(128 :: List.replicate (zeros m) 0 ++ (List.range 8).map PB).toArray⟩ := ⟨_, rfl⟩
     rw [← hps] at hcv
     have HPS : Hid (ps.data.toList = padK k rest.length N) := Lib.hid (by
      rw [hps, HPB.out, HM.out, padK, ← HNB8.out, HLT.out]
      simp)
     have hpss : ps.size ≤ 100000000 := by
      rw [Lib.size_eq, hps]
      have h := HPDl.out 8
      have h2 := zeros_lt m
      simp only []
      omega
     have HSc : Hid (StreamAt wr gc bc gc k ra2 cap2 l rest 0) := Lib.hid (HS11.out.below HBx.out HZ.out.symm)
     have HBr : Hid (Below w.heap.size w wr) := Lib.hid (bTrans HB11.out (by rw [HZ.out]; exact HBx.out))
     have HTc : Hid (TabsAt wr T) := Lib.hid (HT.out.kp (Kp.of (F := fun _ => False) HBr.out) (fun _ e => e.elim))
     have HWR := fun hb => write_any gc bc gc k T ra2 cap2 l rest 0 ps wr HSc.out HTc.out (fun i hi => HNB.out i (by have := HGC.out; omega)) hb hpss (by decide) (by decide)
     have HWR2 := Lib.hid (HWR (by have := HBr.out.size; have := HGC.out; omega))
     clear HWR HP hpl hi hlt c0 hps hpss
     clear hmt hen
     go_upto_region 16 with (go_at_call 261; refine HWR2.out.mono ?_; rintro e w15 ⟨rfl, ra5, cap5, hw1, hw2, hw3⟩)
     have HB15 : Hid (Below w.heap.size w w15) := Lib.hid (HBr.out.trans (hw2.below (fun i hi => by
      rw [HGC.out]
      rcases hi with rfl | rfl | h
      ·exact HSc.out.hb
      ·exact HSc.out.hge
      ·exact (HSc.out.row.base i h).1) HBr.out.size))
     obtain ⟨ws, hws⟩ : ∃ ws, ws = (goF (k.f T) l (rest ++ ps.data.toList)).1 := ⟨_, rfl⟩
     rw [← hws] at hw1
     have HWS : Hid (ws = (goF (k.f T) l (rest ++ padK k rest.length N)).1) := Lib.hid (by rw [hws, HPS.out])
     have HS15 := Lib.hid hw1
     clear hw1 hw2 hw3 hws HWR2 HSc HTc HBr HBx
     obtain ⟨fw, hfw⟩ : ∃ fw, k.wordsF = fw := ⟨_, rfl⟩
     obtain ⟨kl, hkl⟩ : ∃ kl, k.len = kl := ⟨_, rfl⟩
     have HKL := Lib.hid hkl
     have HCW : Hid (Calls Tryz.prog fw #[.pointer (some ⟨gc, 0, none⟩)] w15 fun e w' => ∃ g cap, e = .returned (.slice (some ⟨g, 0, none⟩) kl cap) ∧ Holds w' (some ⟨g, 0, none⟩) (ws.map vw) ∧ Below w15.heap.size w15 w') := Lib.hid (by
      rw [← hfw, ← hkl]
      exact words_any k gc ws w15 HS15.out.eng HS15.out.len)
     have hmt : ∀ (wz : World) (n : Nat) (v : Value), 0 < n → (method n pt v "wherryman/sums.words").run Tryz.prog wz = .ok (fw, v) wz := fun wz n v hn => by rw [← HPT.out, ← hfw]; exact words_method k wz n v hn
     have hen : ∀ (args : Array Value) (wz : World), (callFunc fw args).run Tryz.prog wz = .ok (.enter fw args) wz := fun args wz => by rw [← hfw]; exact words_enters k args wz
     have c5 : w15.cell? ⟨bc, 0, none⟩ = some (.iface pt (.pointer (some ⟨gc, 0, none⟩))) := by
      rw [← HPT.out]
      exact HS15.out.box.cell (j := 0) rfl
     clear hfw hkl
     go_upto_region 18 with (refine HCW.out.mono ?_; rintro e w16 ⟨g6, cap6, rfl, hw1, hw2⟩)
     have HH := Lib.hid hw1
     have HB16 : Hid (Below w.heap.size w w16) := Lib.hid (bTrans HB15.out hw2)
     clear hw1 hw2 hmt hen c5 HCW
     have HWL : Hid (ws.length = kl) := Lib.hid (by rw [← HKL.out]; exact HS15.out.len)
     have hk8 : kl ≤ 8 := by rw [← HKL.out]; cases k <;> decide
     obtain ⟨z16, hz16⟩ : ∃ z, w16.heap.size = z := ⟨_, rfl⟩
     have HZ16 := Lib.hid hz16
     clear hz16
     have HXb16 : Hid (BoxIs w16 b #[.iface k.pty (.pointer (some ⟨ge, 0, none⟩)), .slice ra rest.length cap, .int .i64 N] 226) := Lib.hid (HS.out.box.kp (Kp.of (F := fun _ => False) HB16.out) (fun e => e))
     have hbz16 : b < z16 := by rw [← HZ16.out]; exact HXb16.out.lt
     have hmt : ∀ (wz : World) (n : Nat) (v : Value), 0 < n → (method n pt v "wherryman/sums.little").run Tryz.prog wz = .ok (fl, v) wz := fun wz n v hn => by rw [← HPT.out, ← HFL.out]; exact little_method k wz n v hn
     have hen : ∀ (args : Array Value) (wz : World), (callFunc fl args).run Tryz.prog wz = .ok (.enter fl args) wz := fun args wz => by rw [← HFL.out]; exact little_enters k args wz
     obtain ⟨RV, hRV⟩ : ∃ RV : W → W, RV = fun x => if k.little then rev x else x := ⟨_, rfl⟩
     have HRV := Lib.hid hRV
     clear hRV
     go_loopg [77, 8] kl (fun gk s77 s8 wx => ∃ (i pl : Nat) (ra6 : Option Addr) (cap7 : Nat), i + gk = kl ∧ s77 = .int .i64 i ∧ pl = 4 * i ∧ s8 = .slice ra6 pl cap7 ∧ Hid (RowU wx z16 ra6 cap7 (fours ((ws.take i).map RV))) ∧ Hid (Below z16 w16 wx))
     case atStart => exact ⟨0, 0, none, 0, by omega, rfl, rfl, rfl, Lib.hid (RowU.nil _ _), Lib.hid (Below.refl _ _)⟩
     case round =>
      obtain ⟨i, pl, ra6, cap7, hi, rfl, hpl, rfl, HP, HBx⟩ := hrel
      have c0 : wr.cell? ⟨b, 0, none⟩ = some (.iface pt (.pointer (some ⟨ge, 0, none⟩))) := by
       rw [← HPT.out, HBx.out.cell (p := ⟨b, 0, none⟩) hbz16]
       exact HXb16.out.cell (j := 0) rfl
      have HPl : Hid ((fours ((ws.take i).map RV)).length = pl) := Lib.hid (by
       rw [fours_len, List.length_map, List.length_take, HWL.out]
       omega)
      by_cases hlt : i < kl
      ·obtain ⟨gk2, rfl⟩ : ∃ gk2, gk = gk2 + 1 := ⟨gk - 1, by omega⟩
       obtain ⟨x, hx⟩ : ∃ x, ws[i]? = some x := ⟨_, List.getElem?_eq_getElem (by rw [HWL.out]; exact hlt)⟩
       obtain ⟨g7, o7, hg7, hg7l, hc7⟩ := HH.out.at (k := i) (u := vw x) (by rw [List.getElem?_map, hx]; rfl)
       have cx : wr.cell? ⟨g6, i, none⟩ = some (vw x) := by
        injection hg7 with hg7
        injection hg7 with h1 h2
        rw [← h1, ← h2, Nat.zero_add] at hc7
        rw [← h1] at hg7l
        rw [HBx.out.cell (p := ⟨g6, i, none⟩) (by rw [← HZ16.out]; exact hg7l)]
        exact hc7
       have HTK : Hid (ws.take (i + 1) = ws.take i ++ [x]) := Lib.hid (by rw [List.take_add_one, hx]; rfl)
       have hz13 : z16 ≤ wr.heap.size := by have := HBx.out.size; rw [HZ16.out] at this; exact this
       have hpls : (fours ((ws.take i).map RV)).length + 4 ≤ 1000000000 := by rw [HPl.out]; omega
       have HPL0 := Lib.hid hpl
       have ui : (i : Int) < (kl : Int) := by omega
       clear hg7 hg7l hc7 hx hpl
       cases lt
       case' false =>
        have HFS : Hid (fours ((ws.take (i + 1)).map RV) = fours ((ws.take i).map RV) ++ four x) := Lib.hid (by
         rw [HTK.out, List.map_append, fours_append]
         congr 1
         rw [HRV.out]
         show fours [if k.little = true then rev x else x] = four x
         rw [HLT.out]
         rfl)
        obtain ⟨y, hy⟩ : ∃ y, y = x := ⟨_, rfl⟩
        subst hy
       case' true =>
        have HFS : Hid (fours ((ws.take (i + 1)).map RV) = fours ((ws.take i).map RV) ++ four (rev x)) := Lib.hid (by
         rw [HTK.out, List.map_append, fours_append]
         congr 1
         rw [HRV.out]
         show fours [if k.little = true then rev x else x] = four (rev x)
         rw [HLT.out]
         rfl)
        obtain ⟨y, hy⟩ : ∃ y, rev x = y := ⟨_, rfl⟩
        rw [hy] at HFS
       all_goals
        obtain ⟨q3, hq3⟩ : ∃ q, q = UInt8.ofNat (y >>> 24).toNat := ⟨_, rfl⟩
        obtain ⟨q2, hq2⟩ : ∃ q, q = UInt8.ofNat (y >>> 16).toNat := ⟨_, rfl⟩
        obtain ⟨q1, hq1⟩ : ∃ q, q = UInt8.ofNat (y >>> 8).toNat := ⟨_, rfl⟩
        obtain ⟨q0, hq0⟩ : ∃ q, q = UInt8.ofNat y.toNat := ⟨_, rfl⟩
        have f3 : IntKind.u8.wrap ((y.toNat : Int) / 16777216) = (q3.toNat : Int) := by rw [hq3]; exact u8_word y 24 (by decide)
        have f2 : IntKind.u8.wrap ((y.toNat : Int) / 65536) = (q2.toNat : Int) := by rw [hq2]; exact u8_word y 16 (by decide)
        have f1 : IntKind.u8.wrap ((y.toNat : Int) / 256) = (q1.toNat : Int) := by rw [hq1]; exact u8_word y 8 (by decide)
        have f0 : IntKind.u8.wrap (y.toNat : Int) = (q0.toNat : Int) := by rw [hq0]; exact u8_word0 y
        have HQ : Hid (four y = [q3, q2, q1, q0]) := Lib.hid (by rw [hq3, hq2, hq1, hq0]; rfl)
        clear hq3 hq2 hq1 hq0
       all_goals
        go_wp2_with (first | (at_builtin; refine wpList_appU HP.out [q3, q2, q1, q0] _ rfl 4 rfl (by decide) hpls hz13 rfl (.tmp 88) (.tmp 100) rfl (by show Value.slice _ _ _ = Value.slice _ _ _; rw [HPl.out]) rfl (fun ra8 cap8 w18 hy1 hy2 hy3 => ?_)) | (go_at_call 263; refine (reverse_any x _).mono ?_; rintro e w' ⟨rfl, hw⟩; (have hw2 := hw.symm; clear hw; subst hw2)) | (refine (HCL.out _).mono ?_; rintro e w' ⟨rfl, hw⟩; (have hw2 := hw.symm; clear hw; subst hw2)))
        go_roundg gk2
        case measure => omega
        case rel =>
         refine ⟨i + 1, pl + 4, ra8, cap8, by omega, rfl, by have := HPL0.out; omega, ?_, Lib.hid ?_, Lib.hid (HBx.out.trans (hy2.below (fun i hi => (HP.out.base i hi).1) hz13))⟩
         ·first
           | rfl
           | (rw [HPl.out])
           | (rw [← List.map_take, HPl.out])
         ·rw [HFS.out, HQ.out]
          exact hy1
      ·obtain rfl : i = kl := by omega
       have hcv : (convert 125 9 (.slice ra6 pl cap7)).run Tryz.prog wr = .ok (.string ⟨(fours (ws.map RV)).toArray⟩) wr := by
        have h := convU HP.out
        rw [HPl.out] at h
        rw [List.take_of_length_le (by rw [HWL.out]; exact Nat.le_refl _)] at h
        exact h
       have HFin : Hid ((fours (ws.map RV)) = sumL T k l rest N) := Lib.hid (by rw [HRV.out, HWS.out]; rfl)
       clear hi hlt hpl c0 hmt hen
       go_wp2_with fail
       go_ret
       refine ⟨by rw [← HFin.out]; rfl, bTrans HB16.out ?_⟩
       rw [HZ16.out]
       exact HBx.out
end Go.Proofs.YtchfhojighopkaaGreatDoor
