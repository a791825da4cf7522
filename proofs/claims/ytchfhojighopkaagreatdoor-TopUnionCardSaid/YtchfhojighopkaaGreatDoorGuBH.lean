/-
  Parts of the proof: Um5, Um6, Um7, Um8, Rep.
-/
import Derived.Test.YtchfhojighopkaaGreatDoorGuBG
import Derived.Test.YtchfhojighopkaaGreatDoorGuAA
namespace Go.Proofs.YtchfhojighopkaaGreatDoor
open Go.RowKit

/-- The way from a path to itself. -/
abbrev stF : Value := .func (.func 57) #[] #[]
abbrev ovA (v : Value) : Array Value := #[v, .int .i64 2559, .int .i64 16, .int .i64 1, .int .i64 255, .int .i64 1024, .int .i64 100000, .int .i64 4, .int .i64 1, .string ⟨#[]⟩, stF, stF]
abbrev ov0 : Array Value := #[.nilIface, .int .i64 0, .int .i64 0, .int .i64 0, .int .i64 0, .int .i64 0, .int .i64 0, .int .i64 0, .int .i64 0, .string ⟨#[]⟩, .nilFunc, .nilFunc]
def set12 (w : World) (b : Nat) (v : Value) : World :=
 ((((((((((((w.setCell ⟨b, 0, none⟩ (v)).setCell ⟨b, 1, none⟩ (.int .i64 2559)).setCell ⟨b, 2, none⟩ (.int .i64 16)).setCell ⟨b, 3, none⟩ (.int .i64 1)).setCell ⟨b, 4, none⟩ (.int .i64 255)).setCell ⟨b, 5, none⟩ (.int .i64 1024)).setCell ⟨b, 6, none⟩ (.int .i64 100000)).setCell ⟨b, 7, none⟩ (.int .i64 4)).setCell ⟨b, 8, none⟩ (.int .i64 1)).setCell ⟨b, 9, none⟩ (.string ⟨#[]⟩)).setCell ⟨b, 10, none⟩ (stF)).setCell ⟨b, 11, none⟩ (stF))
theorem set12_kp {F : Nat → Prop} {w0 w : World} (h : Kp F w0 w) {b : Nat} (hb : F b ∨ w0.heap.size ≤ b) (v : Value) : Kp F w0 (set12 w b v) :=
 ((((((((((((h.set hb 0 _).set hb 1 _).set hb 2 _).set hb 3 _).set hb 4 _).set hb 5 _).set hb 6 _).set hb 7 _).set hb 8 _).set hb 9 _).set hb 10 _).set hb 11 _)
theorem ov_room {w : World} {b : Nat} (k : BoxIs w b ov0 80) : (w.cell? ⟨b, 0, none⟩ = some (.nilIface) ∧ w.cell? ⟨b, 1, none⟩ = some (.int .i64 0) ∧ w.cell? ⟨b, 2, none⟩ = some (.int .i64 0) ∧ w.cell? ⟨b, 3, none⟩ = some (.int .i64 0) ∧ w.cell? ⟨b, 4, none⟩ = some (.int .i64 0) ∧ w.cell? ⟨b, 5, none⟩ = some (.int .i64 0) ∧ w.cell? ⟨b, 6, none⟩ = some (.int .i64 0) ∧ w.cell? ⟨b, 7, none⟩ = some (.int .i64 0) ∧ w.cell? ⟨b, 8, none⟩ = some (.int .i64 0) ∧ w.cell? ⟨b, 9, none⟩ = some (.string ⟨#[]⟩) ∧ w.cell? ⟨b, 10, none⟩ = some (.nilFunc) ∧ w.cell? ⟨b, 11, none⟩ = some (.nilFunc)) ∧ w.frozen? ⟨b, 0, none⟩ = false ∧ w.frozen? ⟨b, 1, none⟩ = false ∧ w.frozen? ⟨b, 2, none⟩ = false ∧ w.frozen? ⟨b, 3, none⟩ = false ∧ w.frozen? ⟨b, 4, none⟩ = false ∧ w.frozen? ⟨b, 5, none⟩ = false ∧ w.frozen? ⟨b, 6, none⟩ = false ∧ w.frozen? ⟨b, 7, none⟩ = false ∧ w.frozen? ⟨b, 8, none⟩ = false ∧ w.frozen? ⟨b, 9, none⟩ = false ∧ w.frozen? ⟨b, 10, none⟩ = false ∧ w.frozen? ⟨b, 11, none⟩ = false :=
 ⟨⟨k.cell (j := 0) rfl, k.cell (j := 1) rfl, k.cell (j := 2) rfl, k.cell (j := 3) rfl, k.cell (j := 4) rfl, k.cell (j := 5) rfl, k.cell (j := 6) rfl, k.cell (j := 7) rfl, k.cell (j := 8) rfl, k.cell (j := 9) rfl, k.cell (j := 10) rfl, k.cell (j := 11) rfl⟩, Lib.frozen_of_heap k 0, Lib.frozen_of_heap k 1, Lib.frozen_of_heap k 2, Lib.frozen_of_heap k 3, Lib.frozen_of_heap k 4, Lib.frozen_of_heap k 5, Lib.frozen_of_heap k 6, Lib.frozen_of_heap k 7, Lib.frozen_of_heap k 8, Lib.frozen_of_heap k 9, Lib.frozen_of_heap k 10, Lib.frozen_of_heap k 11⟩
set_option maxHeartbeats 4000000 in
set_option maxRecDepth 100000 in
theorem straight_any (mb : Nat) (w : World) :
  Calls Tryz.prog 28 #[.iface 28 (ptr mb), .agg (featA 2559)] w fun e w' => e = .returned (.agg (ovA (.iface 28 (ptr mb)))) ∧ Below w.heap.size w w' := by
 obtain ⟨h1, h2, hb⟩ := box_two w (featA 2559) ov0 66 80
 obtain ⟨fb, hfb⟩ : ∃ fb, w.heap.size = fb := ⟨_, rfl⟩
 have HZ := Lib.hid hfb
 rw [hfb] at h1 h2
 have HX := Lib.hid (And.intro h1 (And.intro h2 hb))
 clear h1 h2 hb hfb
 go_enter Tryz.func28, Tryz.ntmps28
 go_upto_region 1 with fail
 rw [HZ.out]
 generalize (w.alloc _).alloc _ = w1 at *
 obtain ⟨rz, hrz⟩ : ∃ rz, fb + 1 = rz := ⟨_, rfl⟩
 have HRz := Lib.hid hrz
 rw [hrz] at HX ⊢
 clear hrz
 obtain ⟨d0, d1, d2, d3, d4, d5, d6, d7, d8⟩ := feat_cells HX.out.1
 obtain ⟨⟨p0, p1, p2, p3, p4, p5, p6, p7, p8, p9, p10, p11⟩, f0, f1, f2, f3, f4, f5, f6, f7, f8, f9, f10, f11⟩ := ov_room HX.out.2.1
 have hend : Below w.heap.size w (set12 w1 rz (.iface 28 (ptr mb))) := HX.out.2.2.trans ((set12_kp (Kp.refl (fun j => j = rz) w1) (.inl rfl) _).below (fun j e => by rw [e, HZ.out, ← HRz.out]; omega) HX.out.2.2.size)
 unfold set12 at hend
 go_wp2_with fail
 try simp only [Exit.inBlock, Exit.then]
 refine bodyPost_ret (v := .agg (ovA (.iface 28 (ptr mb)))) ?_ rfl ⟨rfl, hend⟩
 clear hend
 simp [results, Tryz.f28]
 go_simp
theorem st1_any (p : ByteArray) (w : World) : Calls Tryz.prog 57 #[.string p] w fun e w' => e = .returned (.tuple #[.string p, .bool true]) ∧ w' = w := by
 go_enter Tryz.func57, Tryz.ntmps57
 go_wp2_with fail
 go_ret2
 exact ⟨rfl, rfl⟩
section
variable {w0 w : World} {S : Two} {N : Int}
def Union1P (S : Two) (b : Bool) (w : World) (e : Ending) (w' : World) : Prop :=
 (∃ ob : Nat, e = .returned (.tuple #[.iface 77 (ptr ob), .int .i64 0]) ∧ BoxIs w' ob (ovA (memI S b)) 83 ∧ w.heap.size ≤ ob) ∧ Below w.heap.size w w'
set_option maxHeartbeats 16000000 in
set_option maxRecDepth 100000 in
theorem union1_any (hJ : J w w0.heap.size S N) (b : Bool) {la : Option Addr} {c : Nat} (hH : HoldsR w la 1 [[memI S b]]) {cr ch se : Int} (hpol : polOk cr ch se = true) :
  Calls Tryz.prog 8 #[.slice la 1 c, .agg #[.int .i64 cr, .int .i64 ch, .int .i64 se, .slice none 0 0]] w (Union1P S b w) := by
 have hH2 : ∀ W, Below w.heap.size w W → HoldsR W la 1 ([(S.M b).b].map fun b => [Value.iface 28 (ptr b)]) := fun W hb => hH.under hb
 have hF2 : ∀ W, Below w.heap.size w W → ∀ q ∈ [(S.M b).b], FeatBox W q wideF := fun W hb q hq => by
  have hj := hJ.below hb
  rw [List.mem_singleton.1 hq]
  have hbx := (hj.mem b).box
  have hf := (hj.flat b).feat
  rw [hf] at hbx
  exact ⟨hbx.lt, hbx.cell (j := 0) rfl, hbx.cell (j := 1) rfl, hbx.cell (j := 2) rfl, hbx.cell (j := 3) rfl, hbx.cell (j := 4) rfl, hbx.cell (j := 5) rfl, hbx.cell (j := 6) rfl, hbx.cell (j := 7) rfl, hbx.cell (j := 8) rfl⟩
 have HCh := Lib.hid (fun W (hb : Below w.heap.size w W) => checkU_any (la := la) (c := c) (cr := cr) (ch := ch) (se := se) (fx := []) (fa := none) (fc := 0) [(S.M b).b] ⟨by show 1 ≤ 1; decide, by show 1 ≤ 2; decide⟩ (hH2 W hb) (HoldsR.none _ _ _))
 unfold CheckP at HCh
 have HTo := Lib.hid (fun W (hb : Below w.heap.size w W) => together_any (la := la) (c := c) [(S.M b).b] ⟨by show 1 ≤ 1; decide, by show 1 ≤ 2; decide⟩ (hH2 W hb) (hF2 W hb))
 have HSt := Lib.hid (fun W => straight_any (S.M b).b W)
 have HPo := Lib.hid hpol
 obtain ⟨lg, off, hla, _, _⟩ := hH.at (k := 0) (row := [memI S b]) rfl
 subst hla
 have HLw : Hid (∀ W, Below w.heap.size w W → W.cell? ⟨lg, off, none⟩ = some (.iface 28 (ptr (S.M b).b))) := Lib.hid (fun W hb => by
  obtain ⟨lg2, off2, e2, _, c2⟩ := (hH.under hb).at (k := 0) (row := [memI S b]) rfl
  injection e2 with e2
  injection e2 with q1 q2
  subst q1 q2
  have := c2 0 _ rfl
  simpa [memI] using this)
 have hx1 : BoxIs (w.alloc (.cells #[.int .i64 cr, .int .i64 ch, .int .i64 se, .slice none 0 0] 24)) w.heap.size #[.int .i64 cr, .int .i64 ch, .int .i64 se, .slice none 0 0] 24 := heap_alloc_new _ _
 have hb1 : Below w.heap.size w (w.alloc (.cells #[.int .i64 cr, .int .i64 ch, .int .i64 se, .slice none 0 0] 24)) := bAlloc (Below.refl _ _) _
 obtain ⟨xb, hxb⟩ : ∃ xb, w.heap.size = xb := ⟨_, rfl⟩
 have HZ := Lib.hid hxb
 rw [hxb] at hx1
 have HX1 := Lib.hid hx1
 have HB1 := Lib.hid hb1
 have HC1 := Lib.hid (HCh.out _ hb1)
 have x0 := hx1.cell (j := 0) rfl
 have x1 := hx1.cell (j := 1) rfl
 have x2 := hx1.cell (j := 2) rfl
 have x3 := hx1.cell (j := 3) rfl
 clear hJ hH hxb hH2 hF2 hx1 hb1 HCh hpol
 go_enter Tryz.func8, Tryz.ntmps8
 go_upto_region 1 with fail
 rw [HZ.out]
 generalize w.alloc _ = w1 at *
 go_upto_region 2 with (go_at_call 26; refine HC1.out.mono ?_; rintro e w2 ⟨⟨z, rfl, hz1, hz2⟩, hb2⟩)
 have HX2 := Lib.hid (HX1.out.under hb2)
 have HB2 := Lib.hid (bTrans HB1.out hb2)
 have hz0 : z = 0 := by first | exact hz2 HPo.out rfl | exact hz2 HPo.out trivial
 subst hz0
 clear hb2 x0 x1 x2 x3 HX1 HB1 HC1 hz1 hz2
 have HT2 := Lib.hid (HTo.out _ HB2.out)
 clear HTo
 go_upto_region 5 with (go_at_call 27; refine HT2.out.mono ?_; rintro e w3 ⟨rfl, hb3⟩)
 have hb4 : Below w3.heap.size w3 (w3.alloc (.cells (featA 2559) 66)) := bAlloc (Below.refl _ _) _
 have hx4 : BoxIs (w3.alloc (.cells (featA 2559) 66)) w3.heap.size (featA 2559) 66 := heap_alloc_new _ _
 have HX4 := Lib.hid ((HX2.out.under hb3).under hb4)
 have HB4 : Hid (Below w.heap.size w _) := Lib.hid (bTrans (bTrans HB2.out hb3) hb4)
 obtain ⟨fb, hfb⟩ : ∃ fb, w3.heap.size = fb := ⟨_, rfl⟩
 rw [hfb] at hx4 ⊢
 clear hb3 hb4 hfb HX2 HB2 HT2
 generalize w3.alloc _ = w7 at *
 have HF7 := Lib.hid hx4
 have x3 := HX4.out.cell (j := 3) rfl
 clear hx4
 go_upto_region 8 with fail
 clear x3
 have hS : Below w7.heap.size w7 w7.drew := ⟨rfl, rfl, rfl, Nat.le_refl _, fun _ _ => rfl⟩
 have HLc : Hid (∀ W, Below w7.heap.size w7 W → W.cell? ⟨lg, off, none⟩ = some (.iface 28 (ptr (S.M b).b))) := Lib.hid (fun W hW => HLw.out W (bTrans HB4.out hW))
 clear HLw
 have hgo : True := trivial
 cases hgo with
 | intro =>
  refine wp_region_seq (fun W => Below w7.heap.size w7 W) [(0, true), (1, true), (2, true), (3, true), (4, false), (5, true), (6, false), (7, true), (8, true), (9, true)] (by as_aux_lemma => kernel_rfl) (by as_aux_lemma => kernel_rfl) (by decide) (by as_aux_lemma => kernel_rfl) hS ?_
  intro OPS HO
  iterate 4
   refine seq_take (o := ⟨_, _, _, _, _, _⟩) (v := ?_) (by rw [HO.out]; rfl) (by rfl) ?_ ?_
   rotate_left 1
   ·first | ((intro W _; go_simp) <;> with_reducible rfl) | (intro W hW; obtain ⟨d0, d1, d2, d3, d4, d5, d6, d7, d8⟩ := feat_cells (HF7.out.under hW); have y0 := HLc.out _ hW; (go_simp <;> with_reducible rfl))
   try simp only [Act.put, List.setIfInBounds_toArray, List.set_cons_zero, List.set_cons_succ]
  refine seq_do (o := ⟨_, _, _, _, _, _⟩) (by rw [HO.out]; rfl) (by rfl) (fun K hK => ?_)
  go_wp2_with (go_at_call 28; refine (HSt.out _).mono ?_; rintro e w8 ⟨rfl, hb8⟩; replace hS : Below w7.heap.size w7 w8 := bTrans hS hb8; clear hb8)
  refine hK.out _ _ hS (fun _ => ?_)
  clear hK K
  try simp only [Act.put, List.setIfInBounds_toArray, List.set_cons_zero, List.set_cons_succ]
  refine seq_take (o := ⟨_, _, _, _, _, _⟩) (v := ?_) (by rw [HO.out]; rfl) (by rfl) ?_ ?_
  rotate_left 1
  ·first | ((intro W _; go_simp) <;> with_reducible rfl) | (intro W hW; obtain ⟨d0, d1, d2, d3, d4, d5, d6, d7, d8⟩ := feat_cells (HF7.out.under hW); have y0 := HLc.out _ hW; (go_simp <;> with_reducible rfl))
  try simp only [Act.put, List.setIfInBounds_toArray, List.set_cons_zero, List.set_cons_succ]
  refine seq_do (o := ⟨_, _, _, _, _, _⟩) (by rw [HO.out]; rfl) (by rfl) (fun K hK => ?_)
  go_wp2_with fail
  obtain ⟨OB, hOB⟩ : ∃ OB : Array Value, OB = ovA (memI S b) := ⟨_, rfl⟩
  have hb9 : Below w8.heap.size w8 (w8.alloc (.cells OB 83)) := bAlloc (Below.refl _ _) _
  have hx9 : BoxIs (w8.alloc (.cells OB 83)) w8.heap.size OB 83 := heap_alloc_new _ _
  have HSz := Lib.hid hS.size
  replace hS : Below w7.heap.size w7 (w8.alloc (.cells OB 83)) := bTrans hS hb9
  rw [hOB] at hS hb9 hx9
  have HX9 := Lib.hid (And.intro hx9 hb9)
  clear hb9 hx9 hOB
  refine hK.out _ _ hS (fun _ => ?_)
  clear hK K
  iterate 3
   try simp only [Act.put, List.setIfInBounds_toArray, List.set_cons_zero, List.set_cons_succ]
   refine seq_take (o := ⟨_, _, _, _, _, _⟩) (v := ?_) (by rw [HO.out]; rfl) (by rfl) ?_ ?_
   rotate_left 1
   ·first | ((intro W _; go_simp) <;> with_reducible rfl) | (intro W hW; obtain ⟨d0, d1, d2, d3, d4, d5, d6, d7, d8⟩ := feat_cells (HF7.out.under hW); have y0 := HLc.out _ hW; (go_simp <;> with_reducible rfl))
  try simp only [Act.put, List.setIfInBounds_toArray, List.set_cons_zero, List.set_cons_succ]
  refine seq_done ?_
  go_wp2_with fail
  go_ret2
  exact ⟨⟨_, rfl, HX9.out.1, Nat.le_trans HB4.out.size HSz.out⟩, bTrans HB4.out hS⟩
end
end Go.Proofs.YtchfhojighopkaaGreatDoor
namespace Go.Proofs.YtchfhojighopkaaGreatDoor
open Go.RowKit

theorem sizeOv (w : World) : (sizeOf 80).run Tryz.prog w = .ok 12 w := by kernel_rfl
theorem method_in {w : World} {i : TypeInfo} {f : FuncId} {nm : String} (hi : Tryz.prog.info? 77 = some i) (hm : (i.methods.find? (·.name == nm)).map (fun m => (m.path.toList, m.func)) = some ([⟨83, 0, true⟩], some (f, true))) {n : Nat} (hn : 0 < n) (b : Nat) : (method n 77 (ptr b) nm).run Tryz.prog w = .ok (f, ptr b) w := by
 obtain ⟨k, rfl⟩ : ∃ k, n = k + 1 := ⟨n - 1, by omega⟩
 cases h : i.methods.find? (·.name == nm) with
 | none => rw [h] at hm; cases hm
 | some m =>
  rw [h] at hm
  simp only [Option.map_some, Option.some.injEq, Prod.mk.injEq] at hm
  unfold method
  simp [typeInfo, hi, h, follow, hm.1, hm.2, run_underlying Tryz.underlying83, run_underlying Tryz.underlying80, Place.get, asAddr, fieldPlace, receiverAt, Addr.add]
theorem sngM_list (w : World) (n : Nat) (b : Nat) (hn : 0 < n) : (method n 77 (ptr b) "List").run Tryz.prog w = .ok (195, ptr b) w := by
 obtain ⟨i, hi, hm⟩ := Option.map_eq_some_iff.1 (show (Tryz.prog.info? 77).map (fun i => (i.methods.find? (·.name == "List")).map (fun m => (m.path.toList, m.func))) = some (some ([⟨83, 0, true⟩], some (195, true))) by kernel_rfl)
 exact method_in hi hm hn b
theorem sngM_get (w : World) (n : Nat) (b : Nat) (hn : 0 < n) : (method n 77 (ptr b) "Get").run Tryz.prog w = .ok (194, ptr b) w := by
 obtain ⟨i, hi, hm⟩ := Option.map_eq_some_iff.1 (show (Tryz.prog.info? 77).map (fun i => (i.methods.find? (·.name == "Get")).map (fun m => (m.path.toList, m.func))) = some (some ([⟨83, 0, true⟩], some (194, true))) by kernel_rfl)
 exact method_in hi hm hn b
theorem sngA_get (w : World) (n : Nat) (b : Nat) (hn : 0 < n) : (nilAhead n 77 (ptr b) "Get").run Tryz.prog w = .ok (some false) w := by
 obtain ⟨i, hi, hm⟩ := Option.map_eq_some_iff.1 (show (Tryz.prog.info? 77).map (fun i => (i.methods.find? (·.name == "Get")).map (fun m => (m.path.toList, m.func))) = some (some ([⟨83, 0, true⟩], some (194, true))) by kernel_rfl)
 obtain ⟨k, rfl⟩ : ∃ k, n = k + 1 := ⟨n - 1, by omega⟩
 cases h : i.methods.find? (·.name == "Get") with
 | none => rw [h] at hm; cases hm
 | some m =>
  rw [h] at hm
  simp only [Option.map_some, Option.some.injEq, Prod.mk.injEq] at hm
  unfold nilAhead
  simp [typeInfo, hi, h, followBlind, hm.1, hm.2, run_underlying Tryz.underlying83]
/-- A cell is given the value that it has. -/
theorem RowG.same {e : TypeId} {m : Nat} {w : World} {B cap g j : Nat} {xs : List (List Value)} {v : Value} (h : RowG e m w B (some ⟨g, 0, none⟩) cap xs) (hc : w.cell? ⟨g, j, none⟩ = some v) : RowG e m (w.setCell ⟨g, j, none⟩ v) B (some ⟨g, 0, none⟩) cap xs := by
 refine ⟨h.1, h.2.1, ?_⟩
 rcases h.2.2 with ⟨hv, _⟩ | ⟨g', c, cur, hv, hB, hg, hrest⟩
 ·cases hv
 ·injection hv with hv1 hv2 hv3
  injection hv1 with hv1
  injection hv1 with hv1
  subst hv1
  have hb : BoxIs w g cur e := hg
  have h1 := hb.putAt j v
  have hcur : cur.setIfInBounds j v = cur := by
   have h2 : cur[j]? = some v := by
    have h3 := hc
    simp [World.cell?, hg] at h3
    exact h3
   apply Array.ext_getElem?
   intro q
   rw [Array.getElem?_setIfInBounds]
   split
   ·rename_i hq
    subst hq
    split
    ·exact h2.symm
    ·rename_i hlt
     rw [Array.getElem?_eq_none (by omega)]
   ·rfl
  rw [hcur] at h1
  exact .inr ⟨g, c, cur, by rw [hv2, hv3], hB, h1, hrest⟩
section
variable {w0 w w' : World} {S : Two} {N : Int} {T : Tabs} {p : ByteArray} {v : Value} {ob : Nat}
set_option maxHeartbeats 1000000 in
theorem lower_any (hb : BoxIs w ob (ovA v) 83) (p : ByteArray) :
  Calls Tryz.prog 206 #[ptr ob, .string p] w fun e w' => e = .returned (.tuple #[.string p, .int .i64 0]) ∧ w' = w := by
 have c10 := hb.cell (j := 10) rfl
 have HSt := Lib.hid (fun W => st1_any p W)
 clear hb
 go_enter Tryz.func206, Tryz.ntmps206
 go_wp2_with (go_at_call 57; refine (HSt.out _).mono ?_; rintro e w2 ⟨rfl, hw⟩; have hw2 := hw.symm; clear hw; subst hw2)
 go_ret2
 exact ⟨rfl, rfl⟩
set_option maxHeartbeats 4000000 in
set_option maxRecDepth 100000 in
theorem told_any (hb : BoxIs w ob (ovA v) 83) (x : InfS) :
  Calls Tryz.prog 207 #[ptr ob, .agg x.row.toArray, .int .i64 0] w fun e w' => e = .returned (.tuple #[.agg x.row.toArray, .int .i64 0]) ∧ Below w.heap.size w w' := by
 obtain ⟨A, dd, z, t, sa, sn, sc, ix⟩ := x
 show Calls Tryz.prog 207 #[ptr ob, .agg #[.string A, .bool dd, .int .i64 z, .int .i64 t, .slice sa sn sc, .slice none 0 0, .string ix], .int .i64 0] w fun e w' => e = .returned (.tuple #[.agg #[.string A, .bool dd, .int .i64 z, .int .i64 t, .slice sa sn sc, .slice none 0 0, .string ix], .int .i64 0]) ∧ Below w.heap.size w w'
 have HSt := Lib.hid (fun W => st1_any A W)
 obtain ⟨h1, h2, hb1⟩ := box_two w #[.string A, .bool dd, .int .i64 z, .int .i64 t, .slice sa sn sc, .slice none 0 0, .string ix] info0 37 37
 have c11 := (hb.under hb1).cell (j := 11) rfl
 obtain ⟨xb, hxb⟩ : ∃ xb, w.heap.size = xb := ⟨_, rfl⟩
 have HZ := Lib.hid hxb
 rw [hxb] at h1 h2
 have HX := Lib.hid (And.intro h1 (And.intro h2 hb1))
 have d0 := h1.cell (j := 0) rfl
 clear hb h1 h2 hb1 hxb
 go_enter Tryz.func207, Tryz.ntmps207
 go_upto_region 3 with fail
 rw [HZ.out]
 generalize (w.alloc _).alloc _ = w1 at *
 obtain ⟨rz, hrz⟩ : ∃ rz, xb + 1 = rz := ⟨_, rfl⟩
 have HRz := Lib.hid hrz
 rw [hrz] at HX ⊢
 clear hrz
 go_quiet ((go_at_call 57; exact Calls.quiet_of_same (HSt.out _)))
 have HX2 : Hid (BoxIs (w1.drewN nq) xb #[.string A, .bool dd, .int .i64 z, .int .i64 t, .slice sa sn sc, .slice none 0 0, .string ix] 37 ∧ BoxIs (w1.drewN nq) rz info0 37 ∧ Below w.heap.size w (w1.drewN nq)) := Lib.hid ⟨HX.out.1, HX.out.2.1, ⟨HX.out.2.2.os, HX.out.2.2.tape, HX.out.2.2.output, HX.out.2.2.size, HX.out.2.2.block⟩⟩
 clear HX d0 c11 HSt
 generalize w1.drewN nq = w2 at *
 have d0 := HX2.out.1.cell (j := 0) rfl
 have f0 := Lib.frozen_of_heap HX2.out.1 0
 go_upto_region 7 with fail
 have hk3 : Kp (fun j => j = xb) w2 (w2.setCell ⟨xb, 0, none⟩ (.string A)) := (Kp.refl (fun j => j = xb) w2).set (b := xb) (.inl rfl) 0 _
 have hx3 : BoxIs (w2.setCell ⟨xb, 0, none⟩ (.string A)) xb #[.string A, .bool dd, .int .i64 z, .int .i64 t, .slice sa sn sc, .slice none 0 0, .string ix] 37 := HX2.out.1.putAt 0 (.string A)
 have hz3 := HX2.out.2.1.kp hk3 (by have := HRz.out; omega)
 have HB3 : Hid (Below w.heap.size w _) := Lib.hid (HX2.out.2.2.trans (hk3.below (fun j e => by rw [e, HZ.out]; exact Nat.le_refl _) HX2.out.2.2.size))
 clear hk3 d0 f0 HX2
 generalize w2.setCell _ _ = w3 at *
 have d0 := hx3.cell (j := 0) rfl
 have d1 := hx3.cell (j := 1) rfl
 have d2 := hx3.cell (j := 2) rfl
 have d3 := hx3.cell (j := 3) rfl
 have d4 := hx3.cell (j := 4) rfl
 have d5 := hx3.cell (j := 5) rfl
 have d6 := hx3.cell (j := 6) rfl
 obtain ⟨⟨p0, p1, p2, p3, p4, p5, p6⟩, f0, f1, f2, f3, f4, f5, f6⟩ := info_room hz3
 have hend : Below w.heap.size w (set7 w3 rz A dd z t (.slice sa sn sc) ix) := HB3.out.trans ((set7_kp (Kp.refl (fun j => j = rz) w3) (.inl rfl) _ _ _ _ _ _).below (fun j e => by rw [e, HZ.out, ← HRz.out]; omega) HB3.out.size)
 unfold set7 at hend
 clear hx3 hz3 HB3
 go_wp2_with fail
 try simp only [Exit.inBlock, Exit.then]
 refine bodyPost_ret (v := .tuple #[.agg #[.string A, .bool dd, .int .i64 z, .int .i64 t, .slice sa sn sc, .slice none 0 0, .string ix], .int .i64 0]) ?_ rfl ⟨rfl, hend⟩
 clear hend
 simp [results, Tryz.f207]
 go_simp
end
end Go.Proofs.YtchfhojighopkaaGreatDoor
namespace Go.Proofs.YtchfhojighopkaaGreatDoor
open Go.RowKit

def setR (w : World) (g o : Nat) (x : InfS) : World :=
 ((((((w.setCell ⟨g, o, none⟩ (.string x.path)).setCell ⟨g, o + 1, none⟩ (.bool x.dir)).setCell ⟨g, o + 2, none⟩ (.int .i64 x.size)).setCell ⟨g, o + 3, none⟩ (.int .i64 x.time)).setCell ⟨g, o + 4, none⟩ (.slice x.sa x.sn x.sc)).setCell ⟨g, o + 5, none⟩ (.slice none 0 0)).setCell ⟨g, o + 6, none⟩ (.string x.id)
theorem setR_kp {F : Nat → Prop} {w0 w : World} (h : Kp F w0 w) {g : Nat} (hb : F g ∨ w0.heap.size ≤ g) (o : Nat) (x : InfS) : Kp F w0 (setR w g o x) :=
 ((((((h.set hb o _).set hb (o + 1) _).set hb (o + 2) _).set hb (o + 3) _).set hb (o + 4) _).set hb (o + 5) _).set hb (o + 6) _
theorem RowG.same7 {w : World} {B cap g i : Nat} {xs : List InfS} {x : InfS} (h : RowG 37 7 w B (some ⟨g, 0, none⟩) cap (xs.map InfS.row)) (hx : xs[i]? = some x) : RowG 37 7 (setR w g (i * 7) x) B (some ⟨g, 0, none⟩) cap (xs.map InfS.row) := by
 have hr : (xs.map InfS.row)[i]? = some x.row := by rw [List.getElem?_map, hx]; rfl
 have c0 : w.cell? ⟨g, i * 7, none⟩ = some (.string x.path) := h.cell_at (by decide) hr (j := 0) rfl
 have h0 := h.same c0
 have c1 : _ = some (Value.bool x.dir) := h0.cell_at (by decide) hr (j := 1) rfl
 have h1 := h0.same c1
 have c2 : _ = some (Value.int .i64 x.size) := h1.cell_at (by decide) hr (j := 2) rfl
 have h2 := h1.same c2
 have c3 : _ = some (Value.int .i64 x.time) := h2.cell_at (by decide) hr (j := 3) rfl
 have h3 := h2.same c3
 have c4 : _ = some (Value.slice x.sa x.sn x.sc) := h3.cell_at (by decide) hr (j := 4) rfl
 have h4 := h3.same c4
 have c5 : _ = some (Value.slice none 0 0) := h4.cell_at (by decide) hr (j := 5) rfl
 have h5 := h4.same c5
 have c6 : _ = some (Value.string x.id) := h5.cell_at (by decide) hr (j := 6) rfl
 exact h5.same c6
theorem RowG.room {e : TypeId} {m : Nat} {w : World} {B cap g : Nat} {xs : List (List Value)} (h : RowG e m w B (some ⟨g, 0, none⟩) cap xs) (j : Nat) : w.frozen? ⟨g, j, none⟩ = false := by
 rcases h.2.2 with ⟨hv, _⟩ | ⟨g', c, cur, hv, hB, hg, _⟩
 ·cases hv
 ·injection hv with hv1 hv2 hv3
  injection hv1 with hv1
  injection hv1 with hv1
  subst hv1
  exact Lib.frozen_of_heap hg j
section
variable {w0 w w' : World} {S : Two} {N : Int} {T : Tabs} {ob L : Nat} {b : Bool}
/-- What holds while a call asks the union of one. -/
def InvS (w0 : World) (S : Two) (N : Int) (L : Nat) (b : Bool) (ob : Nat) (W : World) : Prop := InvJ w0 S N L W ∧ BoxIs W ob (ovA (memI S b)) 83
def SListP (w0 : World) (S : Two) (N : Int) (L : Nat) (b : Bool) (ob : Nat) (w : World) (e : Ending) (w' : World) : Prop :=
 ∃ (xs : List InfS) (a : Option Addr) (cap : Nat), e = .returned (.tuple #[.slice a xs.length cap, .string ⟨#[]⟩, .int .i64 0]) ∧ RowG 37 7 w' w.heap.size a cap (xs.map InfS.row) ∧ (xs = [] → a = none ∧ cap = 0) ∧ FlatL (S.s b) xs ∧ InvS w0 S N L b ob w' ∧ Kp S.foot w w'
set_option maxHeartbeats 8000000 in
set_option maxRecDepth 100000 in
theorem sList_any (hE : Env w0) (hV : StV L (InvJ w0 S N L) S.foot 28 (ptr (S.M b).b) 161 160 (ptr (S.M b).b) (FlatL (S.s b)) (RelF (S.s b))) (h : InvS w0 S N L b ob w) (hob : ¬ S.foot ob) :
  Calls Tryz.prog 195 #[ptr ob, .string ⟨#[]⟩, .string ⟨#[]⟩] w (SListP w0 S N L b ob w) := by
 have HCk := Lib.hid (check_any ⟨#[]⟩ w (hE.below h.1.2.1 (Nat.le_refl _)) (by decide))
 rw [show Wh.pathErr (⟨#[]⟩ : ByteArray).data.toList = 0 by decide] at HCk
 have HLo := Lib.hid (fun W (hb : BoxIs W ob (ovA (memI S b)) 83) => lower_any hb ⟨#[]⟩)
 have HTo := Lib.hid (fun W x (hb : BoxIs W ob (ovA (memI S b)) 83) => told_any hb x)
 have HLi := Lib.hid hV.list
 have HKe := Lib.hid hV.keep
 have HLw := Lib.hid hV.low
 have HFl := Lib.hid hV.flat
 have hML := memM_list
 have HI := Lib.hid h
 have HOb := Lib.hid hob
 clear hE hV h hob
 go_enter Tryz.func195, Tryz.ntmps195
 go_upto_region 4 with (go_at_call 15; refine HCk.out.mono ?_; rintro e w1 ⟨rfl, hb1⟩)
 have HO1 := Lib.hid (HI.out.2.under hb1)
 have HI1 := Lib.hid (HKe.out _ _ HI.out.1 (Kp.of hb1))
 have HB1 := Lib.hid hb1
 have HL1 := Lib.hid (HLo.out w1 HO1.out)
 clear hb1 HCk HLo
 go_upto_region 7 with (go_at_call 206; refine HL1.out.mono ?_; rintro e w2 ⟨rfl, hw⟩; have hw2 := hw.symm; clear hw; subst hw2)
 have c0 : w1.cell? ⟨ob, 0, none⟩ = some (memI S b) := HO1.out.cell (j := 0) rfl
 have HLs := Lib.hid (HLi.out w1 HI1.out)
 unfold memI at c0
 obtain ⟨mb, hmb⟩ : ∃ mb, (S.M b).b = mb := ⟨_, rfl⟩
 have HMb := Lib.hid hmb
 rw [hmb] at c0 HLs
 clear HL1 hmb
 go_upto_region 8 with (go_at_call 161; refine HLs.out.mono ?_; rintro e w3 ⟨xs, a, cap, rfl, hr3, hn3, hp3, hi3, hk3⟩)
 have HR3 := Lib.hid hr3
 have HP3 := Lib.hid (And.intro hn3 hp3)
 have HI3 := Lib.hid hi3
 have HO3 := Lib.hid (HO1.out.kp hk3 HOb.out)
 have HK3 : Hid (Kp S.foot w w3) := Lib.hid ((Kp.of HB1.out).trans hk3)
 have hxl : xs.length < 20 := (HFl.out xs hp3).1
 obtain ⟨n, hn⟩ : ∃ n, xs.length = n := ⟨_, rfl⟩
 have HN := Lib.hid hn
 rw [hn] at hxl ⊢
 have hgb : ∀ j, rb a j → w1.heap.size ≤ j := fun j hj => (hr3.base j hj).1
 have HGb := Lib.hid hgb
 have HLz : Hid (L ≤ w1.heap.size ∧ w.heap.size ≤ w1.heap.size ∧ ob < w1.heap.size) := Lib.hid ⟨HLw.out _ HI1.out, HB1.out.size, HO1.out.lt⟩
 clear hr3 hn3 hp3 hi3 hk3 hn hgb c0 HLs HO1
 go_upto_region 9 with fail
 go_loopg [39] n (fun gk s39 wx => ∃ i : Nat, s39 = .int .i64 i ∧ i + gk = n ∧ Hid (RowG 37 7 wx w1.heap.size a cap (xs.map InfS.row)) ∧ Hid (InvJ w0 S N L wx) ∧ Hid (BoxIs wx ob (ovA (memI S b)) 83) ∧ Hid (Kp S.foot w wx))
 case atStart => exact ⟨0, rfl, by omega, HR3, HI3, HO3, HK3⟩
 case round =>
  clear HR3 HI3 HO3 HK3
  obtain ⟨i, rfl, hig, HR, HIx, HOx, HK⟩ := hrel
  by_cases hlt : i < n
  case neg =>
   have hltz : ¬ (i : Int) < (n : Int) := by omega
   go_wp2_with fail
   go_ret3
   exact ⟨xs, a, cap, by rw [HN.out]; rfl, HR.out.lower HLz.out.2.1, HP3.out.1, HP3.out.2, ⟨HIx.out, HOx.out⟩, HK.out⟩
  case pos =>
   have hltz : (i : Int) < (n : Int) := by omega
   obtain ⟨g', rfl⟩ : ∃ g', gk = g' + 1 := ⟨gk - 1, by omega⟩
   obtain ⟨x, hx⟩ : ∃ x, xs[i]? = some x := ⟨_, List.getElem?_eq_getElem (by rw [HN.out]; exact hlt)⟩
   have hrx : (xs.map InfS.row)[i]? = some x.row := by rw [List.getElem?_map, hx]; rfl
   obtain ⟨g, rfl⟩ := HR.out.some_of (by rw [List.length_map, HN.out]; omega)
   have c0 : wr.cell? ⟨g, i * 7, none⟩ = some (.string x.path) := HR.out.cell_at (by decide) hrx (j := 0) rfl
   have c1 : wr.cell? ⟨g, i * 7 + 1, none⟩ = some (.bool x.dir) := HR.out.cell_at (by decide) hrx (j := 1) rfl
   have c2 : wr.cell? ⟨g, i * 7 + 2, none⟩ = some (.int .i64 x.size) := HR.out.cell_at (by decide) hrx (j := 2) rfl
   have c3 : wr.cell? ⟨g, i * 7 + 3, none⟩ = some (.int .i64 x.time) := HR.out.cell_at (by decide) hrx (j := 3) rfl
   have c4 : wr.cell? ⟨g, i * 7 + 4, none⟩ = some (.slice x.sa x.sn x.sc) := HR.out.cell_at (by decide) hrx (j := 4) rfl
   have c5 : wr.cell? ⟨g, i * 7 + 5, none⟩ = some (.slice none 0 0) := HR.out.cell_at (by decide) hrx (j := 5) rfl
   have c6 : wr.cell? ⟨g, i * 7 + 6, none⟩ = some (.string x.id) := HR.out.cell_at (by decide) hrx (j := 6) rfl
   have HTx := Lib.hid (HTo.out wr x HOx.out)
   have HX := Lib.hid (And.intro hx hrx)
   clear hx hrx
   obtain ⟨A, dd, z, t, sa, sn, sc, ix⟩ := x
   dsimp only at c0 c1 c2 c3 c4 c6
   have HTy : Hid (Calls Tryz.prog 207 #[ptr ob, .agg #[.string A, .bool dd, .int .i64 z, .int .i64 t, .slice sa sn sc, .slice none 0 0, .string ix], .int .i64 0] wr fun e w' => e = .returned (.tuple #[.agg #[.string A, .bool dd, .int .i64 z, .int .i64 t, .slice sa sn sc, .slice none 0 0, .string ix], .int .i64 0]) ∧ Below wr.heap.size wr w') := HTx
   clear HTx
   have hgw := HGb.out g ⟨_, rfl, rfl⟩
   have HGw := Lib.hid hgw
   clear hgw
   go_wp2_with fail
   refine HTy.out.mono ?_
   rintro e w5 ⟨rfl, hb5⟩
   have HR5 := Lib.hid (HR.out.kp (Kp.of (F := fun _ => False) hb5) (fun _ _ e => e))
   have HB5 := Lib.hid hb5
   clear hb5 c0 c1 c2 c3 c4 c5 c6
   have e0 : w5.cell? ⟨g, i * 7, none⟩ = some (.string A) := HR5.out.cell_at (by decide) HX.out.2 (j := 0) rfl
   have e1 : w5.cell? ⟨g, i * 7 + 1, none⟩ = some (.bool dd) := HR5.out.cell_at (by decide) HX.out.2 (j := 1) rfl
   have e2 : w5.cell? ⟨g, i * 7 + 2, none⟩ = some (.int .i64 z) := HR5.out.cell_at (by decide) HX.out.2 (j := 2) rfl
   have e3 : w5.cell? ⟨g, i * 7 + 3, none⟩ = some (.int .i64 t) := HR5.out.cell_at (by decide) HX.out.2 (j := 3) rfl
   have e4 : w5.cell? ⟨g, i * 7 + 4, none⟩ = some (.slice sa sn sc) := HR5.out.cell_at (by decide) HX.out.2 (j := 4) rfl
   have e5 : w5.cell? ⟨g, i * 7 + 5, none⟩ = some (.slice none 0 0) := HR5.out.cell_at (by decide) HX.out.2 (j := 5) rfl
   have e6 : w5.cell? ⟨g, i * 7 + 6, none⟩ = some (.string ix) := HR5.out.cell_at (by decide) HX.out.2 (j := 6) rfl
   obtain ⟨o, ho⟩ : ∃ o, i * 7 = o := ⟨_, rfl⟩
   rw [ho] at e0 e1 e2 e3 e4 e5 e6
   have f0 := HR5.out.room o
   have f1 := HR5.out.room (o + 1)
   have f2 := HR5.out.room (o + 2)
   have f3 := HR5.out.room (o + 3)
   have f4 := HR5.out.room (o + 4)
   have f5 := HR5.out.room (o + 5)
   have f6 := HR5.out.room (o + 6)
   go_wp2_with fail
   go_roundg g'
   case measure => omega
   case rel =>
    have hk : Kp (fun j => j = g) w5 (setR w5 g (i * 7) ⟨A, dd, z, t, sa, sn, sc, ix⟩) := setR_kp (Kp.refl (fun j => j = g) w5) (.inl rfl) _ _
    have h7 := HR5.out.same7 HX.out.1
    have hz := HLz.out
    have hg := HGw.out
    rw [ho] at h7 hk
    unfold setR at h7 hk
    dsimp only at h7 hk
    have q1 := HKe.out _ _ (HKe.out _ _ HIx.out (Kp.of HB5.out)) (hk.mono (fun j e => by rw [e]; omega) : Kp (fun j => L ≤ j) _ _)
    have q2 := (HOx.out.under HB5.out).kp hk (fun e => by omega)
    have q3 : Kp S.foot w _ := (HK.out.trans (Kp.of HB5.out)).extK hk (fun j e => .inr (by rw [e]; omega))
    exact ⟨i + 1, by go_num, by omega, Lib.hid h7, Lib.hid q1, Lib.hid q2, Lib.hid q3⟩
set_option maxHeartbeats 4000000 in
set_option maxRecDepth 100000 in
theorem sGet_any (hE : Env w0) (hV : StV L (InvJ w0 S N L) S.foot 28 (ptr (S.M b).b) 161 160 (ptr (S.M b).b) (FlatL (S.s b)) (RelF (S.s b))) (h : InvS w0 S N L b ob w) (hob : ¬ S.foot ob) {q : ByteArray} {xs : List InfS} (hP : FlatL (S.s b) xs) (hq : ∃ x ∈ xs, x.path = q) (hn : q ∈ nm4) :
  Calls Tryz.prog 194 #[ptr ob, .string q, .int .i64 0, .int .i64 65536] w fun e w' => ∃ d, e = .returned (.tuple #[.string d, .int .i64 0]) ∧ RelF (S.s b) q d ∧ d.size < 65536 ∧ InvS w0 S N L b ob w' ∧ Kp S.foot w w' := by
 have HIf := Lib.hid (isFileW_any w0 w q hE h.1.2.1 hn)
 have HLo := Lib.hid (fun W (hb : BoxIs W ob (ovA (memI S b)) 83) => lower_any hb q)
 have HGe := Lib.hid (fun W (hI : InvJ w0 S N L W) => hV.get W q xs hI hP hq)
 have HKe := Lib.hid hV.keep
 have hMG := memM_get
 have HI := Lib.hid h
 have HOb := Lib.hid hob
 have HLF : Hid (Calls Tryz.prog 205 #[ptr ob, .string q] w fun e w' => e = .returned (.tuple #[.string q, .int .i64 0]) ∧ Below w.heap.size w w') := Lib.hid (by
  clear hE hV h hob hP hq hn HGe HKe hMG HOb
  go_enter Tryz.func205, Tryz.ntmps205
  go_upto_region 4 with (go_at_call 209; refine HIf.out.mono ?_; rintro e w1 ⟨rfl, hb1⟩)
  have HL1 := Lib.hid (HLo.out w1 (HI.out.2.under hb1))
  have HB1 := Lib.hid hb1
  clear hb1
  go_wp2_with (go_at_call 206; refine HL1.out.mono ?_; rintro e w2 ⟨rfl, hw⟩; have hw2 := hw.symm; clear hw; subst hw2)
  go_ret2
  exact ⟨rfl, HB1.out⟩)
 clear hE hV h hob hP hq hn HIf HLo
 go_enter Tryz.func194, Tryz.ntmps194
 go_upto_region 4 with (go_at_call 205; refine HLF.out.mono ?_; rintro e w1 ⟨rfl, hb1⟩)
 have HO1 := Lib.hid (HI.out.2.under hb1)
 have HI1 := Lib.hid (HKe.out _ _ HI.out.1 (Kp.of hb1))
 have HB1 := Lib.hid hb1
 have HG1 := Lib.hid (HGe.out w1 HI1.out)
 have c0 : w1.cell? ⟨ob, 0, none⟩ = some (memI S b) := HO1.out.cell (j := 0) rfl
 unfold memI at c0
 obtain ⟨mb, hmb⟩ : ∃ mb, (S.M b).b = mb := ⟨_, rfl⟩
 rw [hmb] at c0 HG1
 clear hb1 hmb HLF HGe
 go_wp2_with (go_at_call 160; refine HG1.out.mono ?_; rintro e w2 ⟨d, rfl, h1, h2, h3, h4⟩)
 go_ret2
 exact ⟨d, rfl, h1, h2, ⟨h3, HO1.out.kp h4 HOb.out⟩, (Kp.of HB1.out).trans h4⟩
end
end Go.Proofs.YtchfhojighopkaaGreatDoor
namespace Go.Proofs.YtchfhojighopkaaGreatDoor
open Go.RowKit

section
variable {w0 w w' : World} {S : Two} {N : Int} {T : Tabs} {ob L : Nat} {b : Bool}
set_option maxRecDepth 100000 in
theorem sngStV (hE : Env w0) (hV : StV L (InvJ w0 S N L) S.foot 28 (ptr (S.M b).b) 161 160 (ptr (S.M b).b) (FlatL (S.s b)) (RelF (S.s b))) (hob : ¬ S.foot ob) (hl : ob < L) :
  StV L (InvS w0 S N L b ob) S.foot 77 (ptr ob) 195 194 (ptr ob) (FlatL (S.s b)) (RelF (S.s b)) where
 keep := fun W W' h hk => ⟨hV.keep W W' h.1 hk, h.2.kp hk (by omega)⟩
 low := fun W h => hV.low W h.1
 gl := hV.gl
 ml := fun W n hn => sngM_list W n ob hn
 mg := fun W n hn => sngM_get W n ob hn
 mna := fun W n hn => sngA_get W n ob hn
 el := enters_of Tryz.func195 (by kernel_rfl) rfl
 eg := enters_of Tryz.func194 (by kernel_rfl) rfl
 list := fun W h => by
  refine (sList_any hE hV h hob).mono ?_
  rintro e w' ⟨xs, a, cap, h1, h2, h3, h4, h5, h6⟩
  exact ⟨xs, a, cap, h1, h2, h3, h4, h5, h6⟩
 get := fun W q xs h hP hq => by
  have hn : q ∈ nm4 := by
   obtain ⟨x, hx, rfl⟩ := hq
   obtain ⟨_, f2, _⟩ := hP.files (h.1.1.mem b) (h.1.1.flat b)
   obtain ⟨_, n, hn, _⟩ := f2 x hx
   exact ((h.1.1.flat b).file hn).mem
  refine (sGet_any hE hV h hob hP hq hn).mono ?_
  rintro e w' ⟨d, h1, h2, h3, h4, h5⟩
  exact ⟨d, h1, h2, h3, h4, h5⟩
 flat := hV.flat
theorem contS_any (hG : Gr w0 T) (hw : InvJ w0 S N w.heap.size w) (h0 : w0.heap.size ≤ w.heap.size) (b : Bool) (hb : BoxIs w ob (ovA (memI S b)) 83) (hob : ¬ S.foot ob) :
  Calls Tryz.prog 9 #[.iface 77 (ptr ob)] w (ContM w0 S N w.heap.size b w) := by
 refine (contV_any (sngStV hG.env (memStV hG hw h0 b) hob hb.lt) w ⟨hw, hb⟩).mono ?_
 rintro e w' ⟨xs, ys, ps, a, cap, rfl, h1, h2, h3, h4, h5, h6, h7, h8, h9⟩
 obtain ⟨f1, f2, _, _, f5⟩ := h1.files (hw.1.mem b) (hw.1.flat b)
 have hys : ys = xs := h3 (fun j x y hx hy => by
  obtain ⟨_, n, hn, _⟩ := f2 x (List.mem_of_getElem? hx)
  obtain ⟨_, m, hm, _⟩ := f2 y (List.mem_of_getElem? hy)
  exact nm4_up ((hw.1.flat b).file hn).mem ((hw.1.flat b).file hm).mem (f5 j x y hx hy))
 subst hys
 have hlen : ps.length = ys.length := by simpa using congrArg List.length h4
 exact ⟨ps, a, cap, rfl, h1.cont (hw.1.mem b) (hw.1.flat b) h4 h5, by omega, h6, h7, h8.1, h9⟩
end
end Go.Proofs.YtchfhojighopkaaGreatDoor
namespace Go.Proofs.YtchfhojighopkaaGreatDoor
end Go.Proofs.YtchfhojighopkaaGreatDoor
