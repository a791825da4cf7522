/-
  Parts of the proof: Um1, Um2.
-/
import Derived.Test.YtchfhojighopkaaGreatDoorGuBE
import Derived.BigRegion
namespace Go.Proofs.YtchfhojighopkaaGreatDoor
open Go.RowKit

theorem infoStoreU : (Tryz.prog.info? 45).map (fun i => (i.zero, i.size, i.bytes)) = some (some .nilIface, 1, 16) := by kernel_rfl
theorem cloneI_anyRows {α : Type} (f : α → Value) (xs : List α) : ∀ r ∈ xs.map (fun x => [f x]), r.length = 1 := by
 intro r hr
 obtain ⟨x, _, rfl⟩ := List.mem_map.1 hr
 rfl
set_option maxHeartbeats 1000000 in
set_option maxRecDepth 100000 in
theorem cloneI_any {α : Type} (f : α → Value) (hf : ∀ x, (f x).oneCell' = true) (xs : List α) (a : Option Addr) (c n : Nat) (w : World) (hn : xs.length = n) (hl : n ≤ 1000) (hH : HoldsR w a 1 (xs.map (fun x => [f x]))) (h0 : a = none → n = 0) :
  Calls Tryz.prog 29 #[.slice a n c] w fun e w' => ∃ ra' cap', e = .returned (.slice ra' n cap') ∧ RowG 3 1 w' w.heap.size ra' cap' (xs.map (fun x => [f x])) ∧ Below w.heap.size w w' := by
 obtain ⟨i0, hi, hz0, hz1, hz2⟩ := info_parts infoIntU
 cases a with
 | none =>
  obtain rfl : n = 0 := h0 rfl
  have hx : xs = [] := List.eq_nil_of_length_eq_zero hn
  subst hx
  clear hi hz0 hz1 hz2 hH hn h0
  have hnil := fun W n c => Lib.run_eql_slice_nil (P := Tryz.prog) W 22 3 none n c 0 0 Tryz.underlying22
  go_enter Tryz.func29, Tryz.ntmps29
  go_wp2_with fail
  go_ret
  exact ⟨none, 0, rfl, RowG.nil _ _ _ _, Below.refl _ _⟩
 | some ad =>
  have hnil := fun W n c => Lib.run_eql_slice_nil (P := Tryz.prog) W 22 3 (some ad) n c 0 0 Tryz.underlying22
  have hown : (w.alloc (.cells #[] 3)).ownsRow w.heap.size 3 1 (.slice (some ⟨w.heap.size, 0, none⟩) 0 0) 0 [] :=
   ⟨rfl, .inr ⟨w.heap.size, 0, #[], rfl, Nat.le_refl _, heap_alloc_new w _, Nat.le_refl _, Nat.zero_le _, rfl, rfl⟩⟩
  have hb0 : Below w.heap.size w (w.alloc (.cells #[] 3)) := bAlloc (Below.refl _ _) _
  have hnews := (hH.under hb0).flat (by decide) (cloneI_anyRows f xs)
  have hlen : (xs.map (fun x => [f x])).flatten.length = n * 1 := by rw [flat_len 1 _ (cloneI_anyRows f xs), List.length_map, hn]
  have hones : ∀ u ∈ (xs.map (fun x => [f x])).flatten, u.oneCell' = true := by
   intro u hu
   obtain ⟨r, hr, hu⟩ := List.mem_flatten.1 hu
   obtain ⟨x, _, rfl⟩ := List.mem_map.1 hr
   rw [List.mem_singleton.1 hu]
   exact hf x
  have HOn := Lib.hid hones
  have HOwn := Lib.hid hown
  have HNews := Lib.hid hnews
  have HLen := Lib.hid hlen
  have HI := Lib.hid (And.intro hi (And.intro hz0 (And.intro hz1 hz2)))
  have HB0 := Lib.hid hb0
  have HN := Lib.hid hn
  clear hown hnews hlen hi hz0 hz1 hz2 hH hb0 hn h0 hones hf
  go_enter Tryz.func29, Tryz.ntmps29
  go_wp2_with (at_builtin; refine wpList_append_own _ rfl _ _ 22 rfl w.heap.size 3 i0 (.int .i64 0) 1 8 Tryz.underlying22 HI.out.1 HI.out.2.1 HI.out.2.2.1 HI.out.2.2.2 rfl (by decide) _ _ _ rfl HOwn.out ad n c (xs.map (fun x => [f x])).flatten rfl HLen.out HNews.out HOn.out (by unfold maxLen; omega) (by omega) (by simp) ?_; intro v' w' hown' hgrow _)
  rw [Nat.zero_add, List.nil_append] at hown'
  obtain ⟨a', c', rfl⟩ : ∃ a c, v' = .slice a n c := by
   rcases hown'.2 with ⟨rfl, h⟩ | ⟨g, cap, cur, rfl, _⟩
   ·exact ⟨_, _, by rw [h]⟩
   ·exact ⟨_, _, rfl⟩
  have HO := Lib.hid hown'
  have HG := Lib.hid hgrow
  clear hown' hgrow
  go_wp2_with fail
  go_ret
  refine ⟨a', c', rfl, ⟨cloneI_anyRows f xs, ?_⟩, HB0.out.grown HG.out (by simp) (fun kk hkk => by cases hkk; exact Nat.le_refl _)⟩
  rw [List.length_map, HN.out]
  exact HO.out
theorem cloneS_anyRows {α : Type} (f : α → Value) (xs : List α) : ∀ r ∈ xs.map (fun x => [f x]), r.length = 1 := by
 intro r hr
 obtain ⟨x, _, rfl⟩ := List.mem_map.1 hr
 rfl
set_option maxHeartbeats 1000000 in
set_option maxRecDepth 100000 in
theorem cloneS_any {α : Type} (f : α → Value) (hf : ∀ x, (f x).oneCell' = true) (xs : List α) (a : Option Addr) (c n : Nat) (w : World) (hn : xs.length = n) (hl : n ≤ 1000) (hH : HoldsR w a 1 (xs.map (fun x => [f x]))) (h0 : a = none → n = 0) :
  Calls Tryz.prog 30 #[.slice a n c] w fun e w' => ∃ ra' cap', e = .returned (.slice ra' n cap') ∧ RowG 45 1 w' w.heap.size ra' cap' (xs.map (fun x => [f x])) ∧ Below w.heap.size w w' := by
 obtain ⟨i0, hi, hz0, hz1, hz2⟩ := info_parts infoStoreU
 cases a with
 | none =>
  obtain rfl : n = 0 := h0 rfl
  have hx : xs = [] := List.eq_nil_of_length_eq_zero hn
  subst hx
  clear hi hz0 hz1 hz2 hH hn h0
  have hnil := fun W n c => Lib.run_eql_slice_nil (P := Tryz.prog) W 48 45 none n c 0 0 Tryz.underlying48
  go_enter Tryz.func30, Tryz.ntmps30
  go_wp2_with fail
  go_ret
  exact ⟨none, 0, rfl, RowG.nil _ _ _ _, Below.refl _ _⟩
 | some ad =>
  have hnil := fun W n c => Lib.run_eql_slice_nil (P := Tryz.prog) W 48 45 (some ad) n c 0 0 Tryz.underlying48
  have hown : (w.alloc (.cells #[] 45)).ownsRow w.heap.size 45 1 (.slice (some ⟨w.heap.size, 0, none⟩) 0 0) 0 [] :=
   ⟨rfl, .inr ⟨w.heap.size, 0, #[], rfl, Nat.le_refl _, heap_alloc_new w _, Nat.le_refl _, Nat.zero_le _, rfl, rfl⟩⟩
  have hb0 : Below w.heap.size w (w.alloc (.cells #[] 45)) := bAlloc (Below.refl _ _) _
  have hnews := (hH.under hb0).flat (by decide) (cloneS_anyRows f xs)
  have hlen : (xs.map (fun x => [f x])).flatten.length = n * 1 := by rw [flat_len 1 _ (cloneS_anyRows f xs), List.length_map, hn]
  have hones : ∀ u ∈ (xs.map (fun x => [f x])).flatten, u.oneCell' = true := by
   intro u hu
   obtain ⟨r, hr, hu⟩ := List.mem_flatten.1 hu
   obtain ⟨x, _, rfl⟩ := List.mem_map.1 hr
   rw [List.mem_singleton.1 hu]
   exact hf x
  have HOn := Lib.hid hones
  have HOwn := Lib.hid hown
  have HNews := Lib.hid hnews
  have HLen := Lib.hid hlen
  have HI := Lib.hid (And.intro hi (And.intro hz0 (And.intro hz1 hz2)))
  have HB0 := Lib.hid hb0
  have HN := Lib.hid hn
  clear hown hnews hlen hi hz0 hz1 hz2 hH hb0 hn h0 hones hf
  go_enter Tryz.func30, Tryz.ntmps30
  go_wp2_with (at_builtin; refine wpList_append_own _ rfl _ _ 48 rfl w.heap.size 45 i0 (.nilIface) 1 16 Tryz.underlying48 HI.out.1 HI.out.2.1 HI.out.2.2.1 HI.out.2.2.2 rfl (by decide) _ _ _ rfl HOwn.out ad n c (xs.map (fun x => [f x])).flatten rfl HLen.out HNews.out HOn.out (by unfold maxLen; omega) (by omega) (by simp) ?_; intro v' w' hown' hgrow _)
  rw [Nat.zero_add, List.nil_append] at hown'
  obtain ⟨a', c', rfl⟩ : ∃ a c, v' = .slice a n c := by
   rcases hown'.2 with ⟨rfl, h⟩ | ⟨g, cap, cur, rfl, _⟩
   ·exact ⟨_, _, by rw [h]⟩
   ·exact ⟨_, _, rfl⟩
  have HO := Lib.hid hown'
  have HG := Lib.hid hgrow
  clear hown' hgrow
  go_wp2_with fail
  go_ret
  refine ⟨a', c', rfl, ⟨cloneS_anyRows f xs, ?_⟩, HB0.out.grown HG.out (by simp) (fun kk hkk => by cases hkk; exact Nat.le_refl _)⟩
  rw [List.length_map, HN.out]
  exact HO.out
end Go.Proofs.YtchfhojighopkaaGreatDoor
namespace Go.Proofs.YtchfhojighopkaaGreatDoor
open Go.RowKit

/-- Features of these stores, but for what they have. -/
abbrev featA (h : Int) : Array Value := #[.int .i64 h, .int .i64 16, .int .i64 1, .int .i64 255, .int .i64 1024, .int .i64 100000, .int .i64 4, .int .i64 1, .string ⟨#[]⟩]
abbrev feat0 : Array Value := #[.int .i64 0, .int .i64 0, .int .i64 0, .int .i64 0, .int .i64 0, .int .i64 0, .int .i64 0, .int .i64 0, .string ⟨#[]⟩]
def set9 (w : World) (b : Nat) (h : Int) : World :=
 ((((((((w.setCell ⟨b, 0, none⟩ (.int .i64 h)).setCell ⟨b, 1, none⟩ (.int .i64 16)).setCell ⟨b, 2, none⟩ (.int .i64 1)).setCell ⟨b, 3, none⟩ (.int .i64 255)).setCell ⟨b, 4, none⟩ (.int .i64 1024)).setCell ⟨b, 5, none⟩ (.int .i64 100000)).setCell ⟨b, 6, none⟩ (.int .i64 4)).setCell ⟨b, 7, none⟩ (.int .i64 1)).setCell ⟨b, 8, none⟩ (.string ⟨#[]⟩)
theorem set9_kp {F : Nat → Prop} {w0 w : World} (h : Kp F w0 w) {b : Nat} (hb : F b ∨ w0.heap.size ≤ b) (n : Int) : Kp F w0 (set9 w b n) :=
 (((((((((h.set hb 0 _).set hb 1 _).set hb 2 _).set hb 3 _).set hb 4 _).set hb 5 _).set hb 6 _).set hb 7 _).set hb 8 _)
theorem feat_cells {w : World} {b : Nat} {h : Int} (k : BoxIs w b (featA h) 66) : w.cell? ⟨b, 0, none⟩ = some (.int .i64 h) ∧ w.cell? ⟨b, 1, none⟩ = some (.int .i64 16) ∧ w.cell? ⟨b, 2, none⟩ = some (.int .i64 1) ∧ w.cell? ⟨b, 3, none⟩ = some (.int .i64 255) ∧ w.cell? ⟨b, 4, none⟩ = some (.int .i64 1024) ∧ w.cell? ⟨b, 5, none⟩ = some (.int .i64 100000) ∧ w.cell? ⟨b, 6, none⟩ = some (.int .i64 4) ∧ w.cell? ⟨b, 7, none⟩ = some (.int .i64 1) ∧ w.cell? ⟨b, 8, none⟩ = some (.string ⟨#[]⟩) :=
 ⟨k.cell (j := 0) rfl, k.cell (j := 1) rfl, k.cell (j := 2) rfl, k.cell (j := 3) rfl, k.cell (j := 4) rfl, k.cell (j := 5) rfl, k.cell (j := 6) rfl, k.cell (j := 7) rfl, k.cell (j := 8) rfl⟩
theorem feat_room {w : World} {b : Nat} (k : BoxIs w b feat0 66) : (w.cell? ⟨b, 0, none⟩ = some (.int .i64 0) ∧ w.cell? ⟨b, 1, none⟩ = some (.int .i64 0) ∧ w.cell? ⟨b, 2, none⟩ = some (.int .i64 0) ∧ w.cell? ⟨b, 3, none⟩ = some (.int .i64 0) ∧ w.cell? ⟨b, 4, none⟩ = some (.int .i64 0) ∧ w.cell? ⟨b, 5, none⟩ = some (.int .i64 0) ∧ w.cell? ⟨b, 6, none⟩ = some (.int .i64 0) ∧ w.cell? ⟨b, 7, none⟩ = some (.int .i64 0) ∧ w.cell? ⟨b, 8, none⟩ = some (.string ⟨#[]⟩)) ∧
  w.frozen? ⟨b, 0, none⟩ = false ∧ w.frozen? ⟨b, 1, none⟩ = false ∧ w.frozen? ⟨b, 2, none⟩ = false ∧ w.frozen? ⟨b, 3, none⟩ = false ∧ w.frozen? ⟨b, 4, none⟩ = false ∧ w.frozen? ⟨b, 5, none⟩ = false ∧ w.frozen? ⟨b, 6, none⟩ = false ∧ w.frozen? ⟨b, 7, none⟩ = false ∧ w.frozen? ⟨b, 8, none⟩ = false :=
 ⟨⟨k.cell (j := 0) rfl, k.cell (j := 1) rfl, k.cell (j := 2) rfl, k.cell (j := 3) rfl, k.cell (j := 4) rfl, k.cell (j := 5) rfl, k.cell (j := 6) rfl, k.cell (j := 7) rfl, k.cell (j := 8) rfl⟩, Lib.frozen_of_heap k 0, Lib.frozen_of_heap k 1, Lib.frozen_of_heap k 2, Lib.frozen_of_heap k 3, Lib.frozen_of_heap k 4, Lib.frozen_of_heap k 5, Lib.frozen_of_heap k 6, Lib.frozen_of_heap k 7, Lib.frozen_of_heap k 8⟩
set_option maxHeartbeats 2000000 in
set_option maxRecDepth 100000 in
theorem featM_any (b : Nat) (w : World) (hB : FeatBox w b wideF) :
  Calls Tryz.prog 159 #[ptr b] w fun e w' => e = .returned (.agg (featA 3071)) ∧ Below w.heap.size w w' := by
 obtain ⟨k0, k1, k2, k3, k4, k5, k6, k7, k8, k9⟩ := hB
 simp only [wideF] at k1 k2 k3 k4 k5 k6 k7 k8 k9
 go_enter Tryz.func159, Tryz.ntmps159
 go_wp2_with fail
 try simp only [Exit.inBlock, Exit.then]
 refine bodyPost_ret (v := .agg (featA 3071)) ?_ rfl ⟨rfl, bAlloc (Below.refl _ _) _⟩
 clear k0 k1 k2 k3 k4 k5 k6 k7 k8 k9
 simp [results, Tryz.f159]
 go_simp
set_option maxHeartbeats 2000000 in
set_option maxRecDepth 100000 in
theorem features_any (b : Nat) (w : World) (hB : FeatBox w b wideF) :
  Calls Tryz.prog 56 #[.iface 28 (ptr b)] w fun e w' => e = .returned (.agg (featA 3071)) ∧ Below w.heap.size w w' := by
 have hx1 : BoxIs (w.alloc (.cells feat0 66)) w.heap.size feat0 66 := heap_alloc_new _ _
 have hb1 : Below w.heap.size w (w.alloc (.cells feat0 66)) := bAlloc (Below.refl _ _) _
 have HF := Lib.hid (featM_any b _ (hB.under hb1))
 have hMF := memM_features
 have hbit : bits BinOp.andNot IntKind.i64 3071 1024 = 3071 := by decide
 obtain ⟨rz, hrz⟩ : ∃ rz, w.heap.size = rz := ⟨_, rfl⟩
 have HZ := Lib.hid hrz
 rw [hrz] at hx1
 have HX1 := Lib.hid hx1
 have HB1 := Lib.hid hb1
 clear hB hx1 hb1 hrz
 go_enter Tryz.func56, Tryz.ntmps56
 go_upto_region 1 with fail
 rw [HZ.out]
 generalize w.alloc _ = w1 at *
 go_upto_region 2 with (go_at_call 159; refine HF.out.mono ?_; rintro e w2 ⟨rfl, hb2⟩)
 have hb3 : Below w2.heap.size w2 (w2.alloc (.cells (featA 3071) 66)) := bAlloc (Below.refl _ _) _
 have hx3 : BoxIs (w2.alloc (.cells (featA 3071) 66)) w2.heap.size (featA 3071) 66 := heap_alloc_new _ _
 have HX3 := Lib.hid ((HX1.out.under hb2).under hb3)
 have HB3 : Hid (Below w.heap.size w _) := Lib.hid (bTrans (bTrans HB1.out hb2) hb3)
 obtain ⟨ob, hob⟩ : ∃ ob, w2.heap.size = ob := ⟨_, rfl⟩
 have hlt : rz < ob := by rw [← hob]; exact (HX1.out.under hb2).lt
 rw [hob] at hx3 ⊢
 clear hb2 hb3 hob HX1 HB1 HF
 generalize w2.alloc _ = w3 at *
 have HO := Lib.hid hx3
 obtain ⟨d0, d1, d2, d3, d4, d5, d6, d7, d8⟩ := feat_cells hx3
 have f0 := Lib.frozen_of_heap hx3 0
 go_upto_region 3 with fail
 have hk4 : Kp (fun j => j = ob) w3 (w3.setCell ⟨ob, 0, none⟩ (.int .i64 3071)) := (Kp.refl (fun j => j = ob) w3).set (b := ob) (.inl rfl) 0 _
 have hx4 : BoxIs (w3.setCell ⟨ob, 0, none⟩ (.int .i64 3071)) ob (featA 3071) 66 := HO.out.putAt 0 (.int .i64 3071)
 have hz4 := HX3.out.kp hk4 (by omega)
 have hwo : w.heap.size ≤ ob := by rw [HZ.out]; omega
 have HB4 : Hid (Below w.heap.size w _) := Lib.hid (HB3.out.trans (hk4.below (fun j e => by rw [e]; exact hwo) HB3.out.size))
 clear hk4 HX3 HB3 HO d0 d1 d2 d3 d4 d5 d6 d7 d8 f0 hx3
 generalize w3.setCell _ _ = w4 at *
 obtain ⟨d0, d1, d2, d3, d4, d5, d6, d7, d8⟩ := feat_cells hx4
 obtain ⟨⟨p0, p1, p2, p3, p4, p5, p6, p7, p8⟩, f0, f1, f2, f3, f4, f5, f6, f7, f8⟩ := feat_room hz4
 have hend : Below w.heap.size w (set9 w4 rz 3071) := HB4.out.trans ((set9_kp (Kp.refl (fun j => j = rz) w4) (.inl rfl) 3071).below (fun j e => by rw [e, HZ.out]; exact Nat.le_refl _) HB4.out.size)
 unfold set9 at hend
 clear hx4 hz4 hwo HB4
 go_wp2_with fail
 try simp only [Exit.inBlock, Exit.then]
 refine bodyPost_ret (v := .agg (featA 3071)) ?_ rfl ⟨rfl, hend⟩
 clear hend
 simp [results, Tryz.f56]
 go_simp
theorem zeroBool (w : World) : (zeroValue 4).run Tryz.prog w = .ok (.bool false) w := by kernel_rfl
theorem wf8 {z : Int} (h0 : 0 ≤ z) (h1 : z < 256) : (Lit.int .u8 z).wf = true := by
 have e1 : IntKind.u8.min = 0 := by decide
 have e2 : IntKind.u8.max = 255 := by decide
 simp only [Lit.wf, e1, e2, Bool.and_eq_true, decide_eq_true_eq]
 omega
/-- An empty map of bytes. -/
theorem look_byte {w : World} {b c : Nat} (hb : w.heap[b]? = some (.map #[] c)) {z : Int} (h0 : 0 ≤ z) (h1 : z < 256) :
  (Instr.lookup 137 (.map (some b)) (.int .u8 z) false).run Tryz.prog w = .ok (.bool false) w := by
 have K : Maps.Keyed Tryz.prog 5 := Maps.int_keyed Tryz.underlying5
 have hk := Maps.keyOf_int_mk Tryz.underlying5 (wf8 h0 h1)
 have h0 : (Instr.findKey 5 (.int .u8 z) []).run Tryz.prog w = .ok none w := by
  rcases K.find w hk [] (by simp) with ⟨h1, _⟩ | ⟨j, x, _, h2, _⟩
  ·exact h1
  ·simp at h2
 simp [Instr.lookup, run_underlying Tryz.underlying137, MapKept.run_getObj_map hb, K.check w _ hk, h0, zeroBool w, Result.andThen]
/-- What together has made: the result's cells, its features so far, the map of bytes. -/
structure TogI (w : World) (rz ob mb : Nat) (h : Int) (W : World) : Prop where
 bel : Below w.heap.size w W
 bz : BoxIs W rz feat0 66
 bo : BoxIs W ob (featA h) 66
 mp : W.heap[mb]? = some (.map #[] 0)
 ord : w.heap.size ≤ rz ∧ rz < ob ∧ ob < mb
section
variable {w w' W W' : World} {rz ob mb : Nat} {h : Int}
theorem TogI.fresh (k : TogI w rz ob mb h W) (hb : Below W.heap.size W W') : TogI w rz ob mb h W' :=
 ⟨bTrans k.bel hb, k.bz.under hb, k.bo.under hb, (hb.block mb (Array.getElem?_eq_some_iff.1 k.mp).1).trans k.mp, k.ord⟩
theorem TogI.set (k : TogI w rz ob mb h W) (j : Nat) (v : Value) {h' : Int} (e : (featA h).setIfInBounds j v = featA h') : TogI w rz ob mb h' (W.setCell ⟨ob, j, none⟩ v) := by
 have hk : Kp (fun i => i = ob) W (W.setCell ⟨ob, j, none⟩ v) := (Kp.refl (fun i => i = ob) W).set (b := ob) (.inl rfl) j v
 have ho := k.ord
 refine ⟨k.bel.trans (hk.below (fun i e => by rw [e]; omega) k.bel.size), k.bz.kp hk (by omega), ?_, (hk.block mb (Array.getElem?_eq_some_iff.1 k.mp).1 (by omega)).trans k.mp, k.ord⟩
 have := k.bo.putAt j v
 rwa [e] at this
theorem TogI.drew (k : TogI w rz ob mb h W) : TogI w rz ob mb h W.drew := ⟨⟨k.bel.os, k.bel.tape, k.bel.output, k.bel.size, k.bel.block⟩, k.bz, k.bo, k.mp, k.ord⟩
end
set_option maxHeartbeats 16000000 in
set_option maxRecDepth 100000 in
theorem together_any {w : World} {la : Option Addr} {c : Nat} (ms : List Nat) (hl : 1 ≤ ms.length ∧ ms.length ≤ 2) (hH : HoldsR w la 1 (ms.map fun b => [Value.iface 28 (ptr b)])) (hF : ∀ b ∈ ms, FeatBox w b wideF) :
  Calls Tryz.prog 27 #[.slice la ms.length c] w fun e w' => e = .returned (.agg (featA 2559)) ∧ Below w.heap.size w w' := by
 have HF := Lib.hid (fun W b (hb : b ∈ ms) (hw : Below w.heap.size w W) => features_any b W ((hF b hb).under hw))
 have HM := Lib.hid (fun W b (hb : b ∈ ms) (hw : Below w.heap.size w W) => featM_any b W ((hF b hb).under hw))
 have hMF := memM_features
 have hmm := @run_makeMap Tryz.prog
 have HR := Lib.hid (fun W (hw : Below w.heap.size w W) => hH.under hw)
 obtain ⟨n, hn⟩ : ∃ n, ms.length = n := ⟨_, rfl⟩
 have HN := Lib.hid hn
 obtain ⟨b0, hb0⟩ : ∃ b, ms[0]? = some b := ⟨_, List.getElem?_eq_getElem (by omega)⟩
 have HB0 := Lib.hid (List.mem_of_getElem? hb0)
 obtain ⟨lg, off, hla, _, hlc⟩ := hH.at (k := 0) (row := [Value.iface 28 (ptr b0)]) (by rw [List.getElem?_map, hb0]; rfl)
 subst hla
 have hx1 : BoxIs (w.alloc (.cells feat0 66)) w.heap.size feat0 66 := heap_alloc_new _ _
 have hb1 : Below w.heap.size w (w.alloc (.cells feat0 66)) := bAlloc (Below.refl _ _) _
 have HX1 := Lib.hid hx1
 have HB1 := Lib.hid hb1
 have l0 : (w.alloc (.cells feat0 66)).cell? ⟨lg, off, none⟩ = some (.iface 28 (ptr b0)) := by
  obtain ⟨lg2, off2, e2, _, c2⟩ := (HR.out _ hb1).at (k := 0) (row := [Value.iface 28 (ptr b0)]) (by rw [List.getElem?_map, hb0]; rfl)
  injection e2 with e2
  injection e2 with q1 q2
  subst q1 q2
  have := c2 0 _ rfl
  simpa using this
 have HF1 := Lib.hid (HF.out _ b0 HB0.out hb1)
 rw [hn] at hl ⊢
 obtain ⟨rz, hrz⟩ : ∃ rz, w.heap.size = rz := ⟨_, rfl⟩
 rw [hrz] at HX1
 have HZ := Lib.hid hrz
 have hn0 : 0 < n := hl.1
 have hn0z : (0 : Int) < (n : Int) := by omega
 clear hH hF hn hb0 hlc hx1 hb1 hrz
 go_enter Tryz.func27, Tryz.ntmps27
 go_upto_region 1 with fail
 rw [HZ.out]
 generalize w.alloc _ = w1 at *
 go_upto_region 2 with (go_at_call 56; refine HF1.out.mono ?_; rintro e w2 ⟨rfl, hb2⟩)
 have hb3 : Below w2.heap.size w2 (w2.alloc (.cells (featA 3071) 66)) := bAlloc (Below.refl _ _) _
 have hx3 : BoxIs (w2.alloc (.cells (featA 3071) 66)) w2.heap.size (featA 3071) 66 := heap_alloc_new _ _
 have HX3 := Lib.hid ((HX1.out.under hb2).under hb3)
 have HB3 : Hid (Below w.heap.size w _) := Lib.hid (bTrans (bTrans HB1.out hb2) hb3)
 obtain ⟨ob, hob⟩ : ∃ ob, w2.heap.size = ob := ⟨_, rfl⟩
 have hlt : rz < ob := by rw [← hob]; exact (HX1.out.under hb2).lt
 rw [hob] at hx3 ⊢
 have HO3 := Lib.hid hx3
 clear hb2 hb3 hob HX1 HB1 HF1 l0 hx3
 generalize w2.alloc _ = w3 at *
 have hb4 : Below w3.heap.size w3 (w3.alloc (.map #[] 0)) := bAlloc (Below.refl _ _) _
 obtain ⟨mb, hmb⟩ : ∃ mb, w3.heap.size = mb := ⟨_, rfl⟩
 have hm4 : (w3.alloc (.map #[] 0)).heap[w3.heap.size]? = some (.map #[] 0) := heap_alloc_new _ _
 have hob3 : ob < w3.heap.size := HO3.out.lt
 rw [hmb] at hm4 hob3
 have HT4 : Hid (TogI w rz ob mb 3071 _) := Lib.hid ⟨bTrans HB3.out hb4, HX3.out.under hb4, HO3.out.under hb4, hm4, by rw [HZ.out]; exact Nat.le_refl _, hlt, hob3⟩
 clear hb4 hm4 hob3 HX3 HO3 HB3
 go_upto_region 3 with fail
 try rw [hmb]
 clear hmb
 generalize w3.alloc _ = w4 at *
 go_upto_region 4 with fail
 clear hmm
 go_loopg [17] n (fun gk s17 wx => ∃ (i : Nat), s17 = .int .i64 i ∧ i + gk = n ∧ Hid (TogI w rz ob mb 3071 wx))
 case atStart => exact ⟨0, rfl, by omega, HT4⟩
 case round =>
  clear HT4
  obtain ⟨i, rfl, hig, HT⟩ := hrel
  by_cases hlt2 : i < n
  case pos =>
   have hltz : (i : Int) < (n : Int) := by omega
   obtain ⟨g, rfl⟩ : ∃ g, gk = g + 1 := ⟨gk - 1, by omega⟩
   obtain ⟨b, hb⟩ : ∃ b, ms[i]? = some b := ⟨_, List.getElem?_eq_getElem (by rw [HN.out]; exact hlt2)⟩
   have hlb : wr.cell? ⟨lg, off + i, none⟩ = some (.iface 28 (ptr b)) := by
    obtain ⟨lg2, off2, e2, _, c2⟩ := (HR.out _ HT.out.bel).at (k := i) (row := [Value.iface 28 (ptr b)]) (by rw [List.getElem?_map, hb]; rfl)
    injection e2 with e2
    injection e2 with q1 q2
    subst q1 q2
    have := c2 0 _ rfl
    rwa [Nat.mul_one, Nat.add_zero] at this
   have HMb := Lib.hid (HM.out wr b (List.mem_of_getElem? hb) HT.out.bel)
   have hbit1 : bits BinOp.and IntKind.i64 3071 3071 = 3071 := by decide
   have hbit2 : bits BinOp.and IntKind.i64 16 16 = 16 := by decide
   clear hb
   go_upto_region 7 with (go_at_call 159; refine HMb.out.mono ?_; rintro e w5 ⟨rfl, hb5⟩)
   have hb6 : Below w5.heap.size w5 (w5.alloc (.cells (featA 3071) 66)) := bAlloc (Below.refl _ _) _
   have hx6 : BoxIs (w5.alloc (.cells (featA 3071) 66)) w5.heap.size (featA 3071) 66 := heap_alloc_new _ _
   have HT6 := Lib.hid ((HT.out.fresh hb5).fresh hb6)
   obtain ⟨fb, hfb⟩ : ∃ fb, w5.heap.size = fb := ⟨_, rfl⟩
   have hof : ob < fb := by
    rw [← hfb]
    exact (HT.out.fresh hb5).bo.lt
   rw [hfb] at hx6 ⊢
   clear hb5 hb6 hfb hlb HMb HT
   generalize w5.alloc _ = w6 at *
   have HF6 := Lib.hid hx6
   obtain ⟨d0, d1, d2, d3, d4, d5, d6, d7, d8⟩ := feat_cells HT6.out.bo
   obtain ⟨e0, e1, e2, e3, e4, e5, e6, e7, e8⟩ := feat_cells hx6
   have f0 := Lib.frozen_of_heap HT6.out.bo 0
   have f1 := Lib.frozen_of_heap HT6.out.bo 1
   have f2 := Lib.frozen_of_heap HT6.out.bo 2
   have hof2 : fb ≠ ob := by omega
   go_upto_region 10 with fail
   have HT7 : Hid (TogI w rz ob mb 3071 _) := Lib.hid (((HT6.out.set 0 (.int .i64 3071) rfl).set 1 (.int .i64 16) rfl).set 2 (.int .i64 1) rfl)
   have hk7 : Kp (fun j => j = ob) w6 (((w6.setCell ⟨ob, 0, none⟩ (.int .i64 3071)).setCell ⟨ob, 1, none⟩ (.int .i64 16)).setCell ⟨ob, 2, none⟩ (.int .i64 1)) := (((Kp.refl (fun j => j = ob) w6).set (b := ob) (.inl rfl) 0 _).set (b := ob) (.inl rfl) 1 _).set (b := ob) (.inl rfl) 2 _
   have HF7 := Lib.hid (HF6.out.kp hk7 hof2)
   clear HT6 HF6 hk7 d0 d1 d2 d3 d4 d5 d6 d7 d8 e0 e1 e2 e3 e4 e5 e6 e7 e8 f0 f1 f2 hx6
   generalize ((w6.setCell _ _).setCell _ _).setCell _ _ = w7 at *
   have HSw7 : Hid (TogI w rz ob mb 3071 w7 ∧ BoxIs w7 fb (featA 3071) 66) := Lib.hid ⟨HT7.out, HF7.out⟩
   clear HT7 HF7 hbit1 hbit2
   go_cut [17, 7] from 17 to 77 (fun s17 s7 wx => s17 = .int .i64 i ∧ s7 = .pointer (some ⟨fb, 0, none⟩) ∧ Hid (TogI w rz ob mb 3071 wx ∧ BoxIs wx fb (featA 3071) 66))
   case first =>
    obtain ⟨d0, d1, d2, d3, d4, d5, d6, d7, d8⟩ := feat_cells HSw7.out.1.bo
    obtain ⟨e0, e1, e2, e3, e4, e5, e6, e7, e8⟩ := feat_cells HSw7.out.2
    have f3 := Lib.frozen_of_heap HSw7.out.1.bo 3
    have f4 := Lib.frozen_of_heap HSw7.out.1.bo 4
    go_region
    go_wp2_with fail
    go_meet
    exact ⟨rfl, rfl, Lib.hid ⟨((HSw7.out.1.set 3 (.int .i64 255) rfl).set 4 (.int .i64 1024) rfl).drew, (show BoxIs ((w7.setCell ⟨ob, 3, none⟩ (.int .i64 255)).setCell ⟨ob, 4, none⟩ (.int .i64 1024)) fb (featA 3071) 66 from HSw7.out.2.kp (F := fun j => j = ob) (((Kp.refl (fun j => j = ob) w7).set (b := ob) (.inl rfl) 3 _).set (b := ob) (.inl rfl) 4 _) hof2)⟩⟩
   case rest =>
   obtain ⟨rfl, rfl, HS8⟩ := hcut
   clear HSw7
   obtain ⟨w8, hw8⟩ : ∃ w8, wc = w8 := ⟨_, rfl⟩
   rw [hw8] at HS8 ⊢
   clear hw8
   go_upto_region 11 with fail
   go_cut [17, 7] from 17 to 77 (fun s17 s7 wx => s17 = .int .i64 i ∧ s7 = .pointer (some ⟨fb, 0, none⟩) ∧ Hid (TogI w rz ob mb 3071 wx ∧ BoxIs wx fb (featA 3071) 66))
   case first =>
    obtain ⟨d0, d1, d2, d3, d4, d5, d6, d7, d8⟩ := feat_cells HS8.out.1.bo
    obtain ⟨e0, e1, e2, e3, e4, e5, e6, e7, e8⟩ := feat_cells HS8.out.2
    have f5 := Lib.frozen_of_heap HS8.out.1.bo 5
    have f6 := Lib.frozen_of_heap HS8.out.1.bo 6
    go_region
    go_wp2_with fail
    go_meet
    exact ⟨rfl, rfl, Lib.hid ⟨((HS8.out.1.set 5 (.int .i64 100000) rfl).set 6 (.int .i64 4) rfl).drew, (show BoxIs ((w8.setCell ⟨ob, 5, none⟩ (.int .i64 100000)).setCell ⟨ob, 6, none⟩ (.int .i64 4)) fb (featA 3071) 66 from HS8.out.2.kp (F := fun j => j = ob) (((Kp.refl (fun j => j = ob) w8).set (b := ob) (.inl rfl) 5 _).set (b := ob) (.inl rfl) 6 _) hof2)⟩⟩
   case rest =>
   obtain ⟨rfl, rfl, HS9⟩ := hcut
   clear HS8
   obtain ⟨w9, hw9⟩ : ∃ w9, wc = w9 := ⟨_, rfl⟩
   rw [hw9] at HS9 ⊢
   clear hw9
   have e8 : w9.cell? ⟨fb, 8, none⟩ = some (.string ⟨#[]⟩) := HS9.out.2.cell (j := 8) rfl
   have hsz : (⟨#[]⟩ : ByteArray).size = 0 := rfl
   have HT9 := Lib.hid HS9.out.1
   clear HS9
   go_upto_region 13 with fail
   go_loopg [68] 0 (fun gk s68 wx => s68 = .int .i64 0 ∧ wx = w9)
   case atStart => exact ⟨rfl, rfl⟩
   case round =>
    obtain ⟨rfl, rfl⟩ := hrel
    go_wp2_with fail
    go_roundg g
    case measure => omega
    case rel => exact ⟨i + 1, by go_num, by omega, HT9⟩
  case neg =>
   have hltz : ¬ (i : Int) < (n : Int) := by omega
   obtain ⟨d0, d1, d2, d3, d4, d5, d6, d7, d8⟩ := feat_cells HT.out.bo
   have f8 := Lib.frozen_of_heap HT.out.bo 8
   go_upto_region 19 with fail
   have HT1 : Hid (TogI w rz ob mb 3071 _) := Lib.hid (HT.out.set 8 (.string ⟨#[]⟩) rfl)
   clear HT d0 d1 d2 d3 d4 d5 d6 d7 d8 f8 hlt2 hltz hig
   generalize wr.setCell _ _ = wz at *
   go_upto_region 20 with fail
   go_loopg [79] 256 (fun gk s79 wx => ∃ (i : Nat), s79 = .int .i64 i ∧ i + gk = 256 ∧ Hid (TogI w rz ob mb 3071 wx))
   case atStart => exact ⟨0, rfl, by omega, HT1⟩
   case round =>
    clear HT1
    obtain ⟨i2, rfl, hig2, HT⟩ := hrel
    by_cases hlt3 : i2 < 256
    case pos =>
     have hltz3 : (i2 : Int) < (256 : Int) := by omega
     obtain ⟨g, rfl⟩ : ∃ g, gk = g + 1 := ⟨gk - 1, by omega⟩
     have lk := look_byte HT.out.mp (z := (i2 : Int)) (by omega) hltz3
     go_wp2_with fail
     go_roundg g
     case measure => omega
     case rel => exact ⟨i2 + 1, by go_num, by omega, HT⟩
    case neg =>
     have hltz3 : ¬ (i2 : Int) < (256 : Int) := by omega
     have hbit3 : bits BinOp.andNot IntKind.i64 3071 512 = 2559 := by decide
     obtain ⟨d0, d1, d2, d3, d4, d5, d6, d7, d8⟩ := feat_cells HT.out.bo
     have f0 := Lib.frozen_of_heap HT.out.bo 0
     have f7 := Lib.frozen_of_heap HT.out.bo 7
     go_upto_region 27 with fail
     have HT2 : Hid (TogI w rz ob mb 2559 _) := Lib.hid ((HT.out.set 0 (.int .i64 2559) rfl).set 7 (.int .i64 1) rfl)
     clear HT d0 d1 d2 d3 d4 d5 d6 d7 d8 f0 f7
     generalize (wr.setCell _ _).setCell _ _ = wy at *
     obtain ⟨d0, d1, d2, d3, d4, d5, d6, d7, d8⟩ := feat_cells HT2.out.bo
     obtain ⟨⟨p0, p1, p2, p3, p4, p5, p6, p7, p8⟩, f0, f1, f2, f3, f4, f5, f6, f7, f8⟩ := feat_room HT2.out.bz
     have hend : Below w.heap.size w (set9 wy rz 2559) := HT2.out.bel.trans ((set9_kp (Kp.refl (fun j => j = rz) wy) (.inl rfl) 2559).below (fun j e => by rw [e, HZ.out]; exact Nat.le_refl _) HT2.out.bel.size)
     unfold set9 at hend
     go_wp2_with fail
     try simp only [Exit.inBlock, Exit.then]
     refine bodyPost_ret (v := .agg (featA 2559)) ?_ rfl ⟨rfl, hend⟩
     clear hend
     simp [results, Tryz.f27]
     go_simp
end Go.Proofs.YtchfhojighopkaaGreatDoor
