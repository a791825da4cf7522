/-
  Parts of the proof: Ua3, Ua4, Ua5, Ua6, Uc1.
-/
import Derived.Test.YtchfhojighopkaaGreatDoorGuAY
import Derived.Test.YtchfhojighopkaaGreatDoorGuAX
namespace Go.Proofs.YtchfhojighopkaaGreatDoor
open Go.RowKit

/-- All's boxes: the store, what has been read, the closure. -/
structure AllB (w00 : World) (I : World → Prop) (G : Nat → Prop) (T : TypeId) (p : Value) (sb ob qb : Nat) (acc : List InfS) (a : Option Addr) (cap : Nat) (W : World) : Prop where
 kp : Kp G w00 W
 inv : I W
 sbx : BoxIs W sb #[.iface T p] 45
 qbx : BoxIs W qb #[.func (.func 58) #[] #[ptr sb, ptr ob, ptr qb]] 59
 obx : BoxIs W ob #[.slice a acc.length cap] 91
 row : RowG 37 7 W w00.heap.size a cap (acc.map InfS.row)
 nil : acc = [] → a = none ∧ cap = 0
 lo : w00.heap.size ≤ sb ∧ w00.heap.size ≤ ob ∧ w00.heap.size ≤ qb
section
variable {L : Nat} {I : World → Prop} {G : Nat → Prop} {T : TypeId} {p rc : Value} {lf gf : Nat} {P : List InfS → Prop} {R : ByteArray → ByteArray → Prop}
theorem AllB.under (hV : StV L I G T p lf gf rc P R) {w00 : World} (_hL : L ≤ w00.heap.size) {sb ob qb : Nat} {acc : List InfS} {a : Option Addr} {cap : Nat} {W W' : World} (h : AllB w00 I G T p sb ob qb acc a cap W) (hb : Below W.heap.size W W') : AllB w00 I G T p sb ob qb acc a cap W' :=
 ⟨h.kp.trans (Kp.of hb), hV.keep _ _ h.inv (Kp.of hb), h.sbx.under hb, h.qbx.under hb, h.obx.under hb, h.row.kp (Kp.of (F := fun _ => False) hb) (fun _ _ e => e), h.nil, h.lo⟩
def ReadV (w00 : World) (I : World → Prop) (G : Nat → Prop) (T : TypeId) (p : Value) (P : List InfS → Prop) (sb ob qb : Nat) (e : Ending) (w' : World) : Prop :=
 ∃ (xs : List InfS) (a : Option Addr) (cap : Nat), e = .returned (.int .i64 0) ∧ P xs ∧ AllB w00 I G T p sb ob qb xs a cap w'
set_option maxHeartbeats 8000000 in
set_option maxRecDepth 100000 in
theorem readV_any (hV : StV L I G T p lf gf rc P R) (w00 : World) (hL : L ≤ w00.heap.size) (sb ob qb : Nat) (W : World) (hS : AllB w00 I G T p sb ob qb [] none 0 W) :
  Calls Tryz.prog 58 #[.string ⟨#[]⟩, ptr sb, ptr ob, ptr qb] W (ReadV w00 I G T p P sb ob qb) := by
 have HLs := Lib.hid (listedV_any hV W hS.inv)
 unfold ListedV at HLs
 have HS := Lib.hid hS
 have s0 : W.cell? ⟨sb, 0, none⟩ = some (.iface T p) := hS.sbx.cell (j := 0) rfl
 obtain ⟨iv, hiv, hz0, hz1, hz2⟩ := info_parts infoInfoS
 have HI := Lib.hid (And.intro hiv (And.intro hz0 (And.intro hz1 hz2)))
 have HFl := Lib.hid hV.flat
 have HKe := Lib.hid hV.keep
 have HGl := Lib.hid hV.gl
 have HLo := Lib.hid hL
 have HUn := Lib.hid (fun xs a cap W W' (h : AllB w00 I G T p sb ob qb xs a cap W) hb => AllB.under hV hL h (W' := W') hb)
 clear hV hS hL hiv hz0 hz1 hz2
 go_enter Tryz.func58, Tryz.ntmps58
 go_upto_region 4 with (go_at_call 59; refine HLs.out.mono ?_; rintro e w2 ⟨xs, ga, gc, rfl, hr2, hz2, hp2, hi2, hk2⟩)
 have HR2 := Lib.hid hr2
 have HZ2 := Lib.hid hz2
 have HP2 := Lib.hid hp2
 have HI2 := Lib.hid hi2
 have HK2 := Lib.hid hk2
 have hlo := HS.out.lo
 have hsz := HS.out.kp.size
 have hg2 : ∀ i, G i → i < w00.heap.size := fun i h => Nat.lt_of_lt_of_le (HGl.out i h) HLo.out
 have HG2 := Lib.hid hg2
 have HO2 : Hid (BoxIs w2 ob #[.slice none 0 0] 91) := Lib.hid (HS.out.obx.kp hk2 (fun h => by have := hg2 _ h; omega))
 have o2 : w2.cell? ⟨ob, 0, none⟩ = some (.slice none 0 0) := HO2.out.cell (j := 0) rfl
 have HW2 : Hid (w00.heap.size ≤ w2.heap.size) := Lib.hid (Nat.le_trans HS.out.kp.size hk2.size)
 clear hr2 hz2 hp2 hi2 hk2 hg2
 go_upto_region 5 with (at_builtin; refine wpList_appRows (w := w2) (RowG.nil _ _ w2 w00.heap.size) HR2.out (fun e => HZ2.out (List.map_eq_nil_iff.1 e)) Tryz.underlying91 HI.out.1 HI.out.2.1 HI.out.2.2.1 HI.out.2.2.2 rfl (by decide) (by decide) (fun r hr u hu => by obtain ⟨m, _, rfl⟩ := List.mem_map.1 hr; exact infS_one _ u hu) (by have := (HFl.out xs HP2.out).1; simp; omega) HW2.out rfl (.tmp 20) (.tmp 21) rfl rfl (by rw [List.length_map]; rfl) (fun a3 cap3 w3 r1 r2 r3 r4 => ?_); rw [List.length_map, List.length_nil, Nat.zero_add]; have HR3 := Lib.hid r1; have HK3 : Hid (Kp (fun _ => False) w2 w3) := Lib.hid (r2.mono (fun i ⟨a, h, _⟩ => by cases h)); have HZ3 : Hid (xs = [] → a3 = none ∧ cap3 = 0) := Lib.hid (fun e => r4 (by rw [e]; rfl)); have HO3 : Hid (BoxIs w3 ob #[.slice none 0 0] 91) := Lib.hid (HO2.out.kp HK3.out (fun e => e)); have o3 : w3.cell? ⟨ob, 0, none⟩ = some (.slice none 0 0) := HO3.out.cell (j := 0) rfl; have o3f : w3.frozen? ⟨ob, 0, none⟩ = false := Lib.frozen_of_heap HO3.out 0; obtain ⟨Z, hZ⟩ : ∃ Z, xs.length = Z := ⟨_, rfl⟩; rw [hZ]; have HLL := Lib.hid hZ; clear r1 r2 r3 r4 hZ)
 have hkset : Kp (fun i => i = ob) w3 (w3.setCell ⟨ob, 0, none⟩ (.slice a3 Z cap3)) := (Kp.refl (fun i => i = ob) w3).set (b := ob) (.inl rfl) 0 _
 have hk24 : Kp (fun i => i = ob) w2 (w3.setCell ⟨ob, 0, none⟩ (.slice a3 Z cap3)) := (HK3.out.mono (fun i h => h.elim)).trans hkset
 have HS4 : Hid (AllB w00 I G T p sb ob qb xs a3 cap3 (w3.setCell ⟨ob, 0, none⟩ (.slice a3 Z cap3))) := Lib.hid (by
  have hs2 := HS.out.sbx.kp HK2.out (fun h => by have := HG2.out _ h; omega)
  have hq2 := HS.out.qbx.kp HK2.out (fun h => by have := HG2.out _ h; omega)
  refine ⟨(HS.out.kp.trans HK2.out).extK hk24 (fun i h => .inr (by rw [h]; exact hlo.2.1)), HKe.out _ _ HI2.out (hk24.mono (fun i h => by have := HLo.out; omega)), hs2.kp hk24 (fun h => HO2.out.ne hs2 (by decide) h.symm), hq2.kp hk24 (fun h => HO2.out.ne hq2 (by decide) h.symm), ?_, ?_, HZ3.out, hlo⟩
  ·rw [HLL.out]
   exact BoxIs.putAt HO3.out 0 (.slice a3 Z cap3)
  ·have h3 := HR3.out
   rw [List.nil_append] at h3
   exact h3.kp hkset (fun i hi h => h3.ne HO3.out (by decide) (h ▸ hi)))
 have HRl : Hid (RowG 37 7 (w3.setCell ⟨ob, 0, none⟩ (.slice a3 Z cap3)) W.heap.size ga gc (xs.map InfS.row)) := Lib.hid (HR2.out.kp hk24 (fun i hi h => HR2.out.ne HO2.out (by decide) (h ▸ hi)))
 clear HR2 HZ2 HI2 HK2 HO2 o2 HW2 HR3 HK3 HZ3 HO3 o3 o3f hkset hk24 HKe
 generalize w3.setCell ⟨ob, 0, none⟩ (.slice a3 Z cap3) = w4 at *
 go_upto_region 6 with fail
 go_loopg [25] xs.length (fun gk s25 wx => ∃ (i : Nat), s25 = .int .i64 i ∧ i + gk = xs.length ∧ Hid (AllB w00 I G T p sb ob qb xs a3 cap3 wx) ∧ Hid (RowG 37 7 wx W.heap.size ga gc (xs.map InfS.row)))
 case atStart => exact ⟨0, rfl, Nat.zero_add _, HS4, HRl⟩
 case round =>
  clear HS4 HRl
  obtain ⟨i, rfl, hig, HSx, HRx⟩ := hrel
  by_cases hlt : i < xs.length
  case neg =>
   have hltz : ¬ (i : Int) < (xs.length : Int) := by omega
   rw [HLL.out] at hltz
   go_wp2_with fail
   go_ret
   exact ⟨xs, a3, cap3, rfl, HP2.out, HSx.out⟩
  case pos =>
   have hltz : (i : Int) < (xs.length : Int) := by omega
   have hx20 := (HFl.out xs HP2.out).1
   obtain ⟨x, hx⟩ : ∃ x, xs[i]? = some x := ⟨_, List.getElem?_eq_getElem hlt⟩
   obtain ⟨g, rfl⟩ := HRx.out.some_of (by rw [List.length_map]; omega)
   have hrow : (xs.map InfS.row)[i]? = some x.row := by rw [List.getElem?_map, hx]; rfl
   have hxd := ((HFl.out xs HP2.out).2 x (List.mem_of_getElem? hx)).1
   have c0 : wr.cell? ⟨g, i * 7, none⟩ = some (.string x.path) := HRx.out.cell_at (by decide) hrow (j := 0) rfl
   have c1 : wr.cell? ⟨g, i * 7 + 1, none⟩ = some (.bool x.dir) := HRx.out.cell_at (by decide) hrow (j := 1) rfl
   have c2 : wr.cell? ⟨g, i * 7 + 2, none⟩ = some (.int .i64 x.size) := HRx.out.cell_at (by decide) hrow (j := 2) rfl
   have c3 : wr.cell? ⟨g, i * 7 + 3, none⟩ = some (.int .i64 x.time) := HRx.out.cell_at (by decide) hrow (j := 3) rfl
   have c4 : wr.cell? ⟨g, i * 7 + 4, none⟩ = some (.slice x.sa x.sn x.sc) := HRx.out.cell_at (by decide) hrow (j := 4) rfl
   have c5 : wr.cell? ⟨g, i * 7 + 5, none⟩ = some (.slice none 0 0) := HRx.out.cell_at (by decide) hrow (j := 5) rfl
   have c6 : wr.cell? ⟨g, i * 7 + 6, none⟩ = some (.string x.id) := HRx.out.cell_at (by decide) hrow (j := 6) rfl
   clear hx hrow
   obtain ⟨A, dd, z, t, sa, sn, sc, ix⟩ := x
   dsimp only at c0 c1 c2 c3 c4 c6 hxd
   subst hxd
   rw [HLL.out] at hltz
   go_upto_region 8 with fail
   have hb5 : Below wr.heap.size wr (wr.alloc (.cells #[.string A, .bool false, .int .i64 z, .int .i64 t, .slice sa sn sc, .slice none 0 0, .string ix] 37)) := bAlloc (Below.refl _ _) _
   have hx5 : BoxIs (wr.alloc (.cells #[.string A, .bool false, .int .i64 z, .int .i64 t, .slice sa sn sc, .slice none 0 0, .string ix] 37)) wr.heap.size #[.string A, .bool false, .int .i64 z, .int .i64 t, .slice sa sn sc, .slice none 0 0, .string ix] 37 := heap_alloc_new _ _
   have HS5 := Lib.hid (HUn.out _ _ _ _ _ HSx.out hb5)
   have HR5 := Lib.hid (HRx.out.kp (Kp.of (F := fun _ => False) hb5) (fun _ _ e => e))
   have d1 := hx5.cell (j := 1) rfl
   obtain ⟨nx, hnx⟩ : ∃ nx, wr.heap.size = nx := ⟨_, rfl⟩
   rw [hnx] at d1 ⊢
   clear hb5 hx5 c0 c1 c2 c3 c4 c5 c6 hnx
   generalize wr.alloc _ = w5 at *
   go_wp2_with fail
   go_roundg (gk - 1)
   case measure => omega
   case rel => exact ⟨i + 1, by go_num, by omega, HS5, HR5⟩
end
end Go.Proofs.YtchfhojighopkaaGreatDoor
namespace Go.Proofs.YtchfhojighopkaaGreatDoor
open Go.RowKit

section
variable {L : Nat} {I : World → Prop} {G : Nat → Prop} {T : TypeId} {p rc : Value} {lf gf : Nat} {P : List InfS → Prop} {R : ByteArray → ByteArray → Prop}
def AllV (I : World → Prop) (G : Nat → Prop) (P : List InfS → Prop) (w : World) (e : Ending) (w' : World) : Prop :=
 ∃ (xs ys : List InfS) (a : Option Addr) (cap : Nat), e = .returned (.tuple #[.slice a ys.length cap, .int .i64 0]) ∧ P xs ∧ ys.Perm xs ∧ ((∀ j x y, xs[j]? = some x → xs[j + 1]? = some y → ¬ cfAll y x < 0) → ys = xs) ∧ HoldsR w' a 7 (ys.map InfS.row) ∧ (∀ ad, a = some ad → w.heap.size ≤ ad.block) ∧ I w' ∧ Kp G w w'
set_option maxHeartbeats 8000000 in
set_option maxRecDepth 100000 in
theorem allV_any (hV : StV L I G T p lf gf rc P R) (w : World) (hI : I w) :
  Calls Tryz.prog 31 #[.iface T p, .string ⟨#[]⟩] w (AllV I G P w) := by
 have hL := hV.low w hI
 have HRd := Lib.hid (fun sb ob qb W (h : AllB w I G T p sb ob qb [] none 0 W) => readV_any hV w hL sb ob qb W h)
 unfold ReadV at HRd
 have HSo := Lib.hid (fun W B cap a (l : List InfS) (h1 : RowG 37 7 W B a cap (l.map InfS.row)) h2 h3 h4 => sortS_any (w := W) (B := B) (cap := cap) (a := a) 61 #[] cfAll enters_all2 cmpLaysAll l h1 h2 h3 h4)
 unfold SortSPost at HSo
 have HPs : Hid (∀ xs, P xs → (∀ x ∈ xs, x.path.size ≤ 9223372036854775807) ∧ xs.length < 20) := Lib.hid (fun xs hp => ⟨fun x hx => by
  have := ((hV.flat xs hp).2 x hx).2
  omega, (hV.flat xs hp).1⟩)
 have HKe := Lib.hid hV.keep
 have HGl := Lib.hid hV.gl
 have HL := Lib.hid hL
 have HI := Lib.hid hI
 have HBx := Lib.hid (box_three w #[.iface T p] #[.slice none 0 0] #[.nilFunc] 45 91 59)
 clear hV hI hL
 go_enter Tryz.func31, Tryz.ntmps31
 go_upto_region 3 with fail
 obtain ⟨h1, h2, h3, h4⟩ := HBx.out
 obtain ⟨sb, hsb⟩ : ∃ sb, w.heap.size = sb := ⟨_, rfl⟩
 have HSb := Lib.hid hsb
 rw [hsb] at h1 h2 h3 ⊢
 have H1 := Lib.hid h1
 have H2 := Lib.hid h2
 have H3 := Lib.hid h3
 have H4 := Lib.hid h4
 clear h1 h2 h3 h4 hsb HBx
 generalize ((w.alloc _).alloc _).alloc _ = w1 at *
 obtain ⟨ob, hob⟩ : ∃ ob, sb + 1 = ob := ⟨_, rfl⟩
 rw [hob] at H2 H3 ⊢
 obtain ⟨qb, hqb⟩ : ∃ qb, ob + 1 = qb := ⟨_, rfl⟩
 rw [hqb] at H3 ⊢
 have HOb := Lib.hid (And.intro hob hqb)
 clear hob hqb
 have f3 : w1.frozen? ⟨qb, 0, none⟩ = false := Lib.frozen_of_heap H3.out 0
 have f3c : w1.cell? ⟨qb, 0, none⟩ = some .nilFunc := H3.out.cell (j := 0) rfl
 go_upto_region 4 with fail
 clear f3 f3c
 have hqn : qb ≠ sb ∧ qb ≠ ob := by have := HOb.out; omega
 have hks : Kp (fun i => i = qb) w1 (w1.setCell ⟨qb, 0, none⟩ (.func (.func 58) #[] #[ptr sb, ptr ob, ptr qb])) := (Kp.refl (fun i => i = qb) w1).set (b := qb) (.inl rfl) 0 _
 have hlo : w.heap.size ≤ sb ∧ w.heap.size ≤ ob ∧ w.heap.size ≤ qb := by have := HOb.out; have := HSb.out; omega
 have hS : AllB w I G T p sb ob qb [] none 0 (w1.setCell ⟨qb, 0, none⟩ (.func (.func 58) #[] #[ptr sb, ptr ob, ptr qb])) := by
  refine ⟨(Kp.of H4.out).extK hks (fun i h => .inr (by rw [h]; exact hlo.2.2)), HKe.out _ _ HI.out ((Kp.of H4.out).extK hks (fun i h => .inl (by have := HL.out; omega))), H1.out.kp hks (fun h => hqn.1 h.symm), BoxIs.putAt H3.out 0 _, H2.out.kp hks (fun h => hqn.2 h.symm), RowG.nil _ _ _ _, fun _ => ⟨rfl, rfl⟩, hlo⟩
 have HRx := Lib.hid (HRd.out sb ob qb _ hS)
 have s4 : (w1.setCell ⟨qb, 0, none⟩ (.func (.func 58) #[] #[ptr sb, ptr ob, ptr qb])).cell? ⟨qb, 0, none⟩ = some (.func (.func 58) #[] #[ptr sb, ptr ob, ptr qb]) := hS.qbx.cell (j := 0) rfl
 clear hks hS HRd H1 H2 H3 H4
 generalize w1.setCell ⟨qb, 0, none⟩ (.func (.func 58) #[] #[ptr sb, ptr ob, ptr qb]) = w2 at *
 go_upto_region 7 with (go_at_call 58; refine HRx.out.mono ?_; rintro e w3 ⟨out, a, cap, rfl, hp3, hs3⟩)
 have HS3 := Lib.hid hs3
 have HP3 := Lib.hid hp3
 have o3 : w3.cell? ⟨ob, 0, none⟩ = some (.slice a out.length cap) := hs3.obx.cell (j := 0) rfl
 have HSx := Lib.hid (HSo.out w3 w.heap.size cap a out hs3.row hs3.nil (HPs.out out hp3).1 (HPs.out out hp3).2)
 clear hp3 hs3 HRx HSo
 go_wp2_with (first
  | (go_at_call 60; refine HSx.out.mono ?_; rintro e w4 ⟨rfl, l, hp4, hs4, hh4, hk4⟩; have HO4 : Hid (BoxIs w4 ob #[.slice a out.length cap] 91) := Lib.hid (HS3.out.obx.kp hk4 (HS3.out.row.ne HS3.out.obx (by decide))); have o4 : w4.cell? ⟨ob, 0, none⟩ = some (.slice a out.length cap) := HO4.out.cell (j := 0) rfl; have HK4 := Lib.hid hk4; have HP4 := Lib.hid (And.intro hp4 (And.intro hs4 hh4)); clear hp4 hs4 hh4 hk4 o3))
 go_ret2
 have hbase := HS3.out.row.base
 exact ⟨out, l, a, cap, by rw [HP4.out.1.length_eq]; rfl, HP3.out, HP4.out.1, fun h => HP4.out.2.1 (fun j x y h1 h2 => Int.not_lt.1 (h j x y h1 h2)), HP4.out.2.2, fun ad h => (hbase ad.block ⟨ad, h, rfl⟩).1, HKe.out _ _ HS3.out.inv (HK4.out.mono (fun i h => Nat.le_trans HL.out (hbase i h).1)), HS3.out.kp.extK HK4.out (fun i h => .inr (hbase i h).1)⟩
end
end Go.Proofs.YtchfhojighopkaaGreatDoor
namespace Go.Proofs.YtchfhojighopkaaGreatDoor
open Go.RowKit

section
variable {L : Nat} {I : World → Prop} {G : Nat → Prop} {T : TypeId} {p rc : Value} {lf gf : Nat} {P : List InfS → Prop} {R : ByteArray → ByteArray → Prop}
def WholeV (I : World → Prop) (G : Nat → Prop) (R : ByteArray → ByteArray → Prop) (q : ByteArray) (w : World) (e : Ending) (w' : World) : Prop :=
 ∃ d, e = .returned (.tuple #[.string d, .int .i64 0]) ∧ R q d ∧ d.size < 65536 ∧ I w' ∧ Kp G w w'
set_option maxHeartbeats 2000000 in
set_option maxRecDepth 100000 in
theorem wholeV_any (hV : StV L I G T p lf gf rc P R) (w : World) (hI : I w) (q : ByteArray) (xs : List InfS) (hP : P xs) (hq : ∃ x ∈ xs, x.path = q) :
  Calls Tryz.prog 32 #[.iface T p, .string q] w (WholeV I G R q w) := by
 have HGt := Lib.hid (fun W (h : I W) => hV.get W q xs h hP hq)
 have HKe := Lib.hid hV.keep
 have HGl := Lib.hid (fun i (h : G i) => Nat.lt_of_lt_of_le (hV.gl i h) (hV.low w hI))
 have HL := Lib.hid (hV.low w hI)
 have HI := Lib.hid hI
 have hmt := hV.mg
 have heg := hV.eg
 have hma := hV.mna
 have hBl := BldK.fresh w
 have hb1 : Below w.heap.size w (w.alloc (.cells #[.pointer none, .slice none 0 0] 127)) := bAlloc (Below.refl _ _) _
 clear hV hI hP hq
 go_enter Tryz.func32, Tryz.ntmps32
 go_upto_region 2 with fail
 obtain ⟨B, hB⟩ : ∃ B, w.heap.size = B := ⟨_, rfl⟩
 have HBz := Lib.hid hB
 rw [hB] at hBl ⊢
 have HBl := Lib.hid hBl
 have HG1 : Hid (Kp G w (w.alloc (.cells #[.pointer none, .slice none 0 0] 127))) := Lib.hid (Kp.of hb1)
 have HI1 := Lib.hid (HKe.out _ _ HI.out (Kp.of hb1))
 clear hB hBl hb1
 generalize w.alloc _ = w1 at *
 go_loopg [7] 0 (fun gk s7 wx => Hid (BldK B B [] wx) ∧ Hid (I wx) ∧ Hid (Kp G w wx))
 case atStart => exact ⟨HBl, HI1, HG1⟩
 case round =>
  clear HBl HI1 HG1
  obtain ⟨HBx, HIx, HGx⟩ := hrel
  have HID : Hid (I wr.drew) := Lib.hid (HKe.out _ _ HIx.out ((Kp.refl _ wr).drew 1))
  have HGm := Lib.hid (HGt.out wr.drew HID.out)
  have HBd : Hid (BldK B B [] wr.drew) := Lib.hid (HBx.out.kp ((Kp.refl (fun _ => False) wr).drew 1) (fun _ e => e.elim))
  go_upto_region 2 with fail
  refine wp_region_seqQ (BldK B B []) 1000 [(0, true), (1, true), (2, true), (3, true), (4, true), (5, true), (6, false), (7, true), (8, true), (9, true), (10, true), (11, true)] (by as_aux_lemma => kernel_rfl) (by as_aux_lemma => kernel_rfl) (by as_aux_lemma => kernel_rfl) (by decide) (by as_aux_lemma => kernel_rfl) (by decide) HBd.out ?_
  intro OPS HO
  iterate 2
   refine seqQ_take (o := ⟨_, _, _, _, _, _⟩) (v := ?_) (by rw [HO.out]; rfl) (by rfl) ?_ ?_
   rotate_left 1
   ·first | ((intro W _; go_simp) <;> with_reducible rfl) | (intro W hW; skip; (go_simp <;> with_reducible rfl))
   try simp only [Act.put, List.setIfInBounds_toArray, List.set_cons_zero, List.set_cons_succ]
  refine seqQ_quiet (o := ⟨_, _, _, _, _, _⟩) (by rw [HO.out]; rfl) (by rfl) 52 _ (fun W hW => ?_) _ (fun W hW => lenK hW 0 rfl) ?_
  ·skip; (go_simp <;> with_reducible rfl)
  try simp only [Act.put, List.setIfInBounds_toArray, List.set_cons_zero, List.set_cons_succ]
  iterate 3
   refine seqQ_take (o := ⟨_, _, _, _, _, _⟩) (v := ?_) (by rw [HO.out]; rfl) (by rfl) ?_ ?_
   rotate_left 1
   ·first | ((intro W _; go_simp) <;> with_reducible rfl) | (intro W hW; skip; (go_simp <;> with_reducible rfl))
   try simp only [Act.put, List.setIfInBounds_toArray, List.set_cons_zero, List.set_cons_succ]
  refine seqQ_do (o := ⟨_, _, _, _, _, _⟩) (by rw [HO.out]; rfl) (by rfl) (fun K hK => ?_)
  go_wp2_with fail
  refine HGm.out.mono ?_
  rintro e w2 ⟨pc, rfl, hr2, hs2, hi2, hg2⟩
  have hS : BldK B B [] w2 := HBd.out.kp hg2 (fun i hi => by rw [← HBz.out]; exact HGl.out i hi)
  refine hK.out _ _ (fun _ => hS) ?_
  clear hK K
  try simp only [Act.put, List.setIfInBounds_toArray, List.set_cons_zero, List.set_cons_succ]
  iterate 5
   refine seqQ_take (o := ⟨_, _, _, _, _, _⟩) (v := ?_) (by rw [HO.out]; rfl) (by rfl) ?_ ?_
   rotate_left 1
   ·first | ((intro W _; go_simp) <;> with_reducible rfl) | (intro W hW; skip; (go_simp <;> with_reducible rfl))
   try simp only [Act.put, List.setIfInBounds_toArray, List.set_cons_zero, List.set_cons_succ]
  refine seqQ_done ?_
  have HI2 := Lib.hid hi2
  have HR2 := Lib.hid (And.intro hr2 hs2)
  have HG2 : Hid (Kp G w w2) := Lib.hid (HGx.out.trans (((Kp.refl _ wr).drew 1).trans hg2))
  have HW2 := Lib.hid (writeK hS pc (by show 0 + pc.size ≤ _; omega))
  rw [List.nil_append] at HW2
  have hl2 : (pc.size : Int) < 65536 := by omega
  clear hr2 hs2 hi2 hg2 hS
  go_upto_region 6 with (go_at_call 51; refine HW2.out.mono ?_; rintro e w3 ⟨rfl, hw3a, hw3b⟩)
  have HB3 := Lib.hid hw3a
  have HG3 : Hid (Kp G w w3) := Lib.hid (HG2.out.extB (by rw [HBz.out]; exact hw3b))
  have HI3 : Hid (I w3) := Lib.hid (HKe.out _ _ HI2.out ((Below.kpw hw3b).mono (fun i h => Nat.le_trans HL.out (by rw [HBz.out]; exact h))))
  have HSt := Lib.hid (stringK HB3.out)
  have HBy : Hid ((⟨pc.data.toList.toArray⟩ : ByteArray) = pc) := Lib.hid (by simp)
  rw [HBy.out] at HSt
  clear hw3a hw3b HW2
  go_wp2_with (go_at_call 53; refine HSt.out.mono ?_; rintro e w4 ⟨rfl, hb4⟩)
  go_ret2
  exact ⟨pc, rfl, HR2.out.1, HR2.out.2, HKe.out _ _ HI3.out ((Below.kpw hb4).mono (fun i h => Nat.le_trans HL.out (by rw [HBz.out]; exact h))), HG3.out.extB (by rw [HBz.out]; exact hb4)⟩
end
end Go.Proofs.YtchfhojighopkaaGreatDoor
namespace Go.Proofs.YtchfhojighopkaaGreatDoor
open Go.RowKit

theorem infoPair : (Tryz.prog.info? 53).map (fun i => (i.zero, i.size, i.bytes)) = some (some (.agg #[.string ByteArray.empty, .string ByteArray.empty]), 2, 32) := by kernel_rfl
abbrev pairRow (x : ByteArray × ByteArray) : List Value := [.string x.1, .string x.2]
section
variable {L : Nat} {I : World → Prop} {G : Nat → Prop} {T : TypeId} {p rc : Value} {lf gf : Nat} {P : List InfS → Prop} {R : ByteArray → ByteArray → Prop}
def ContV (I : World → Prop) (G : Nat → Prop) (P : List InfS → Prop) (R : ByteArray → ByteArray → Prop) (w : World) (e : Ending) (w' : World) : Prop :=
 ∃ (xs ys : List InfS) (ps : List (ByteArray × ByteArray)) (a : Option Addr) (cap : Nat), e = .returned (.tuple #[.slice a ps.length cap, .bool true]) ∧ P xs ∧ ys.Perm xs ∧ ((∀ j x y, xs[j]? = some x → xs[j + 1]? = some y → ¬ cfAll y x < 0) → ys = xs) ∧ ps.map (fun q => q.1) = ys.map InfS.path ∧ (∀ q ∈ ps, R q.1 q.2) ∧ RowG 53 2 w' w.heap.size a cap (ps.map pairRow) ∧ (ps = [] → a = none ∧ cap = 0) ∧ I w' ∧ Kp G w w'
set_option maxHeartbeats 4000000 in
set_option maxRecDepth 100000 in
theorem contV_any (hV : StV L I G T p lf gf rc P R) (w : World) (hI : I w) :
  Calls Tryz.prog 9 #[.iface T p] w (ContV I G P R w) := by
 have HAl := Lib.hid (allV_any hV w hI)
 unfold AllV at HAl
 have HWh := Lib.hid (fun W (h : I W) q xs (hP : P xs) (hq : ∃ x ∈ xs, x.path = q) => wholeV_any hV W h q xs hP hq)
 unfold WholeV at HWh
 have HKe := Lib.hid hV.keep
 have HGl := Lib.hid (fun i (h : G i) => Nat.lt_of_lt_of_le (hV.gl i h) (hV.low w hI))
 have HFl := Lib.hid hV.flat
 have HL := Lib.hid (hV.low w hI)
 obtain ⟨iv, hiv, hz0, hz1, hz2⟩ := info_parts infoPair
 have HIv := Lib.hid (And.intro hiv (And.intro hz0 (And.intro hz1 hz2)))
 clear hV hI hiv hz0 hz1 hz2
 go_enter Tryz.func9, Tryz.ntmps9
 go_upto_region 2 with (go_at_call 31; refine HAl.out.mono ?_; rintro e w1 ⟨xs, ys, ga, gc, rfl, hp1, hq1, hs1, hh1, hg1, hi1, hk1⟩)
 have HP1 := Lib.hid (And.intro hp1 (And.intro hq1 hs1))
 have HH1 := Lib.hid hh1
 have HI1 := Lib.hid hi1
 have HK1 := Lib.hid hk1
 have HGa : Hid (∀ ad, ga = some ad → ¬ G ad.block) := Lib.hid (fun ad h e => by have := hg1 ad h; have := HGl.out _ e; omega)
 have hyl : ys.length < 20 := by rw [hq1.length_eq]; exact (HFl.out xs hp1).1
 have HYl := Lib.hid hyl
 have HGb : Hid (∀ ad, ga = some ad → ys ≠ [] → ad.block < w1.heap.size) := Lib.hid (fun ad h hy => by
  rcases hh1 with h1 | ⟨b, off, ha, hb, _⟩
  ·exact absurd (List.map_eq_nil_iff.1 h1) hy
  ·rw [ha] at h
   injection h with h
   rw [← h]; exact hb)
 clear hp1 hq1 hs1 hh1 hg1 hi1 hk1 HAl hyl
 go_upto_region 4 with fail
 obtain ⟨Z, hZ⟩ : ∃ Z, ys.length = Z := ⟨_, rfl⟩
 have HZ := Lib.hid hZ
 rw [hZ] at HYl ⊢
 clear hZ
 go_loopg [5, 6, 17] Z (fun gk s5 s6 s17 wx => ∃ (i : Nat) (ps : List (ByteArray × ByteArray)) (a : Option Addr) (cap : Nat), s5 = .int .i64 0 ∧ s6 = .slice a i cap ∧ s17 = .int .i64 i ∧ i + gk = Z ∧ Hid (ps.length = i ∧ ps.map (fun q => q.1) = (ys.take i).map InfS.path ∧ ∀ q ∈ ps, R q.1 q.2) ∧ Hid (RowG 53 2 wx w1.heap.size a cap (ps.map pairRow)) ∧ Hid (ps = [] → a = none ∧ cap = 0) ∧ Hid (HoldsR wx ga 7 (ys.map InfS.row)) ∧ Hid (I wx) ∧ Hid (Kp G w1 wx))
 case atStart => exact ⟨0, [], none, 0, rfl, rfl, rfl, Nat.zero_add _, Lib.hid ⟨rfl, rfl, fun q h => by cases h⟩, Lib.hid (RowG.nil _ _ _ _), Lib.hid (fun _ => ⟨rfl, rfl⟩), HH1, HI1, Lib.hid (Kp.refl _ _)⟩
 case round =>
  clear HH1 HI1
  obtain ⟨i, ps, a, cap, rfl, rfl, rfl, hig, HPs, HR, HN, HH, HI, HK⟩ := hrel
  by_cases hlt : i < Z
  case neg =>
   have hltz : ¬ (i : Int) < (Z : Int) := by omega
   go_wp2_with fail
   go_ret2
   have hi : i = ys.length := by rw [HZ.out]; omega
   refine ⟨xs, ys, ps, a, cap, by rw [HPs.out.1]; rfl, HP1.out.1, HP1.out.2.1, fun h => HP1.out.2.2 (fun j x y h1 h2 => Int.not_lt.1 (h j x y h1 h2)), ?_, HPs.out.2.2, HR.out.lower HK1.out.size, HN.out, HI.out, HK1.out.trans HK.out⟩
   rw [HPs.out.2.1, hi, List.take_length]
  case pos =>
   have hltz : (i : Int) < (Z : Int) := by omega
   obtain ⟨g, rfl⟩ : ∃ g, gk = g + 1 := ⟨gk - 1, by omega⟩
   obtain ⟨x, hx⟩ : ∃ x, ys[i]? = some x := ⟨_, List.getElem?_eq_getElem (by rw [HZ.out]; exact hlt)⟩
   obtain ⟨gb, off, hga, hgb, hgc⟩ := HH.out.at (k := i) (row := x.row) (by rw [List.getElem?_map, hx]; rfl)
   have hxm := HP1.out.2.1.mem_iff.1 (List.mem_of_getElem? hx)
   have hxd := ((HFl.out xs HP1.out.1).2 x hxm).1
   have c0 : wr.cell? ⟨gb, off + i * 7, none⟩ = some (.string x.path) := hgc 0 _ rfl
   have c1 : wr.cell? ⟨gb, off + i * 7 + 1, none⟩ = some (.bool x.dir) := hgc 1 _ rfl
   have c2 : wr.cell? ⟨gb, off + i * 7 + 2, none⟩ = some (.int .i64 x.size) := hgc 2 _ rfl
   have c3 : wr.cell? ⟨gb, off + i * 7 + 3, none⟩ = some (.int .i64 x.time) := hgc 3 _ rfl
   have c4 : wr.cell? ⟨gb, off + i * 7 + 4, none⟩ = some (.slice x.sa x.sn x.sc) := hgc 4 _ rfl
   have c5 : wr.cell? ⟨gb, off + i * 7 + 5, none⟩ = some (.slice none 0 0) := hgc 5 _ rfl
   have c6 : wr.cell? ⟨gb, off + i * 7 + 6, none⟩ = some (.string x.id) := hgc 6 _ rfl
   have HWx := Lib.hid (fun W (h : I W) => HWh.out W h x.path xs HP1.out.1 ⟨x, hxm, rfl⟩)
   have HXi := Lib.hid hx
   clear hx hgb hgc hxm
   subst hga
   obtain ⟨A, dd, z, t, sa, sn, sc, ix⟩ := x
   dsimp only at c0 c1 c2 c3 c4 c6 hxd HWx
   subst hxd
   go_upto_region 6 with fail
   have hb5 : Below wr.heap.size wr (wr.alloc (.cells #[.string A, .bool false, .int .i64 z, .int .i64 t, .slice sa sn sc, .slice none 0 0, .string ix] 37)) := bAlloc (Below.refl _ _) _
   have hx5 : BoxIs (wr.alloc (.cells #[.string A, .bool false, .int .i64 z, .int .i64 t, .slice sa sn sc, .slice none 0 0, .string ix] 37)) wr.heap.size #[.string A, .bool false, .int .i64 z, .int .i64 t, .slice sa sn sc, .slice none 0 0, .string ix] 37 := heap_alloc_new _ _
   have HB5 := Lib.hid hb5
   obtain ⟨nx, hnx⟩ : ∃ nx, wr.heap.size = nx := ⟨_, rfl⟩
   have hnw : w.heap.size ≤ nx := by rw [← hnx]; exact Nat.le_trans HK1.out.size HK.out.size
   rw [hnx] at hx5 ⊢
   have HX5 := Lib.hid hx5
   have d1 := hx5.cell (j := 1) rfl
   have HI5 : Hid (I _) := Lib.hid (HKe.out _ _ HI.out (Kp.of hb5))
   clear hb5 hx5 c0 c1 c2 c3 c4 c5 c6 hnx
   generalize wr.alloc _ = w5 at *
   have HW5 := Lib.hid (HWx.out w5 HI5.out)
   have d0 := HX5.out.cell (j := 0) rfl
   go_upto_region 9 with (go_at_call 32; refine HW5.out.mono ?_; rintro e w6 ⟨dt, rfl, hr6, hs6, hi6, hk6⟩)
   have HX6 := Lib.hid (HX5.out.kp hk6 (fun h => by have := HGl.out _ h; omega))
   have e0 := HX6.out.cell (j := 0) rfl
   have HK6 := Lib.hid hk6
   have HD6 := Lib.hid hr6
   have HI6 := Lib.hid hi6
   have HR6 : Hid (RowG 53 2 w6 w1.heap.size a cap (ps.map pairRow)) := Lib.hid ((HR.out.kp (Kp.of (F := fun _ => False) HB5.out) (fun _ _ e => e)).kp hk6 (fun j hj h => by have := HGl.out _ h; have := (HR.out.base j hj).1; have := HK1.out.size; omega))
   have HW6 : Hid (w1.heap.size ≤ w6.heap.size) := Lib.hid (Nat.le_trans HK.out.size (Nat.le_trans HB5.out.size hk6.size))
   have hil : i ≤ 20 := by have := HYl.out; omega
   clear d0 d1 hr6 hs6 hi6 hk6 HWx HW5
   go_upto_region 10 with (at_builtin; refine wpList_appG HR6.out Tryz.underlying49 HIv.out.1 HIv.out.2.1 HIv.out.2.2.1 HIv.out.2.2.2 rfl (by decide) (by decide) [.string A, .string dt] rfl (by simp [Value.oneCell']) (by rw [List.length_map, HPs.out.1]; omega) HW6.out rfl (.tmp 34) (.tmp 39) rfl (by show Value.slice _ _ _ = Value.slice _ _ _; rw [List.length_map, HPs.out.1]) rfl (fun g7 cap7 w7 r1 r2 r3 => ?_); rw [List.length_map, HPs.out.1]; have HR7 := Lib.hid r1; have HK7 := Lib.hid r2; clear r1 r2 r3)
   go_wp2_with fail
   go_roundg g
   case measure => omega
   case rel =>
    have hb7 : ∀ j, rb a j → w1.heap.size ≤ j := fun j hj => (HR.out.base j hj).1
    refine ⟨i + 1, ps ++ [(A, dt)], some ⟨g7, 0, none⟩, cap7, rfl, by go_num, by go_num, by omega, Lib.hid ⟨by rw [List.length_append, HPs.out.1]; rfl, ?_, ?_⟩, Lib.hid (by rw [List.map_append]; exact HR7.out), Lib.hid (fun e => by simp at e), Lib.hid ?_, Lib.hid ?_, Lib.hid ?_⟩
    ·rw [List.map_append, HPs.out.2.1, take_snoc HXi.out, List.map_append]
     rfl
    ·intro q hq
     rcases List.mem_append.1 hq with h | h
     ·exact HPs.out.2.2 q h
     ·obtain rfl := List.mem_singleton.1 h
      exact HD6.out
    ·refine ((HH.out.kp (Kp.of (F := fun _ => False) HB5.out) (fun _ _ e => e)).kp HK6.out (fun ad h => ?_)).kp HK7.out (fun ad h e => ?_)
     ·exact HGa.out ad h
     ·have h1 := HGb.out ad h (fun e0 => by rw [e0] at HXi; have := HXi.out; simp at this)
      have := hb7 _ e
      omega
    ·exact HKe.out _ _ HI6.out (HK7.out.mono (fun j hj => Nat.le_trans (Nat.le_trans HL.out HK1.out.size) (hb7 j hj)))
    ·exact (HK.out.trans ((Kp.of HB5.out).trans HK6.out)).extK HK7.out (fun j hj => .inr (hb7 j hj))
end
end Go.Proofs.YtchfhojighopkaaGreatDoor
namespace Go.Proofs.YtchfhojighopkaaGreatDoor
open Go.RowKit Wh.Sha

theorem memM_stat (w : World) (n : Nat) (v : Value) (hn : 0 < n) : (method n 28 v "Stat").run Tryz.prog w = .ok (295, v) w := by
 obtain ⟨i, hi, hm⟩ := Option.map_eq_some_iff.1 (show (Tryz.prog.info? 28).map (fun i => (i.methods.find? (·.name == "Stat")).map (fun m => (m.path.toList, m.func))) = some (some ([], some (295, true))) by kernel_rfl)
 exact method_ptr hi hm Tryz.underlying28 hn v
theorem memM_put (w : World) (n : Nat) (v : Value) (hn : 0 < n) : (method n 28 v "Put").run Tryz.prog w = .ok (6, v) w := by
 obtain ⟨i, hi, hm⟩ := Option.map_eq_some_iff.1 (show (Tryz.prog.info? 28).map (fun i => (i.methods.find? (·.name == "Put")).map (fun m => (m.path.toList, m.func))) = some (some ([], some (6, true))) by kernel_rfl)
 exact method_ptr hi hm Tryz.underlying28 hn v
theorem memM_remove (w : World) (n : Nat) (v : Value) (hn : 0 < n) : (method n 28 v "Remove").run Tryz.prog w = .ok (162, v) w := by
 obtain ⟨i, hi, hm⟩ := Option.map_eq_some_iff.1 (show (Tryz.prog.info? 28).map (fun i => (i.methods.find? (·.name == "Remove")).map (fun m => (m.path.toList, m.func))) = some (some ([], some (162, true))) by kernel_rfl)
 exact method_ptr hi hm Tryz.underlying28 hn v
theorem memM_features (w : World) (n : Nat) (v : Value) (hn : 0 < n) : (method n 28 v "Features").run Tryz.prog w = .ok (159, v) w := by
 obtain ⟨i, hi, hm⟩ := Option.map_eq_some_iff.1 (show (Tryz.prog.info? 28).map (fun i => (i.methods.find? (·.name == "Features")).map (fun m => (m.path.toList, m.func))) = some (some ([], some (159, true))) by kernel_rfl)
 exact method_ptr hi hm Tryz.underlying28 hn v
/-- What holds while calls ask the two stores. -/
def InvJ (w0 : World) (S : Two) (N : Int) (L : Nat) (W : World) : Prop := J W w0.heap.size S N ∧ Below w0.heap.size w0 W ∧ L ≤ W.heap.size
/-- What Get gives of a store. -/
def RelF (s : TSt) (q d : ByteArray) : Prop := ∃ n, s.F [q] = some n ∧ n.data = d
section
variable {w0 w w' : World} {S : Two} {N : Int} {L : Nat}
theorem InvJ.keep (hL : ∀ i, S.all i → i < L) (h0 : w0.heap.size ≤ L) (h : InvJ w0 S N L w) (hk : Kp (fun i => L ≤ i) w w') : InvJ w0 S N L w' :=
 ⟨h.1.kp hk (fun i hi g => by have := hL i hi; omega), h.2.1.trans (hk.below (fun i g => Nat.le_trans h0 g) h.2.1.size), Nat.le_trans h.2.2 hk.size⟩
theorem InvJ.asked (h : InvJ w0 S N L w) (b : Bool) (hm : MemT w' w0.heap.size (S.M b) (S.s b)) (hk : Kp (MTf (S.M b) (S.s b).F) w w') : InvJ w0 S N L w' ∧ Kp S.foot w w' := by
 obtain ⟨h1, h2⟩ := h.1.asked b hm hk
 exact ⟨⟨h1, h.2.1.trans (h2.below (fun i hi => h.1.lo hi) h.2.1.size), Nat.le_trans h.2.2 h2.size⟩, h2⟩
theorem FlatL.files {s : TSt} {xs : List InfS} {B : Nat} {M : MB} {b : Int} (hM : MemT w B M s) (hS : FlatS b s) (h : FlatL s xs) : xs.length ≤ 4 ∧ (∀ x ∈ xs, x.dir = false ∧ ∃ n, s.F [x.path] = some n ∧ x.time = n.time) ∧ (∀ k n, s.F [k] = some n → ∃ x ∈ xs, x.path = k) ∧ (xs.map InfS.path).Nodup ∧ ∀ (j : Nat) (x y : InfS), xs[j]? = some x → xs[j + 1]? = some y → ltN x.path y.path = true := by
 obtain ⟨l, hl, he⟩ := h
 have hlen : xs.length = l.length := by simpa using congrArg List.length he
 have hfile : ∀ m ∈ l, s.F [m.name] = some m ∧ m.dir = false := fun m hm => by
  obtain ⟨k, hk⟩ := (hl.mem m).1 hm
  have hf := hS.file hk
  rw [hf.name]
  exact ⟨hk, hf.dir⟩
 have hat : ∀ (j : Nat) (x : InfS), xs[j]? = some x → ∃ m : Nd, l[j]? = some m ∧ x.path = m.name ∧ x.dir = false ∧ x.time = m.time := fun j x hx => by
  have h1 := congrArg (fun q => q[j]?) he
  simp only [List.getElem?_map, hx, Option.map_some] at h1
  cases hlj : l[j]? with
  | none => rw [hlj] at h1; simp at h1
  | some m =>
   rw [hlj] at h1
   simp at h1
   exact ⟨m, rfl, h1.1, h1.2.1, h1.2.2⟩
 have hup : ∀ (j k : Nat) (x y : InfS), j < k → xs[j]? = some x → xs[k]? = some y → ltN x.path y.path = true := fun j k x y hjk hx hy => by
  obtain ⟨m, hm, e1, _⟩ := hat j x hx
  obtain ⟨m', hm', e2, _⟩ := hat k y hy
  rw [e1, e2]
  obtain ⟨q1, q2⟩ := List.getElem?_eq_some_iff.1 hm
  obtain ⟨q3, q4⟩ := List.getElem?_eq_some_iff.1 hm'
  have := (List.pairwise_iff_getElem.1 hl.up) j k q1 q3 hjk
  rw [q2, q4] at this
  exact this
 refine ⟨by rw [hlen]; exact hl.le hM.tree hS.most, fun x hx => ?_, fun k n hn => ?_, ?_, fun j x y hx hy => hup j (j + 1) x y (Nat.lt_succ_self j) hx hy⟩
 ·obtain ⟨j, hj⟩ := List.getElem?_of_mem hx
  obtain ⟨m, hm, e1, e2, e3⟩ := hat j x hj
  exact ⟨e2, m, by rw [e1]; exact (hfile m (List.mem_of_getElem? hm)).1, e3⟩
 ·have hml := (hl.mem n).2 ⟨k, hn⟩
  obtain ⟨j, hj⟩ := List.getElem?_of_mem hml
  have hjx : j < xs.length := by rw [hlen]; exact (List.getElem?_eq_some_iff.1 hj).1
  obtain ⟨m, hm, e1, _⟩ := hat j xs[j] (List.getElem?_eq_getElem hjx)
  rw [hj] at hm
  injection hm with hm
  exact ⟨xs[j], List.getElem_mem hjx, by rw [e1, ← hm]; exact (hS.file hn).name⟩
 ·rw [List.nodup_iff_pairwise_ne, List.pairwise_map, List.pairwise_iff_getElem]
  intro i j hi hj hij e
  have := hup i j xs[i] xs[j] hij (List.getElem?_eq_getElem hi) (List.getElem?_eq_getElem hj)
  rw [e, ltN_irrefl] at this
  cases this
set_option maxRecDepth 100000 in
/-- A member as All and Whole use it. -/
theorem memStV {T : Tabs} (hG : Gr w0 T) (hw : InvJ w0 S N w.heap.size w) (h0 : w0.heap.size ≤ w.heap.size) (b : Bool) :
  StV w.heap.size (InvJ w0 S N w.heap.size) S.foot 28 (ptr (S.M b).b) 161 160 (ptr (S.M b).b) (FlatL (S.s b)) (RelF (S.s b)) where
 keep := fun W W' h hk => h.keep (fun i hi => hw.1.lt hi) h0 hk
 low := fun W h => h.2.2
 gl := fun i hi => hw.1.lt (Two.foot_all hi)
 ml := fun W n hn => memM_list W n _ hn
 mg := fun W n hn => memM_get W n _ hn
 mna := fun W n hn => memA_get W n _ hn
 el := enters_of Tryz.func161 (by kernel_rfl) rfl
 eg := enters_of Tryz.func160 (by kernel_rfl) rfl
 list := fun W h => by
  refine (listF_any w0 W T (S.M b) (S.s b) N hG h.2.1 (h.1.mem b) (h.1.flat b)).mono ?_
  rintro e w' ⟨xs, a, cap, h1, h2, h3, h4, h5, h6⟩
  obtain ⟨h7, h8⟩ := h.asked b h5 h6
  exact ⟨xs, a, cap, h1, h2, h3, h4, h7, h8⟩
 get := fun W q xs h hP hq => by
  obtain ⟨_, h2, _⟩ := hP.files (h.1.mem b) (h.1.flat b)
  obtain ⟨x, hx, rfl⟩ := hq
  obtain ⟨_, n, hn, _⟩ := h2 x hx
  have hf := (h.1.flat b).file hn
  have ho := nm4_ok hf.mem
  have hd := hf.data
  refine (getT_any w0 W (S.M b) (S.s b) x.path n 0 n.data.size (by omega) (Nat.zero_le _) (Nat.le_trans hd (by decide)) hG.env h.2.1 (h.1.mem b) ho.size (by rw [(h.1.flat b).feat, nm4_keys hf.mem]; exact hn) hf.dir (fun V hb => isFileT_ok wideF x.path V (hG.env.below hb (Nat.le_refl _)) ho)).mono ?_
  rintro e w' ⟨h4, h5, h6, _⟩
  obtain ⟨h7, h8⟩ := h.asked b h5 h6
  rw [Nat.zero_add, ByteArray.extract_zero_size] at h4
  exact ⟨n.data, h4, ⟨n, hn, rfl⟩, by omega, h7, h8⟩
 flat := fun xs hP => by
  obtain ⟨h1, h2, _⟩ := hP.files (hw.1.mem b) (hw.1.flat b)
  refine ⟨by omega, fun x hx => ?_⟩
  obtain ⟨h3, n, hn, _⟩ := h2 x hx
  have := nm4_size ((hw.1.flat b).file hn).mem
  exact ⟨h3, by omega⟩
end
end Go.Proofs.YtchfhojighopkaaGreatDoor
