/-
  Parts of the proof: Ul2.
-/
import Derived.Test.YtchfhojighopkaaGreatDoorGuBC
namespace Go.Proofs.YtchfhojighopkaaGreatDoor
open Go.RowKit

section
variable {w0 w w' : World} {S : Two} {N : Int} {u : UB} {T : Tabs}
/-- What a member lists. -/
theorem listedJ_any (hG : Gr w0 T) (h : InvU w0 S N u w) (b : Bool) :
  Calls Tryz.prog 240 #[memI S b, .string ⟨#[]⟩] w fun e w' => ∃ (xs : List InfS) (a : Option Addr) (cap : Nat), e = .returned (.tuple #[.slice a xs.length cap, .int .i64 0]) ∧ RowG 37 7 w' w.heap.size a cap (xs.map InfS.row) ∧ FlatL (S.s b) xs ∧ InvU w0 S N u w' ∧ Kp S.foot w w' := by
 have HL := Lib.hid (listedV_any (memStV hG h.inv h.base b) w h.inv)
 unfold ListedV at HL
 have HI := Lib.hid h
 unfold memI
 generalize (S.M b).b = mb at *
 clear hG h
 go_enter Tryz.func240, Tryz.ntmps240
 go_wp2_with (go_at_call 59; refine HL.out.mono ?_; rintro e w2 ⟨xs, a, cap, rfl, h1, h2, h3, h4, h5⟩)
 go_ret2
 exact ⟨xs, a, cap, rfl, h1, h3, HI.out.asked h4 h5, h5⟩
/-- What the union lists. -/
def UniL (S : Two) (ys : List InfS) : Prop := ys.length ≤ 4 ∧ (∀ y ∈ ys, y.dir = false ∧ y.path ∈ nm4 ∧ ∃ b n, (S.s b).F [y.path] = some n) ∧ ∀ b k n, (S.s b).F [k] = some n → ∃ y ∈ ys, y.path = k
def ListedU (w0 : World) (S : Two) (N : Int) (u : UB) (w : World) (e : Ending) (w' : World) : Prop :=
 ∃ (ys : List InfS) (a : Option Addr) (cap : Nat), e = .returned (.tuple #[.slice a ys.length cap, .int .i64 0]) ∧ RowG 37 7 w' w.heap.size a cap (ys.map InfS.row) ∧ (ys = [] → a = none ∧ cap = 0) ∧ UniL S ys ∧ InvU w0 S N u w' ∧ Kp S.foot w w'
theorem zeroSeen (w : World) : (zeroValue 308).run Tryz.prog w = .ok (.pointer none) w := by kernel_rfl
theorem infoStrU : (Tryz.prog.info? 9).map (fun i => (i.zero, i.size, i.bytes)) = some (some (.string ByteArray.empty), 1, 16) := by kernel_rfl
abbrev strRow (x : ByteArray) : List Value := [.string x]
/-- Names of a member that are among some. -/
def Has (S : Two) (os : List ByteArray) (i : Nat) : Prop := ∀ j, j < i → ∀ k n, (S.s (bOf j)).F [k] = some n → k ∈ os
set_option maxHeartbeats 16000000 in
set_option maxRecDepth 100000 in
theorem listed_any (hG : Gr w0 T) (h : InvU w0 S N u w) :
  Calls Tryz.prog 230 #[ptr u.b, .string ⟨#[]⟩] w (ListedU w0 S N u w) := by
 have HLi := Lib.hid (fun W b (hI : InvU w0 S N u W) => listedJ_any hG hI b)
 have HC := Lib.hid (fun W (hI : InvU w0 S N u W) => (hI.u.box.cell (j := 9) rfl : W.cell? ⟨u.b, 9, none⟩ = some (.slice (some ⟨u.lg, 0, none⟩) 2 u.lc)))
 have HM := Lib.hid (fun W i (hi : i < 2) (hI : InvU w0 S N u W) => hI.u.mem hi)
 have HI := Lib.hid h
 have HFi := Lib.hid (fun W b (hI : InvU w0 S N u W) xs (hP : FlatL (S.s b) xs) => hP.files (hI.j.mem b) (hI.j.flat b))
 have HFl := Lib.hid (fun b => h.j.flat b)
 have HAd := Lib.hid (fun W r b ns xs na nc ia ic (q1 : SeenB W r b ns xs na nc ia ic) q2 q3 q4 i q5 x q6 => add_any q1 q2 q3 q4 i q5 x q6)
 unfold AddP at HAd
 obtain ⟨sv, hsv, hs0, hs1, hs2⟩ := info_parts infoStrU
 have HSv := Lib.hid (And.intro hsv (And.intro hs0 (And.intro hs1 hs2)))
 obtain ⟨iv, hiv, hz0, hz1, hz2⟩ := info_parts infoInfoS
 have HIv := Lib.hid (And.intro hiv (And.intro hz0 (And.intro hz1 hz2)))
 have HMn := Lib.hid (MapF.new w)
 have hb1 : Below w.heap.size w (w.alloc (.map #[] 0)) := bAlloc (Below.refl _ _) _
 have HB1 := Lib.hid hb1
 have HI1 := Lib.hid (h.fresh hb1)
 obtain ⟨r, hr⟩ : ∃ r, w.heap.size = r := ⟨_, rfl⟩
 have HR := Lib.hid hr
 have hfo : ∀ j, S.foot j → j < r := fun j hj => by rw [← hr]; exact h.lt (.inl (Two.foot_all hj))
 have HFo := Lib.hid hfo
 rw [hr] at HMn
 have hc := HC.out _ HI1.out
 have hmm := @run_makeMap Tryz.prog
 clear hG h hb1 hr hfo hsv hs0 hs1 hs2 hiv hz0 hz1 hz2
 go_enter Tryz.func230, Tryz.ntmps230
 go_upto_region 4 with fail
 rw [HR.out]
 generalize w.alloc _ = w1 at *
 go_upto_region 5 with fail
 clear hc hmm
 go_loopg [6, 8, 26] 2 (fun gk s6 s8 s26 wx => ∃ (i n : Nat) (os : List ByteArray) (g : ByteArray → Option SeenD) (oa : Option Addr) (oc : Nat), s6 = .slice oa n oc ∧ s8 = .bool (decide (0 < i)) ∧ s26 = .int .i64 i ∧ i + gk = 2 ∧ Hid (os.length = n) ∧ Hid (AllS wx r r S (4 * i) (fun _ => False) os g) ∧ Hid (RowG 9 1 wx r oa oc (os.map strRow)) ∧ Hid (Has S os i) ∧ Hid (InvU w0 S N u wx) ∧ Hid (Kp S.foot w wx))
 case atStart => exact ⟨0, 0, [], fun _ => none, none, 0, rfl, rfl, rfl, rfl, Lib.hid rfl, Lib.hid (AllS.new HMn.out), Lib.hid (RowG.nil _ _ _ _), Lib.hid (fun j hj => by omega), HI1, Lib.hid (Kp.of HB1.out)⟩
 case round =>
  clear HI1 HB1 HMn
  obtain ⟨i, n, os, g, oa, oc, rfl, rfl, rfl, hig, HN, HA, HO, HH, HIx, HK⟩ := hrel
  by_cases hlt : i < 2
  case pos =>
   have hltz : (i : Int) < (2 : Int) := by omega
   obtain ⟨gg, rfl⟩ : ∃ gg, gk = gg + 1 := ⟨gk - 1, by omega⟩
   have hm := HM.out _ i hlt HIx.out
   have HLx := Lib.hid (HLi.out wr (bOf i) HIx.out)
   obtain ⟨mv, hmv⟩ : ∃ mv, memI S (bOf i) = mv := ⟨_, rfl⟩
   rw [hmv] at hm HLx
   clear hmv
   go_upto_region 15 with (go_at_call 240; refine HLx.out.mono ?_; rintro e w2 ⟨xs, xa, xc, rfl, hr2, hp2, hi2, hk2⟩)
   have hfo : ∀ j, S.foot j → j < r := HFo.out
   have hwr : r ≤ wr.heap.size := by rw [← HR.out]; exact HK.out.size
   have HA2 := Lib.hid (HA.out.kp hk2 (fun j hj hf => by have := hfo j hf; have := (HA.out.blk (Nat.le_refl _) hj).1; omega))
   have HO2 := Lib.hid (HO.out.kp hk2 (fun j hj hf => by have := hfo j hf; have := (HO.out.base j hj).1; omega))
   have HX2 := Lib.hid hr2
   have HI2 := Lib.hid hi2
   have HP2 := Lib.hid (HFi.out _ (bOf i) hi2 xs hp2)
   have HK2 : Hid (Kp S.foot w w2) := Lib.hid (HK.out.trans hk2)
   have HWr := Lib.hid (And.intro hwr hk2.size)
   obtain ⟨z, hz⟩ : ∃ z, xs.length = z := ⟨_, rfl⟩
   have HZ := Lib.hid hz
   have hz4 : z ≤ 4 := by rw [← hz]; exact HP2.out.1
   rw [hz]
   clear hr2 hp2 hi2 hk2 hm HLx hz hfo hwr
   have ht8 : decide (0 < i + 1) = true := by simp
   go_upto_region 16 with fail
   go_loopg [6, 47] z (fun gj s6 s47 wx => ∃ (j n : Nat) (os : List ByteArray) (g : ByteArray → Option SeenD) (oa : Option Addr) (oc : Nat), s6 = .slice oa n oc ∧ s47 = .int .i64 j ∧ j + gj = z ∧ Hid (os.length = n) ∧ Hid (AllS wx r r S (4 * i + j) (fun _ => False) os g) ∧ Hid (RowG 9 1 wx r oa oc (os.map strRow)) ∧ Hid (Has S os i ∧ ∀ x ∈ xs.take j, x.path ∈ os) ∧ Hid (RowG 37 7 wx wr.heap.size xa xc (xs.map InfS.row) ∧ ∀ k d, g k = some d → ∀ j, d.own j → ¬ rb xa j) ∧ Hid (InvU w0 S N u wx) ∧ Hid (Kp S.foot w wx))
   case atStart => exact ⟨0, n, os, g, oa, oc, rfl, rfl, by omega, HN, HA2, HO2, Lib.hid ⟨HH.out, fun x hx => by simp at hx⟩, Lib.hid ⟨HX2.out, fun k d hd q hq hr => by
    have h1 := ((HA.out.blk (Nat.le_refl _) (.inr ⟨k, d, hd, hq⟩))).2
    have h2 := (HX2.out.base q hr).1
    omega⟩, HI2, HK2⟩
   case round =>
    clear HA2 HO2 HX2 HI2 HK2 HN HA HO HH HIx HK ht8
    obtain ⟨j, n, os, g, oa, oc, rfl, rfl, hjg, HN, HA, HO, HH, HX, HIx, HK⟩ := hrel
    by_cases hjl : j < z
    case neg =>
     have hjz : ¬ (j : Int) < (z : Int) := by omega
     have ht8 : decide (0 < i + 1) = true := by simp
     go_wp2_with fail
     go_roundg gg
     case measure => omega
     case rel =>
      refine ⟨i + 1, n, os, g, oa, oc, rfl, by rw [ht8], by go_num, by omega, HN, Lib.hid (HA.out.mono (by omega)), HO, Lib.hid (fun q hq k m hm => ?_), HIx, HK⟩
      by_cases hqi : q < i
      ·exact HH.out.1 q hqi k m hm
      ·have : q = i := by omega
       subst this
       obtain ⟨x, hx, rfl⟩ := HP2.out.2.2.1 k m hm
       exact HH.out.2 x (by rw [show j = xs.length by rw [HZ.out]; omega, List.take_length]; exact hx)
    case pos =>
     have hjz : (j : Int) < (z : Int) := by omega
     obtain ⟨gg2, rfl⟩ : ∃ gg2, gk = gg2 + 1 := ⟨gk - 1, by omega⟩
     obtain ⟨x, hx⟩ : ∃ x, xs[j]? = some x := ⟨_, List.getElem?_eq_getElem (by rw [HZ.out]; exact hjl)⟩
     obtain ⟨hxd, nd, hnd, hqq⟩ := HP2.out.2.1 x (List.mem_of_getElem? hx)
     clear hqq
     have hkn : x.path ∈ nm4 := ((HFl.out (bOf i)).file hnd).mem
     have HTk : Hid (xs.take (j + 1) = xs.take j ++ [x]) := Lib.hid (take_snoc hx)
     have hrx : (xs.map InfS.row)[j]? = some x.row := by rw [List.getElem?_map, hx]; rfl
     obtain ⟨xg, hxg⟩ := HX.out.1.some_of (by rw [List.length_map, HZ.out]; omega)
     subst hxg
     have c0 : wr.cell? ⟨xg, j * 7, none⟩ = some (.string x.path) := HX.out.1.cell_at (by decide) hrx (j := 0) rfl
     have c1 : wr.cell? ⟨xg, j * 7 + 1, none⟩ = some (.bool x.dir) := HX.out.1.cell_at (by decide) hrx (j := 1) rfl
     have c2 : wr.cell? ⟨xg, j * 7 + 2, none⟩ = some (.int .i64 x.size) := HX.out.1.cell_at (by decide) hrx (j := 2) rfl
     have c3 : wr.cell? ⟨xg, j * 7 + 3, none⟩ = some (.int .i64 x.time) := HX.out.1.cell_at (by decide) hrx (j := 3) rfl
     have c4 : wr.cell? ⟨xg, j * 7 + 4, none⟩ = some (.slice x.sa x.sn x.sc) := HX.out.1.cell_at (by decide) hrx (j := 4) rfl
     have c5 : wr.cell? ⟨xg, j * 7 + 5, none⟩ = some (.slice none 0 0) := HX.out.1.cell_at (by decide) hrx (j := 5) rfl
     have c6 : wr.cell? ⟨xg, j * 7 + 6, none⟩ = some (.string x.id) := HX.out.1.cell_at (by decide) hrx (j := 6) rfl
     have HXk : Hid (∃ b n, (S.s b).F [x.path] = some n) := Lib.hid ⟨bOf i, nd, hnd⟩
     clear hx hnd hrx
     obtain ⟨A, dd, zz, tt, sa, sn, sc, ix⟩ := x
     dsimp only at c0 c1 c2 c3 c4 c6 hxd hkn HXk
     subst hxd
     go_upto_region 18 with fail
     have hb5 : Below wr.heap.size wr (wr.alloc (.cells #[.string A, .bool false, .int .i64 zz, .int .i64 tt, .slice sa sn sc, .slice none 0 0, .string ix] 37)) := bAlloc (Below.refl _ _) _
     have hx5 : BoxIs (wr.alloc (.cells #[.string A, .bool false, .int .i64 zz, .int .i64 tt, .slice sa sn sc, .slice none 0 0, .string ix] 37)) wr.heap.size #[.string A, .bool false, .int .i64 zz, .int .i64 tt, .slice sa sn sc, .slice none 0 0, .string ix] 37 := heap_alloc_new _ _
     obtain ⟨nx, hnx⟩ : ∃ nx, wr.heap.size = nx := ⟨_, rfl⟩
     have HA5 := Lib.hid (HA.out.under hb5)
     have HO5 := Lib.hid (HO.out.kp (Kp.of (F := fun _ => False) hb5) (fun _ _ e => e))
     have HX5 := Lib.hid (HX.out.1.kp (Kp.of (F := fun _ => False) hb5) (fun _ _ e => e))
     have HI5 := Lib.hid (HIx.out.fresh hb5)
     have HK5 : Hid (Kp S.foot w _) := Lib.hid (HK.out.trans (Kp.of hb5))
     have HXo := HX.out.2
     have HXo := Lib.hid HXo
     have hxl : ∀ q, rb (some ⟨xg, 0, none⟩) q → q < wr.heap.size := fun q hq => (HX.out.1.base q hq).2
     have hor : ∀ q, rb oa q → q < wr.heap.size := fun q hq => (HO.out.base q hq).2
     have hal : ∀ q, AllB' r g q → q < wr.heap.size := fun q hq => (HA.out.blk (Nat.le_refl _) hq).2
     have hrw : r ≤ wr.heap.size := by rw [← HR.out]; exact HK.out.size
     rw [hnx] at hx5 hxl hor hal hrw ⊢
     have HLt := Lib.hid (And.intro hxl (And.intro hor (And.intro hal hrw)))
     have d0 := hx5.cell (j := 0) rfl
     have HBx5 := Lib.hid hx5
     have HSz5 : Hid (_ = nx + 1) := Lib.hid (show (wr.alloc (.cells #[.string A, .bool false, .int .i64 zz, .int .i64 tt, .slice sa sn sc, .slice none 0 0, .string ix] 37)).heap.size = nx + 1 by simp [hnx])
     clear hb5 hx5 c0 c1 c2 c3 c4 c5 c6 hnx hxl hor hal hrw HA HO HIx HK HX
     generalize wr.alloc _ = w5 at *
     have u14 : w5.cell? ⟨u.b, 14, none⟩ = some (.bool true) := HI5.out.u.box.cell (j := 14) rfl
     have HLa := Lib.hid (lastName_any A w5 hkn)
     have hAs : A.size ≤ maxLen := by have := nm4_size hkn; unfold maxLen; omega
     have lk := HA5.out.map.look (P := Tryz.prog) Tryz.underlying9 hAs Tryz.underlying307 (zeroSeen w5)
     cases hg : g A with
     | some d =>
      rw [hg] at lk
      have HG := Lib.hid hg
      obtain ⟨hd1, hd2, hd3⟩ := HA5.out.at' A d hg
      obtain ⟨_, hdl, hdx⟩ := HA5.out.xs A d hg
      have HAx := Lib.hid (HAd.out w5 r d.b d.ns d.xs d.na d.nc d.ia d.ic hd1 (fun y hy => (hdx y hy).1) (by omega) (by rw [HSz5.out]; have := HLt.out.2.2.2; omega) i (by omega) ⟨A, false, zz, tt, sa, sn, sc, ix⟩ rfl)
      have HD1 := Lib.hid hd1
      have d1 := HBx5.out.cell (j := 1) rfl
      have d2 := HBx5.out.cell (j := 2) rfl
      have d3 := HBx5.out.cell (j := 3) rfl
      have d4 := HBx5.out.cell (j := 4) rfl
      have d5 := HBx5.out.cell (j := 5) rfl
      have d6 := HBx5.out.cell (j := 6) rfl
      clear hg hd1 hd2 hd3 hdl hdx
      have lk2 : (Instr.lookup 307 (.map (some r)) (.string A) false).run Tryz.prog w5 = .ok (ptr d.b) w5 := lk
      clear lk
      obtain ⟨db, hdb⟩ : ∃ db, d.b = db := ⟨_, rfl⟩
      have HDb := Lib.hid hdb
      rw [hdb] at lk2 HAx
      clear hdb
      go_upto_region 24 with (go_at_call 241; refine HLa.out.mono ?_; rintro e w6 ⟨rfl, hw6⟩; have hw7 := hw6.symm; clear hw6; subst hw7)
      clear HLa u14 d0
      have d0 := HBx5.out.cell (j := 0) rfl
      go_wp2_with (go_at_call 242; refine HAx.out.mono ?_; rintro e w6 ⟨rfl, na4, nc4, ia4, ic4, hs4, hk4, ho4⟩; have H6 := Lib.hid (And.intro hs4 (And.intro hk4 ho4)); clear hs4 hk4 ho4)
      go_roundg gg2
      case measure => omega
      case rel =>
       rw [← HDb.out] at H6
       have hk6 : Kp d.own w5 w6 := H6.out.2.1
       have hA6 := HA5.out.add HG.out H6.out.1 hk6 H6.out.2.2 (m := i) (x := ⟨A, false, zz, tt, sa, sn, sc, ix⟩) ⟨rfl, rfl, HXk.out⟩ (fun _ e => e.elim)
       have hob : ∀ q, AllB' r g q → ¬ rb oa q := HA5.out.str HO5.out (by decide) (by decide) (by decide)
       refine ⟨j + 1, n, os, _, oa, oc, rfl, by go_num, by omega, HN, Lib.hid hA6, Lib.hid (HO5.out.kp hk6 (fun q hq hd => hob q (.inr ⟨A, d, HG.out, hd⟩) hq)), Lib.hid ⟨HH.out.1, fun y hy => ?_⟩, Lib.hid ⟨HX5.out.kp hk6 (fun q hq hd => HXo.out A d HG.out q hd hq), fun k e he q hq hr => ?_⟩, Lib.hid (HI.out.over HI5.out hk6 (fun q hd => by rw [HR.out]; exact SeenD.ge HD1.out ((HA5.out.at' A d HG.out).2.1) hd)), Lib.hid (HK5.out.extK hk6 (fun q hd => .inr (by rw [HR.out]; exact SeenD.ge HD1.out ((HA5.out.at' A d HG.out).2.1) hd)))⟩
       ·rw [HTk.out] at hy
        rcases List.mem_append.1 hy with h | h
        ·exact HH.out.2 y h
        ·rw [List.mem_singleton.1 h]
         exact (HA5.out.dom A).2 ⟨d, HG.out⟩
       ·by_cases hkA : k = A
        ·rw [if_pos hkA] at he
         injection he with he
         subst he
         have hq2 : d.own q ∨ w5.heap.size ≤ q := by
          rcases hq with h | h
          ·exact .inl (.inl h)
          ·rcases H6.out.2.2 q h with h | h | h
           ·exact .inl (.inr (.inl h))
           ·exact .inl (.inr (.inr h))
           ·exact .inr h
         rcases hq2 with h | h
         ·exact HXo.out A d HG.out q h hr
         ·have := HLt.out.1 q hr
          have := HSz5.out
          omega
        ·rw [if_neg hkA] at he
         exact HXo.out k e he q hq hr
     | none =>
      rw [hg] at lk
      have HG := Lib.hid hg
      have lk1 : (Instr.lookup 307 (.map (some r)) (.string A) false).run Tryz.prog w5 = .ok (.pointer none) w5 := lk
      have hkos : A ∉ os := fun z => by
       obtain ⟨d, q⟩ := (HA5.out.dom A).1 z
       rw [HG.out] at q
       cases q
      obtain ⟨nb, hnb⟩ : ∃ nb, w5.heap.size = nb := ⟨_, rfl⟩
      have hb6 : Below w5.heap.size w5 (w5.alloc (.cells seen0 296)) := bAlloc (Below.refl _ _) _
      have hx6 : BoxIs (w5.alloc (.cells seen0 296)) w5.heap.size seen0 296 := heap_alloc_new _ _
      have hm6 := HA5.out.map.kp (Kp.of (F := fun _ => False) hb6) (fun e => e)
      obtain ⟨w7, hw7, hm7, hk7⟩ := hm6.store (P := Tryz.prog) Tryz.underlying9 hAs Tryz.underlying307 (ptr nb)
      have hsz6 : (w5.alloc (.cells seen0 296)).heap.size = nb + 1 := by simp [hnb]
      have hsz7 : nb + 1 ≤ w7.heap.size := by rw [← hsz6]; exact hk7.size
      rw [hnb] at hx6
      have hrn : r < nx := HLt.out.2.2.1 r (.inl rfl)
      have hnn : nb = nx + 1 := by rw [← hnb]; exact HSz5.out
      have hx7 : BoxIs w7 nb seen0 296 := hx6.kp hk7 (by omega)
      have hk57 : Kp (fun j => j = r) w5 w7 := (Kp.of hb6).trans hk7
      have hmap : MapF w7 r (fun q => ((fun q => if q = A then some (⟨nb, [], [], none, 0, none, 0⟩ : SeenD) else g q) q).map fun d => ptr d.b) := by
       have e : upd (fun k => (g k).map fun d => ptr d.b) A (some (ptr nb)) = fun q => ((fun q => if q = A then some (⟨nb, [], [], none, 0, none, 0⟩ : SeenD) else g q) q).map fun d => ptr d.b := by
        funext q
        unfold upd
        dsimp only
        by_cases hq : q = A
        ·rw [if_pos hq, if_pos hq]; rfl
        ·rw [if_neg hq, if_neg hq]
       rw [← e]
       exact hm7
      have HA7 := Lib.hid (HA5.out.fresh hkos hkn hmap hx7 (Nat.le_of_eq hnb) (by omega) (by omega) hk57)
      have HO7 := Lib.hid (HO5.out.kp hk57 (fun q hq e => by rw [e] at hq; exact HO5.out.ne_map HA5.out.map hq))
      have HX7 := Lib.hid (HX5.out.kp hk57 (fun q hq e => by rw [e] at hq; exact HX5.out.ne_map HA5.out.map hq))
      have HN7 := Lib.hid (HBx5.out.kp hk57 (fun e => by omega))
      have HI7 := Lib.hid (HI.out.over HI5.out hk57 (fun q e => by rw [e, HR.out]; exact Nat.le_refl _))
      have HK7 : Hid (Kp S.foot w w7) := Lib.hid (HK5.out.extK hk57 (fun q e => .inr (by rw [e, HR.out]; exact Nat.le_refl _)))
      have HNn := Lib.hid (And.intro hnn (And.intro hrn hsz7))
      have HAs := Lib.hid hAs
      have hn4 : n ≤ 4 := by rw [← HN.out]; exact HA5.out.le
      have hr7 : r ≤ w7.heap.size := by omega
      clear lk hg hkos hb6 hx6 hm6 hm7 hk7 hx7 hk57 hmap hsz6 hsz7 hrn hnn hAs
      have lk2 := lk1
      clear lk1
      go_upto_region 23 with (go_at_call 241; refine HLa.out.mono ?_; rintro e w6 ⟨rfl, hw6⟩; have hw77 := hw6.symm; clear hw6; subst hw77)
      clear lk2 hw7 HLa u14 d0 hnb HI5 HK5 HBx5
      go_upto_region 24 with (at_builtin; refine wpList_appG (w := w7) HO7.out Tryz.underlying42 HSv.out.1 HSv.out.2.1 HSv.out.2.2.1 HSv.out.2.2.2 rfl (by decide) (by decide) [.string A] rfl (by simp [Value.oneCell']) (by rw [List.length_map, HN.out]; omega) hr7 rfl (.tmp 69) (.tmp 71) rfl (by show Value.slice _ _ _ = Value.slice _ _ _; rw [List.length_map, HN.out]) rfl (fun g8 cap8 w8 r1 r2 r3 => ?_); rw [List.length_map, HN.out]; have HO8 := Lib.hid r1; have HK8 := Lib.hid r2; clear r1 r2 r3)
      have HA8 := Lib.hid (HA7.out.kp HK8.out (HA7.out.str HO7.out (by decide) (by decide) (by decide)))
      have HX8 := Lib.hid (HX7.out.kp HK8.out (HX7.out.apart HO7.out (by decide)))
      have HN8 := Lib.hid (HN7.out.kp HK8.out (HO7.out.ne HN7.out (by decide)))
      have hog : ∀ q, rb oa q → r ≤ q := fun q hq => (HO7.out.base q hq).1
      have HI8 := Lib.hid (HI.out.over HI7.out HK8.out (fun q hq => by rw [HR.out]; exact hog q hq))
      have HKw8 : Hid (Kp S.foot w w8) := Lib.hid (HK7.out.extK HK8.out (fun q hq => .inr (by rw [HR.out]; exact hog q hq)))
      have hgA : (fun q => if q = A then some (⟨nb, [], [], none, 0, none, 0⟩ : SeenD) else g q) A = some ⟨nb, [], [], none, 0, none, 0⟩ := if_pos rfl
      have lk := HA8.out.map.look (P := Tryz.prog) Tryz.underlying9 HAs.out Tryz.underlying307 (zeroSeen w8)
      have lk8 : (Instr.lookup 307 (.map (some r)) (.string A) false).run Tryz.prog w8 = .ok (ptr nb) w8 := by
       rw [lk]
       rw [if_pos rfl]
       rfl
      obtain ⟨hd1, hd2, hd3⟩ := HA8.out.at' A _ hgA
      have hsz8 : nb + 1 ≤ w8.heap.size := Nat.le_trans HNn.out.2.2 HK8.out.size
      have HAx := Lib.hid (HAd.out w8 r nb [] [] none 0 none 0 hd1 (fun y hy => (List.not_mem_nil hy).elim) (by simp) (by have := HNn.out; omega) i (by omega) ⟨A, false, zz, tt, sa, sn, sc, ix⟩ rfl)
      have HSz8 := Lib.hid hsz8
      have d0 := HN8.out.cell (j := 0) rfl
      have d1 := HN8.out.cell (j := 1) rfl
      have d2 := HN8.out.cell (j := 2) rfl
      have d3 := HN8.out.cell (j := 3) rfl
      have d4 := HN8.out.cell (j := 4) rfl
      have d5 := HN8.out.cell (j := 5) rfl
      have d6 := HN8.out.cell (j := 6) rfl
      clear lk hd1 hd2 hd3 hgA hog hsz8 hr7
      go_wp2_with (go_at_call 242; refine HAx.out.mono ?_; rintro e w9 ⟨rfl, na4, nc4, ia4, ic4, hs4, hk4, ho4⟩; have H9 := Lib.hid (And.intro hs4 (And.intro hk4 ho4)); clear hs4 hk4 ho4)
      go_roundg gg2
      case measure => omega
      case rel =>
       have hk9 : Kp (SeenD.own ⟨nb, [], [], none, 0, none, 0⟩) w8 w9 := H9.out.2.1
       have hA9 := HA8.out.add (k := A) (d := ⟨nb, [], [], none, 0, none, 0⟩) (if_pos rfl) H9.out.1 hk9 H9.out.2.2 (m := i) (x := ⟨A, false, zz, tt, sa, sn, sc, ix⟩) ⟨rfl, rfl, HXk.out⟩ (fun q e => e)
       have hnil : ∀ j, (SeenD.own ⟨nb, [], [], none, 0, none, 0⟩ j) → j = nb := fun j hj => by
        rcases hj with hj | ⟨a, ha, _⟩ | ⟨a, ha, _⟩
        ·exact hj
        ·cases ha
        ·cases ha
       have hrnb : ∀ q, (SeenD.own ⟨nb, [], [], none, 0, none, 0⟩ q) → r ≤ q := fun q hq => by have := hnil q hq; have := HNn.out; omega
       have hob : ∀ q, AllB' r _ q → ¬ rb (some ⟨g8, 0, none⟩) q := HA8.out.str HO8.out (by decide) (by decide) (by decide)
       refine ⟨j + 1, n + 1, os ++ [A], _, some ⟨g8, 0, none⟩, cap8, rfl, by go_num, by omega, Lib.hid (by rw [List.length_append, HN.out]; rfl), Lib.hid hA9, Lib.hid ?_, Lib.hid ⟨fun q hq k m hm => List.mem_append.2 (.inl (HH.out.1 q hq k m hm)), fun y hy => ?_⟩, Lib.hid ⟨HX8.out.kp hk9 (fun q hq hd => by have := hnil q hd; have := HLt.out.1 q hq; have := HNn.out; omega), fun k e he q hq hr => ?_⟩, Lib.hid (HI.out.over HI8.out hk9 (fun q hd => by rw [HR.out]; exact hrnb q hd)), Lib.hid (HKw8.out.extK hk9 (fun q hd => .inr (by rw [HR.out]; exact hrnb q hd)))⟩
       ·rw [List.map_append]
        exact HO8.out.kp hk9 (fun q hq hd => hob q (.inr ⟨A, ⟨nb, [], [], none, 0, none, 0⟩, if_pos rfl, hd⟩) hq)
       ·rw [HTk.out] at hy
        rcases List.mem_append.1 hy with h | h
        ·exact List.mem_append.2 (.inl (HH.out.2 y h))
        ·rw [List.mem_singleton.1 h]
         exact List.mem_append.2 (.inr (List.mem_singleton.2 rfl))
       ·have hxq := HLt.out.1 q hr
        have hnz := HNn.out
        by_cases hkA : k = A
        ·rw [if_pos hkA] at he
         injection he with he
         subst he
         rcases hq with h | h
         ·have h : q = nb := h
          omega
         ·rcases H9.out.2.2 q h with h | h | h
          ·obtain ⟨a, ha, _⟩ := h; cases ha
          ·obtain ⟨a, ha, _⟩ := h; cases ha
          ·have := HSz8.out
           omega
        ·rw [if_neg hkA] at he
         rw [if_neg hkA] at he
         exact HXo.out k e he q hq hr
  case neg =>
   have hltz : ¬ (i : Int) < (2 : Int) := by omega
   have hi2 : i = 2 := by omega
   subst hi2
   have ht8 : decide (0 < 2) = true := by decide
   have hn4 : n ≤ 4 := by rw [← HN.out]; exact HA.out.le
   generalize hwF : wr = wF at *
   clear hwF
   obtain ⟨s3, hs3⟩ : ∃ s3, wF.heap.size = s3 := ⟨_, rfl⟩
   have HS3 := Lib.hid hs3
   have HOh := Lib.hid (HO.out.holds (by decide))
   have HWs : Hid (w.heap.size ≤ s3) := Lib.hid (by rw [← hs3]; exact HK.out.size)
   have HKey : Hid (∀ k ∈ os, k ∈ nm4 ∧ ∃ b n, (S.s b).F [k] = some n) := Lib.hid (fun k hk => by
    obtain ⟨d, hd⟩ := (HA.out.dom k).1 hk
    obtain ⟨h1, _, h3⟩ := HA.out.xs k d hd
    obtain ⟨x, hx⟩ := List.exists_mem_of_ne_nil _ (h1 (fun e => e))
    exact ⟨HA.out.nm k hk, (h3 x hx).2.2⟩)
   clear hs3 hltz hlt hig ht8
   go_upto_region 33 with fail
   go_loopg [17, 92] n (fun gk s17 s92 wx => ∃ (j : Nat) (ys : List InfS) (ya : Option Addr) (yc : Nat), s17 = .slice ya j yc ∧ s92 = .int .i64 j ∧ j + gk = n ∧ Hid (ys.length = j ∧ ys.map InfS.path = os.take j ∧ ∀ y ∈ ys, y.dir = false) ∧ Hid (RowG 37 7 wx s3 ya yc (ys.map InfS.row)) ∧ Hid (ys = [] → ya = none ∧ yc = 0) ∧ Hid (Below s3 wF wx))
   case atStart => exact ⟨0, [], none, 0, rfl, rfl, by omega, Lib.hid ⟨rfl, rfl, fun _ h => (List.not_mem_nil h).elim⟩, Lib.hid (RowG.nil _ _ _ _), Lib.hid (fun _ => ⟨rfl, rfl⟩), Lib.hid (by rw [← HS3.out]; exact Below.refl _ _)⟩
   case round =>
    obtain ⟨j, ys, ya, yc, rfl, rfl, hjg, HY, HYr, HYn, HBx⟩ := hrel
    by_cases hjl : j < n
    case neg =>
     have hjz : ¬ (j : Int) < (n : Int) := by omega
     go_wp2_with fail
     go_ret2
     have hj : os.take j = os := by rw [show j = os.length by rw [HN.out]; omega, List.take_length]
     have hpath : ys.map InfS.path = os := by rw [HY.out.2.1, hj]
     have hbe : Below wF.heap.size wF wr := by rw [HS3.out]; exact HBx.out
     refine ⟨ys, ya, yc, by rw [HY.out.1]; rfl, HYr.out.lower HWs.out, HYn.out, ⟨by rw [HY.out.1]; omega, fun y hy => ?_, fun b k m hm => ?_⟩, HIx.out.fresh hbe, HK.out.trans (Kp.of hbe)⟩
     ·have hyo : y.path ∈ os := by rw [← hpath]; exact List.mem_map.2 ⟨y, hy, rfl⟩
      exact ⟨HY.out.2.2 y hy, HKey.out _ hyo⟩
     ·have hko : k ∈ os := by
       cases b with
       | false => exact HH.out 0 (by decide) k m hm
       | true => exact HH.out 1 (by decide) k m hm
      rw [← hpath] at hko
      exact List.mem_map.1 hko
    case pos =>
     have hjz : (j : Int) < (n : Int) := by omega
     obtain ⟨g', rfl⟩ : ∃ g', gk = g' + 1 := ⟨gk - 1, by omega⟩
     obtain ⟨k, hk⟩ : ∃ k, os[j]? = some k := ⟨_, List.getElem?_eq_getElem (by rw [HN.out]; exact hjl)⟩
     have HTk : Hid (os.take (j + 1) = os.take j ++ [k]) := Lib.hid (take_snoc hk)
     have hkm := List.mem_of_getElem? hk
     obtain ⟨d, hd⟩ := (HA.out.dom k).1 hkm
     obtain ⟨og, off, hog, _, hoc⟩ := (HOh.out.keep HBx.out (Nat.le_of_eq HS3.out)).at (k := j) (row := strRow k) (by rw [List.getElem?_map, hk]; rfl)
     have n0 := hoc 0 _ rfl
     rw [show off + j * 1 + 0 = off + j by omega] at n0
     obtain ⟨hd1, _, _⟩ := HA.out.at' k d hd
     obtain ⟨hx1, hx2, hx3⟩ := HA.out.xs k d hd
     have hx0 := hx1 (fun e => e)
     have hks : k.size ≤ maxLen := by have := nm4_size (HKey.out k hkm).1; unfold maxLen; omega
     have HAll := Lib.hid (fun W (hW : Below s3 wF W) => HA.out.under (show Below wF.heap.size wF W by rw [HS3.out]; exact hW))
     have HLk : Hid (∀ W, Below s3 wF W → (Instr.lookup 307 (.map (some r)) (.string k) false).run Tryz.prog W = .ok (ptr d.b) W) := Lib.hid (fun W hW => by
      have := (HAll.out W hW).map.look (P := Tryz.prog) Tryz.underlying9 hks Tryz.underlying307 (zeroSeen W)
      rw [this, hd]
      rfl)
     obtain ⟨db, dns, dxs, dna, dnc, dia, dic⟩ := d
     dsimp only at hd1 hx0 hx2 hx3 HLk
     have hdl := hd1.sl.len
     obtain ⟨KK, hK2⟩ : ∃ KK, dxs.length = KK := ⟨_, rfl⟩
     have hK0 : 0 < KK := by rw [← hK2]; exact List.length_pos_iff.2 hx0
     obtain ⟨ig, hig⟩ := hd1.sl.rx.some_of (by rw [List.length_map, hK2]; exact hK0)
     subst hig
     have HSe : Hid (∀ W, Below s3 wF W → SeenB W r db dns dxs dna dnc (some ⟨ig, 0, none⟩) dic) := Lib.hid (fun W hW => by
      have hb : Below wF.heap.size wF W := by rw [HS3.out]; exact hW
      exact ⟨hd1.box.under hb, hd1.sl.under hb⟩)
     have HBe := Lib.hid (fun W (pol : Int) (hW : Below s3 wF W) => best_any (w := W) (xs := dxs) pol (.slice dna KK dnc) rfl (HSe.out W hW).sl.rx (by omega) (fun y hy => (hx3 y hy).1))
     rw [hK2] at HBe
     unfold BestP at HBe
     have HBxK : Hid (∀ W, Below s3 wF W → BoxIs W db #[.slice dna KK dnc, .slice (some ⟨ig, 0, none⟩) KK dic] 296) := Lib.hid (fun W hW => by
      have := (HSe.out W hW).box
      rw [hdl, hK2] at this
      exact this)
     have HUs : Hid (∀ W, Below s3 wF W → W.cell? ⟨u.b, 12, none⟩ = some (.int .i64 u.se)) := Lib.hid (fun W hW => (HIx.out.u.below (show Below wF.heap.size wF W by rw [HS3.out]; exact hW)).box.cell (j := 12) rfl)
     have HXs := Lib.hid (And.intro hK2 hx3)
     obtain ⟨se, hse⟩ : ∃ se, u.se = se := ⟨_, rfl⟩
     rw [hse] at HUs
     clear hk hkm hd hoc hd1 hx1 hx2 hx3 hx0 hdl hK2 hse hks
     subst hog
     go_upto_region 35 with fail
     clear n0
     have hS : Below s3 wF wr.drew := ⟨HBx.out.os, HBx.out.tape, HBx.out.output, HBx.out.size, HBx.out.block⟩
     have HYd : Hid (RowG 37 7 wr.drew s3 ya yc (ys.map InfS.row)) := HYr
     refine wp_region_seq (fun W => Below s3 wF W) [(0, true), (1, true), (2, true), (3, true), (4, true), (5, true), (6, true), (7, true), (8, true), (9, true), (10, true), (11, true), (12, true), (13, true), (14, true), (15, true), (16, true), (17, false), (18, true), (19, true), (20, false), (21, false), (22, true)] (by as_aux_lemma => kernel_rfl) (by as_aux_lemma => kernel_rfl) (by decide) (by as_aux_lemma => kernel_rfl) hS ?_
     intro OPS HO
     iterate 17
      refine seq_take (o := ⟨_, _, _, _, _, _⟩) (v := ?_) (by rw [HO.out]; rfl) (by rfl) ?_ ?_
      rotate_left 1
      ·first | ((intro W _; go_simp) <;> with_reducible rfl) | (intro W hW; have lk := HLk.out _ hW; have c0 := (HBxK.out _ hW).cell (j := 0) rfl; have c1 := (HBxK.out _ hW).cell (j := 1) rfl; have d1 := HUs.out _ hW; (go_simp <;> with_reducible rfl))
      try simp only [Act.put, List.setIfInBounds_toArray, List.set_cons_zero, List.set_cons_succ]
     refine seq_do (o := ⟨_, _, _, _, _, _⟩) (by rw [HO.out]; rfl) (by rfl) (fun K hK => ?_)
     go_wp2_with (go_at_call 229; refine (HBe.out _ _ hS).mono ?_; rintro e w5 ⟨⟨jj, rfl, hj⟩, hb5⟩; replace hS : Below s3 wF w5 := hS.trans (Below.mono hb5 (Nat.le_trans (Nat.le_of_eq HS3.out.symm) hS.size)); have HY5 := Lib.hid (HYd.out.kp (Kp.of (F := fun _ => False) hb5) (fun _ _ e => e)); clear hb5)
     have hjk : jj < KK := by omega
     have hjkz : (jj : Int) < (KK : Int) := by omega
     obtain ⟨x, hx⟩ : ∃ x, dxs[jj]? = some x := ⟨_, List.getElem?_eq_getElem (by rw [HXs.out.1]; exact hjk)⟩
     obtain ⟨hxd, hxp, _⟩ := HXs.out.2 x (List.mem_of_getElem? hx)
     have hrx : (dxs.map InfS.row)[jj]? = some x.row := by rw [List.getElem?_map, hx]; rfl
     have HPk := Lib.hid hxp
     have HT : Hid (∀ W, Below s3 wF W → W.cell? ⟨ig, jj * 7, none⟩ = some (.string x.path) ∧ W.cell? ⟨ig, jj * 7 + 1, none⟩ = some (.bool x.dir) ∧ W.cell? ⟨ig, jj * 7 + 2, none⟩ = some (.int .i64 x.size) ∧ W.cell? ⟨ig, jj * 7 + 3, none⟩ = some (.int .i64 x.time) ∧ W.cell? ⟨ig, jj * 7 + 4, none⟩ = some (.slice x.sa x.sn x.sc) ∧ W.cell? ⟨ig, jj * 7 + 5, none⟩ = some (.slice none 0 0) ∧ W.cell? ⟨ig, jj * 7 + 6, none⟩ = some (.string x.id)) := Lib.hid (fun W hW => by
      have h := (HSe.out W hW).sl.rx
      exact ⟨h.cell_at (by decide) hrx (j := 0) rfl, h.cell_at (by decide) hrx (j := 1) rfl, h.cell_at (by decide) hrx (j := 2) rfl, h.cell_at (by decide) hrx (j := 3) rfl, h.cell_at (by decide) hrx (j := 4) rfl, h.cell_at (by decide) hrx (j := 5) rfl, h.cell_at (by decide) hrx (j := 6) rfl⟩)
     clear hx hrx hxp hj HYd
     obtain ⟨A, dd, zz, tt, sa, sn, sc, ix⟩ := x
     dsimp only at hxd HT HPk
     subst hxd
     refine hK.out _ _ hS (fun _ => ?_)
     clear hK K
     try simp only [Act.put, List.setIfInBounds_toArray, List.set_cons_zero, List.set_cons_succ]
     refine seq_take (o := ⟨_, _, _, _, _, _⟩) (v := ?_) (by rw [HO.out]; rfl) (by rfl) ?_ ?_
     rotate_left 1
     ·first | ((intro W _; go_simp) <;> with_reducible rfl) | (intro W hW; have lk := HLk.out _ hW; have c0 := (HBxK.out _ hW).cell (j := 0) rfl; have c1 := (HBxK.out _ hW).cell (j := 1) rfl; have d1 := HUs.out _ hW; (go_simp <;> with_reducible rfl))
     try simp only [Act.put, List.setIfInBounds_toArray, List.set_cons_zero, List.set_cons_succ]
     refine seq_take (o := ⟨_, _, _, _, _, _⟩) (v := ?_) (by rw [HO.out]; rfl) (by rfl) ?_ ?_
     rotate_left 1
     ·(intro W hW; obtain ⟨q0, q1, q2, q3, q4, q5, q6⟩ := HT.out _ hW; (go_simp <;> with_reducible rfl))
     try simp only [Act.put, List.setIfInBounds_toArray, List.set_cons_zero, List.set_cons_succ]
     refine seq_do (o := ⟨_, _, _, _, _, _⟩) (by rw [HO.out]; rfl) (by rfl) (fun K hK => ?_)
     go_wp2_with fail
     have hb6 : Below w5.heap.size w5 (w5.alloc (.cells #[.string A, .bool false, .int .i64 zz, .int .i64 tt, .slice sa sn sc, .slice none 0 0, .string ix] 37)) := bAlloc (Below.refl _ _) _
     have HSz5 : Hid (s3 ≤ w5.heap.size) := Lib.hid (Nat.le_trans (Nat.le_of_eq HS3.out.symm) hS.size)
     have HS5 := Lib.hid hS
     replace hS : Below s3 wF (w5.alloc (.cells #[.string A, .bool false, .int .i64 zz, .int .i64 tt, .slice sa sn sc, .slice none 0 0, .string ix] 37)) := hS.trans (Below.mono hb6 (Nat.le_trans (Nat.le_of_eq HS3.out.symm) hS.size))
     refine hK.out _ _ hS (fun _ => ?_)
     clear hK K
     try simp only [Act.put, List.setIfInBounds_toArray, List.set_cons_zero, List.set_cons_succ]
     refine seq_do (o := ⟨_, _, _, _, _, _⟩) (by rw [HO.out]; rfl) (by rfl) (fun K hK => ?_)
     refine wp_appG (w := w5) HY5.out Tryz.underlying91 HIv.out.1 HIv.out.2.1 HIv.out.2.2.1 HIv.out.2.2.2 rfl (by decide) (by decide) [.string A, .bool false, .int .i64 zz, .int .i64 tt, .slice sa sn sc, .slice none 0 0, .string ix] rfl (infS_one ⟨A, false, zz, tt, sa, sn, sc, ix⟩) (by rw [List.length_map, HY.out.1]; omega) HSz5.out (.tmp 96) (.tmp 116) rfl (by show Value.slice _ _ _ = Value.slice _ _ _; rw [List.length_map, HY.out.1]) rfl (fun g7 cap7 w7 r1 r2 r3 => ?_)
     rw [List.length_map, HY.out.1]
     have HY7 := Lib.hid r1
     have HB7 : Hid (Below s3 wF w7) := Lib.hid (HS5.out.trans (r2.below (fun q hq => (HY5.out.base q hq).1) HSz5.out))
     replace hS := HB7.out
     refine hK.out _ _ hS (fun _ => ?_)
     clear hK K
     try simp only [Act.put, List.setIfInBounds_toArray, List.set_cons_zero, List.set_cons_succ]
     refine seq_take (o := ⟨_, _, _, _, _, _⟩) (v := ?_) (by rw [HO.out]; rfl) (by rfl) ?_ ?_
     rotate_left 1
     ·first | ((intro W _; go_simp) <;> with_reducible rfl) | (intro W hW; have lk := HLk.out _ hW; have c0 := (HBxK.out _ hW).cell (j := 0) rfl; have c1 := (HBxK.out _ hW).cell (j := 1) rfl; have d1 := HUs.out _ hW; (go_simp <;> with_reducible rfl))
     try simp only [Act.put, List.setIfInBounds_toArray, List.set_cons_zero, List.set_cons_succ]
     refine seq_done ?_
     go_wp2_with fail
     go_roundg g'
     case measure => omega
     case rel =>
      refine ⟨j + 1, ys ++ [⟨A, false, zz, tt, sa, sn, sc, ix⟩], some ⟨g7, 0, none⟩, cap7, rfl, by go_num, by omega, Lib.hid ⟨by rw [List.length_append, HY.out.1]; rfl, ?_, fun y hy => ?_⟩, Lib.hid (by rw [List.map_append]; exact HY7.out), Lib.hid (fun e => by simp at e), HB7⟩
      ·rw [List.map_append, HY.out.2.1, HTk.out]
       exact congrArg (fun q => os.take j ++ [q]) HPk.out
      ·rcases List.mem_append.1 hy with h | h
       ·exact HY.out.2.2 y h
       ·rw [List.mem_singleton.1 h]
end
end Go.Proofs.YtchfhojighopkaaGreatDoor
