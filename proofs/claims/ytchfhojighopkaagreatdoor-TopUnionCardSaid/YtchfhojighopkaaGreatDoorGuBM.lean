/-
  Parts of the proof: Uf5.
-/
import Derived.Test.YtchfhojighopkaaGreatDoorGuBC
namespace Go.Proofs.YtchfhojighopkaaGreatDoor
open Go.RowKit

section
variable {w0 w w' : World} {S : Two} {N : Int} {u : UB} {T : Tabs} {p : ByteArray}
theorem allJ_any (hG : Gr w0 T) (h : InvU w0 S N u w) (b : Bool) :
  Calls Tryz.prog 31 #[memI S b, .string ⟨#[]⟩] w fun e w' => ∃ (ys : List InfS) (a : Option Addr) (cap : Nat), e = .returned (.tuple #[.slice a ys.length cap, .int .i64 0]) ∧ ys.length < 20 ∧ (∀ y ∈ ys, y.dir = false) ∧ HoldsR w' a 7 (ys.map InfS.row) ∧ InvU w0 S N u w' ∧ Kp S.foot w w' := by
 have hV := memStV hG h.inv h.base b
 refine (allV_any hV w h.inv).mono ?_
 rintro e w' ⟨xs, ys, a, cap, rfl, h1, h2, _, h4, _, h6, h7⟩
 have hf := hV.flat xs h1
 exact ⟨ys, a, cap, rfl, by rw [h2.length_eq]; exact hf.1, fun y hy => (hf.2 y (h2.mem_iff.1 hy)).1, h4, h.asked h6 h7, h7⟩
/-- One of the numbers that are told. -/
def FewP (w0 : World) (S : Two) (N : Int) (u : UB) (ls : List Nat) (w : World) (e : Ending) (w' : World) : Prop :=
 (∃ i : Nat, e = .returned (.tuple #[.int .i64 i, .int .i64 0]) ∧ i ∈ ls) ∧ InvU w0 S N u w' ∧ Kp S.foot w w'
set_option maxHeartbeats 8000000 in
set_option maxRecDepth 100000 in
theorem fewest_any (hG : Gr w0 T) (h : InvU w0 S N u w) {a : Option Addr} {cap : Nat} {ls : List Nat} (hH : HoldsR w a 1 (ls.map fun (n : Nat) => [Value.int .i64 n])) (ha : ∀ ad, a = some ad → ¬ S.foot ad.block) (hl : ∀ i ∈ ls, i < 2) (hlen : ls.length ≤ 2) (h0 : ls ≠ []) :
  Calls Tryz.prog 247 #[ptr u.b, .slice a ls.length cap] w (FewP w0 S N u ls w) := by
 have HAl := Lib.hid (fun W i (hI : InvU w0 S N u W) => allJ_any hG hI (bOf i))
 have HC := Lib.hid (fun W (hI : InvU w0 S N u W) => (hI.u.box.cell (j := 9) rfl : W.cell? ⟨u.b, 9, none⟩ = some (.slice (some ⟨u.lg, 0, none⟩) 2 u.lc)))
 have HM := Lib.hid (fun W i (hi : i < 2) (hI : InvU w0 S N u W) => hI.u.mem hi)
 have HR := Lib.hid (fun W (hk : Kp S.foot w W) => hH.kp hk ha)
 have HI := Lib.hid h
 have HLs := Lib.hid (And.intro hl h0)
 obtain ⟨n, hn⟩ : ∃ n, ls.length = n := ⟨_, rfl⟩
 have HLn := Lib.hid hn
 rw [hn] at hlen ⊢
 clear hG h hH ha hl h0 hn
 go_enter Tryz.func247, Tryz.ntmps247
 go_upto_region 3 with fail
 go_loopg [6, 7, 17] n (fun gk s6 s7 s17 wx => ∃ (i b : Nat) (m : Int), s6 = .int .i64 b ∧ s7 = .int .i64 m ∧ s17 = .int .i64 i ∧ i + gk = n ∧ Hid (i = 0 ∧ m = -1 ∨ 0 < i ∧ b ∈ ls ∧ 0 ≤ m ∧ m ≤ 20) ∧ Hid (InvU w0 S N u wx) ∧ Hid (Kp S.foot w wx))
 case atStart => exact ⟨0, 0, -1, rfl, rfl, rfl, by omega, Lib.hid (.inl ⟨rfl, rfl⟩), HI, Lib.hid (Kp.refl _ _)⟩
 case round =>
  obtain ⟨i, b, m, rfl, rfl, rfl, hig, HB, HIx, HK⟩ := hrel
  by_cases hlt : i < n
  case neg =>
   have hltz : ¬ (i : Int) < (n : Int) := by omega
   go_wp2_with fail
   go_ret2
   have hn0 : 0 < n := by rw [← HLn.out]; exact List.length_pos_iff.2 HLs.out.2
   exact ⟨⟨b, rfl, HB.out.elim (fun q => by omega) (fun q => q.2.1)⟩, HIx.out, HK.out⟩
  case pos =>
   have hltz : (i : Int) < (n : Int) := by omega
   obtain ⟨g, rfl⟩ : ∃ g, gk = g + 1 := ⟨gk - 1, by omega⟩
   obtain ⟨t, ht⟩ : ∃ t, ls[i]? = some t := ⟨_, List.getElem?_eq_getElem (by rw [HLn.out]; exact hlt)⟩
   have htm := List.mem_of_getElem? ht
   have ht2 := HLs.out.1 t htm
   have HTm := Lib.hid htm
   obtain ⟨ag, off, hag, _, hac⟩ := (HR.out _ HK.out).at (k := i) (row := [.int .i64 t]) (by rw [List.getElem?_map, ht]; rfl)
   subst hag
   have n0 := hac 0 _ rfl
   rw [show off + i * 1 + 0 = off + i by omega] at n0
   have hc := HC.out _ HIx.out
   have hm := HM.out _ t ht2 HIx.out
   have HAx := Lib.hid (HAl.out wr t HIx.out)
   have ht2z : (t : Int) < 2 := by omega
   have hmi : -1 ≤ m ∧ m ≤ 20 := HB.out.elim (fun q => by omega) (fun q => by omega)
   have HMi := Lib.hid hmi
   clear ht htm hac hmi
   unfold memI at hm HAx
   go_upto_region 8 with (go_at_call 31; refine HAx.out.mono ?_; rintro e w2 ⟨ys, ya, yc, rfl, hy1, hy2, hy3, hy4, hy5⟩)
   have HY := Lib.hid (And.intro hy2 hy3)
   have HI2 := Lib.hid hy4
   have HK2 : Hid (Kp S.foot w w2) := Lib.hid (HK.out.trans hy5)
   obtain ⟨z, hz⟩ : ∃ z, ys.length = z := ⟨_, rfl⟩
   have HZ := Lib.hid hz
   rw [hz] at hy1 ⊢
   clear hy2 hy3 hy4 hy5 hz n0 hc hm HAx
   go_upto_region 10 with fail
   go_loopg [12, 37] z (fun gj s12 s37 wx => ∃ (j : Nat), s12 = .int .i64 j ∧ s37 = .int .i64 j ∧ j + gj = z ∧ Hid (Below w2.heap.size w2 wx))
   case atStart => exact ⟨0, rfl, rfl, by omega, Lib.hid (Below.refl _ _)⟩
   case round =>
    obtain ⟨j, rfl, rfl, hjg, HBx⟩ := hrel
    by_cases hjl : j < z
    case pos =>
     have hjz : (j : Int) < (z : Int) := by omega
     obtain ⟨gg, rfl⟩ : ∃ gg, gk = gg + 1 := ⟨gk - 1, by omega⟩
     obtain ⟨x, hx⟩ : ∃ x, ys[j]? = some x := ⟨_, List.getElem?_eq_getElem (by rw [HZ.out]; exact hjl)⟩
     have hxd := HY.out.1 x (List.mem_of_getElem? hx)
     obtain ⟨gb, off2, hga, hgb, hgc⟩ := (HY.out.2.under HBx.out).at (k := j) (row := x.row) (by rw [List.getElem?_map, hx]; rfl)
     subst hga
     have c0 : wr.cell? ⟨gb, off2 + j * 7, none⟩ = some (.string x.path) := hgc 0 _ rfl
     have c1 : wr.cell? ⟨gb, off2 + j * 7 + 1, none⟩ = some (.bool x.dir) := hgc 1 _ rfl
     have c2 : wr.cell? ⟨gb, off2 + j * 7 + 2, none⟩ = some (.int .i64 x.size) := hgc 2 _ rfl
     have c3 : wr.cell? ⟨gb, off2 + j * 7 + 3, none⟩ = some (.int .i64 x.time) := hgc 3 _ rfl
     have c4 : wr.cell? ⟨gb, off2 + j * 7 + 4, none⟩ = some (.slice x.sa x.sn x.sc) := hgc 4 _ rfl
     have c5 : wr.cell? ⟨gb, off2 + j * 7 + 5, none⟩ = some (.slice none 0 0) := hgc 5 _ rfl
     have c6 : wr.cell? ⟨gb, off2 + j * 7 + 6, none⟩ = some (.string x.id) := hgc 6 _ rfl
     clear hx hgb hgc
     obtain ⟨A, dd, zz, tt, sa, sn, sc, ix⟩ := x
     dsimp only at c0 c1 c2 c3 c4 c6 hxd
     subst hxd
     go_upto_region 12 with fail
     have hb5 : Below wr.heap.size wr (wr.alloc (.cells #[.string A, .bool false, .int .i64 zz, .int .i64 tt, .slice sa sn sc, .slice none 0 0, .string ix] 37)) := bAlloc (Below.refl _ _) _
     have hx5 : BoxIs (wr.alloc (.cells #[.string A, .bool false, .int .i64 zz, .int .i64 tt, .slice sa sn sc, .slice none 0 0, .string ix] 37)) wr.heap.size #[.string A, .bool false, .int .i64 zz, .int .i64 tt, .slice sa sn sc, .slice none 0 0, .string ix] 37 := heap_alloc_new _ _
     have d1 := hx5.cell (j := 1) rfl
     have HB5 : Hid (Below w2.heap.size w2 _) := Lib.hid (bTrans HBx.out hb5)
     generalize wr.heap.size = nx at *
     clear hb5 hx5 c0 c1 c2 c3 c4 c5 c6
     generalize wr.alloc _ = w5 at *
     go_wp2_with fail
     go_roundg gg
     case measure => omega
     case rel => exact ⟨j + 1, by go_num, by go_num, by omega, HB5⟩
    case neg =>
     have hjz : ¬ (j : Int) < (z : Int) := by omega
     have hj : j = z := by omega
     subst hj
     have HIr := Lib.hid (HI2.out.fresh HBx.out)
     have HKr : Hid (Kp S.foot w wr) := Lib.hid (HK2.out.trans (Kp.of HBx.out))
     clear hjg
     by_cases hm0 : m < 0
     ·have hm1 : m = -1 := by have := HMi.out; omega
      subst hm1
      go_wp2_with fail
      go_roundg g
      case measure => omega
      case rel => exact ⟨i + 1, t, (j : Int), rfl, rfl, by go_num, by omega, Lib.hid (.inr ⟨by omega, HTm.out, by omega, by omega⟩), HIr, HKr⟩
     ·by_cases hjm : (j : Int) < m
      ·go_wp2_with fail
       go_roundg g
       case measure => omega
       case rel => exact ⟨i + 1, t, (j : Int), rfl, rfl, by go_num, by omega, Lib.hid (.inr ⟨by omega, HTm.out, by omega, by omega⟩), HIr, HKr⟩
      ·go_wp2_with fail
       go_roundg g
       case measure => omega
       case rel => exact ⟨i + 1, b, m, rfl, rfl, by go_num, by omega, Lib.hid (.inr ⟨by omega, HB.out.elim (fun q => by omega) (fun q => q.2.1), by omega, by have := HMi.out; omega⟩), HIr, HKr⟩
/-- The member for a new path. -/
def PlaceP (w0 : World) (S : Two) (N : Int) (u : UB) (w : World) (e : Ending) (w' : World) : Prop :=
 (∃ (i : Nat) (z : Int), e = .returned (.tuple #[.int .i64 i, .int .i64 z]) ∧ (z = 15 ∨ z = 0 ∧ i < 2 ∧ u.isFix i = false)) ∧ InvU w0 S N u w' ∧ Kp S.foot w w'
theorem infoIntP : (Tryz.prog.info? 3).map (fun i => (i.zero, i.size, i.bytes)) = some (some (.int .i64 0), 1, 8) := by kernel_rfl
set_option maxHeartbeats 8000000 in
set_option maxRecDepth 100000 in
theorem place_any (hG : Gr w0 T) (h : InvU w0 S N u w) (hp : p ∈ nm4) :
  Calls Tryz.prog 244 #[ptr u.b, .string p] w (PlaceP w0 S N u w) := by
 have HFx := Lib.hid (fun W i (hI : InvU w0 S N u W) => fixed_any hI.u i)
 have HPa := Lib.hid (fun W => parentW_any p W hp)
 have HFe := Lib.hid (fun W (hI : InvU w0 S N u W) a cap (ls : List Nat) (q1 : HoldsR W a 1 (ls.map fun (n : Nat) => [Value.int .i64 n])) q2 q3 q4 q5 => fewest_any hG hI (cap := cap) q1 q2 q3 q4 q5)
 unfold FewP at HFe
 have HC := Lib.hid (fun W (hI : InvU w0 S N u W) => (hI.u.box.cell (j := 9) rfl : W.cell? ⟨u.b, 9, none⟩ = some (.slice (some ⟨u.lg, 0, none⟩) 2 u.lc)))
 have HD := Lib.hid (fun W (hI : InvU w0 S N u W) => (hI.u.box.cell (j := 10) rfl : W.cell? ⟨u.b, 10, none⟩ = some (.int .i64 u.cr)))
 obtain ⟨iv, hiv, hz0, hz1, hz2⟩ := info_parts infoIntP
 have HIv := Lib.hid (And.intro hiv (And.intro hz0 (And.intro hz1 hz2)))
 have HI := Lib.hid h
 have hc := HC.out _ h
 have HFo := Lib.hid (fun i (hf : S.foot i) => h.lt (.inl (Two.foot_all hf)))
 clear hG h hp hiv hz0 hz1 hz2
 generalize u.cr = cr at *
 go_enter Tryz.func244, Tryz.ntmps244
 go_upto_region 3 with fail
 clear hc
 go_loopg [6, 18] 2 (fun gk s6 s18 wx => ∃ (i : Nat) (ls : List Nat) (a : Option Addr) (cap : Nat), s6 = .slice a ls.length cap ∧ s18 = .int .i64 i ∧ i + gk = 2 ∧ ls.length ≤ i ∧ Hid (∀ t ∈ ls, t < 2 ∧ u.isFix t = false) ∧ Hid (RowG 3 1 wx w.heap.size a cap (ls.map fun (n : Nat) => [Value.int .i64 n])) ∧ Hid (Below w.heap.size w wx))
 case atStart => exact ⟨0, [], none, 0, rfl, rfl, rfl, Nat.le_refl _, Lib.hid (fun t ht => by cases ht), Lib.hid (RowG.nil _ _ _ _), Lib.hid (Below.refl _ _)⟩
 case round =>
  obtain ⟨i, ls, a, cap, rfl, rfl, hig, hls, HLs, HR, HB⟩ := hrel
  have HIx := Lib.hid (HI.out.fresh HB.out)
  obtain ⟨n, hn⟩ : ∃ n, ls.length = n := ⟨_, rfl⟩
  have HLn := Lib.hid hn
  rw [hn] at hls ⊢
  clear hn
  by_cases hlt : i < 2
  case pos =>
   have hltz : (i : Int) < (2 : Int) := by omega
   obtain ⟨g, rfl⟩ : ∃ g, gk = g + 1 := ⟨gk - 1, by omega⟩
   have HFr := Lib.hid (HFx.out wr i HIx.out)
   have hsz : w.heap.size ≤ wr.heap.size := HB.out.size
   cases hf : u.isFix i with
   | true =>
    rw [hf] at HFr
    clear hf
    go_wp2_with (go_at_call 227; refine HFr.out.mono ?_; rintro e w5 ⟨rfl, hw5⟩; have hw6 := hw5.symm; clear hw5; subst hw6)
    go_roundg g
    case measure => omega
    case rel => exact ⟨i + 1, ls, a, cap, by rw [HLn.out], by go_num, by omega, by rw [HLn.out]; omega, HLs, HR, HB⟩
   | false =>
    rw [hf] at HFr
    have HF := Lib.hid hf
    clear hf
    go_wp2_with (first
     | (go_at_call 227; refine HFr.out.mono ?_; rintro e w5 ⟨rfl, hw5⟩; have hw6 := hw5.symm; clear hw5; subst hw6)
     | (at_builtin; refine wpList_appG HR.out Tryz.underlying22 HIv.out.1 HIv.out.2.1 HIv.out.2.2.1 HIv.out.2.2.2 rfl (by decide) (by decide) [.int .i64 i] rfl (by simp [Value.oneCell']) (by rw [List.length_map, HLn.out]; omega) hsz rfl (.tmp 25) (.tmp 27) rfl (by show Value.slice _ _ _ = Value.slice _ _ _; rw [List.length_map, HLn.out]) rfl (fun g7 cap7 w7 r1 r2 r3 => ?_); rw [List.length_map, HLn.out]; have HR7 := Lib.hid r1; have HK7 := Lib.hid r2; clear r1 r2 r3))
    go_roundg g
    case measure => omega
    case rel =>
     refine ⟨i + 1, ls ++ [i], some ⟨g7, 0, none⟩, cap7, by rw [List.length_append, HLn.out]; rfl, by go_num, by omega, by rw [List.length_append, HLn.out]; simp; omega, Lib.hid (fun t ht => ?_), Lib.hid (by rw [List.map_append]; exact HR7.out), Lib.hid (HB.out.trans (HK7.out.below (fun j hj => (HR.out.base j hj).1) HB.out.size))⟩
     rcases List.mem_append.1 ht with q | q
     ·exact HLs.out t q
     ·rw [List.mem_singleton.1 q]
      exact ⟨hlt, HF.out⟩
  case neg =>
   have hltz : ¬ (i : Int) < (2 : Int) := by omega
   have hcr := HD.out _ HIx.out
   go_upto_region 9 with (go_at_call 245; refine (HPa.out _).mono ?_; rintro e w5 ⟨rfl, hw5⟩; have hw6 := hw5.symm; clear hw5; subst hw6)
   cases n with
   | zero =>
    go_wp2_with fail
    go_ret2
    exact ⟨⟨0, 15, rfl, .inl rfl⟩, HIx.out, Kp.of HB.out⟩
   | succ n =>
    have hnz : ((n : Int) + 1 == 0) = false := by simp; omega
    have hH := HR.out.holds (by decide)
    obtain ⟨t, ht⟩ : ∃ t, ls[0]? = some t := ⟨_, List.getElem?_eq_getElem (by rw [HLn.out]; omega)⟩
    have htm := HLs.out t (List.mem_of_getElem? ht)
    obtain ⟨ag, hag⟩ := HR.out.some_of (by rw [List.length_map, HLn.out]; omega)
    have n0 : wr.cell? ⟨ag, 0 * 1 + 0, none⟩ = some (.int .i64 t) := by
     have := HR.out
     rw [hag] at this
     exact this.cell_at (by decide) (show (ls.map fun (n : Nat) => [Value.int .i64 n])[0]? = some [.int .i64 t] by rw [List.getElem?_map, ht]; rfl) (j := 0) rfl
    rw [show 0 * 1 + 0 = 0 by omega] at n0
    subst hag
    have HFw := Lib.hid (HFe.out wr HIx.out _ cap ls hH (fun ad q hf => by
     have := HFo.out _ hf
     have := (HR.out.base ad.block ⟨ad, q, rfl⟩).1
     omega) (fun j hj => (HLs.out j hj).1) (by rw [HLn.out]; omega) (fun q => by have := HLn.out; rw [q] at this; cases this))
    rw [HLn.out] at HFw
    have HTm := Lib.hid htm
    clear hH ht htm
    by_cases h4 : cr = 4
    ·subst h4
     go_wp2_with (go_at_call 247; refine HFw.out.mono ?_; rintro e w5 ⟨⟨t2, rfl, ht2⟩, hi5, hk5⟩)
     go_ret2
     exact ⟨⟨t2, 0, rfl, .inr ⟨rfl, HLs.out t2 ht2⟩⟩, hi5, (Kp.of HB.out).trans hk5⟩
    ·have h4z : (cr == 4) = false := by simpa using h4
     by_cases h1 : cr = 1
     ·subst h1
      go_wp2_with fail
      go_ret2
      exact ⟨⟨t, 0, rfl, .inr ⟨rfl, HTm.out⟩⟩, HIx.out, Kp.of HB.out⟩
     ·have h1z : (cr == 1) = false := by simpa using h1
      go_wp2_with fail
      go_ret2
      exact ⟨⟨t, 0, rfl, .inr ⟨rfl, HTm.out⟩⟩, HIx.out, Kp.of HB.out⟩
/-- The member for a new path, its directory made. -/
def PrepP (w0 : World) (S : Two) (N : Int) (u : UB) (w : World) (e : Ending) (w' : World) : Prop :=
 (∃ (v : Value) (z : Int), e = .returned (.tuple #[v, .int .i64 z]) ∧ (z = 15 ∧ v = .nilIface ∨ z = 0 ∧ ∃ i, i < 2 ∧ v = memI S (bOf i) ∧ u.isFix i = false)) ∧ InvU w0 S N u w' ∧ Kp S.foot w w'
set_option maxHeartbeats 8000000 in
set_option maxRecDepth 100000 in
theorem prepared_any (hG : Gr w0 T) (h : InvU w0 S N u w) (hp : p ∈ nm4) :
  Calls Tryz.prog 236 #[ptr u.b, .string p] w (PrepP w0 S N u w) := by
 have HPl := Lib.hid (place_any hG h hp)
 unfold PlaceP at HPl
 have HPa := Lib.hid (fun W => parentW_any p W hp)
 clear hG h hp
 go_enter Tryz.func236, Tryz.ntmps236
 go_upto_region 2 with (go_at_call 244; refine HPl.out.mono ?_; rintro e w3 ⟨⟨i, z, rfl, hz⟩, hi3, hk3⟩)
 rcases hz with rfl | ⟨rfl, hi2, hf⟩
 ·go_wp2_with fail
  go_ret2
  exact ⟨⟨_, 15, rfl, .inl ⟨rfl, rfl⟩⟩, hi3, hk3⟩
 ·have HU3 := Lib.hid hi3.u
  have HI3 := Lib.hid (And.intro hi3 hk3)
  have HF := Lib.hid (And.intro hi2 hf)
  have hi2z : (i : Int) < 2 := by omega
  clear hi3 hk3 hf HPl
  have hS : Below w3.heap.size w3 w3.drew := ⟨rfl, rfl, rfl, Nat.le_refl _, fun _ _ => rfl⟩
  go_upto_region 4 with fail
  go_cut [8, 9] (fun s8 s9 wx => s8 = memI S (bOf i) ∧ s9 = .string ⟨#[]⟩ ∧ Hid (Below w3.heap.size w3 wx))
  case first =>
   refine wp_region_seq (fun W => Below w3.heap.size w3 W) [(0, true), (1, true), (2, true), (3, true), (4, true), (5, true), (6, true), (7, true), (8, false), (9, true), (10, true)] (by as_aux_lemma => kernel_rfl) (by as_aux_lemma => kernel_rfl) (by decide) (by as_aux_lemma => kernel_rfl) hS ?_
   intro OPS HO
   iterate 8
    refine seq_take (o := ⟨_, _, _, _, _, _⟩) (v := ?_) (by rw [HO.out]; rfl) (by rfl) ?_ ?_
    rotate_left 1
    ·first | ((intro W _; go_simp) <;> with_reducible rfl) | (intro W hW; have c0 := (HU3.out.below hW).box.cell (j := 9) rfl; have c1 := (HU3.out.below hW).mem hi2; (go_simp <;> with_reducible rfl))
    try simp only [Act.put, List.setIfInBounds_toArray, List.set_cons_zero, List.set_cons_succ]
   refine seq_do (o := ⟨_, _, _, _, _, _⟩) (by rw [HO.out]; rfl) (by rfl) (fun K hK => ?_)
   go_wp2_with (go_at_call 245; refine (HPa.out _).mono ?_; rintro e w5 ⟨rfl, hw5⟩; have hw6 := hw5.symm; clear hw5; subst hw6)
   refine hK.out _ _ hS (fun _ => ?_)
   clear hK K
   iterate 2
    try simp only [Act.put, List.setIfInBounds_toArray, List.set_cons_zero, List.set_cons_succ]
    refine seq_take (o := ⟨_, _, _, _, _, _⟩) (v := ?_) (by rw [HO.out]; rfl) (by rfl) ?_ ?_
    rotate_left 1
    ·first | ((intro W _; go_simp) <;> with_reducible rfl) | (intro W hW; have c0 := (HU3.out.below hW).box.cell (j := 9) rfl; have c1 := (HU3.out.below hW).mem hi2; (go_simp <;> with_reducible rfl))
   try simp only [Act.put, List.setIfInBounds_toArray, List.set_cons_zero, List.set_cons_succ]
   refine seq_done ?_
   go_wp2_with fail
   go_meet
   exact ⟨rfl, rfl, Lib.hid hS⟩
  case rest =>
   obtain ⟨rfl, rfl, HB⟩ := hcut
   go_wp2_with fail
   go_ret2
   exact ⟨⟨_, 0, rfl, .inr ⟨rfl, i, HF.out.1, rfl, HF.out.2⟩⟩, HI3.out.1.fresh HB.out, HI3.out.2.trans (Kp.of HB.out)⟩
end
end Go.Proofs.YtchfhojighopkaaGreatDoor
