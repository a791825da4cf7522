/-
  Parts of the proof: Uf2, Uf4, Ul1.
-/
import Derived.Test.YtchfhojighopkaaGreatDoorGuBA
import Derived.Test.YtchfhojighopkaaGreatDoorGuBB
namespace Go.Proofs.YtchfhojighopkaaGreatDoor
open Go.RowKit

theorem box_two (w : World) (a b : Array Value) (s t : TypeId) : BoxIs ((w.alloc (.cells a s)).alloc (.cells b t)) w.heap.size a s ∧ BoxIs ((w.alloc (.cells a s)).alloc (.cells b t)) (w.heap.size + 1) b t ∧ Below w.heap.size w ((w.alloc (.cells a s)).alloc (.cells b t)) := by
 have h1 : BoxIs (w.alloc (.cells a s)) w.heap.size a s := heap_alloc_new _ _
 have hb1 : Below (w.alloc (.cells a s)).heap.size (w.alloc (.cells a s)) ((w.alloc (.cells a s)).alloc (.cells b t)) := bAlloc (Below.refl _ _) _
 have hsz : (w.alloc (.cells a s)).heap.size = w.heap.size + 1 := by simp
 have h2 : BoxIs ((w.alloc (.cells a s)).alloc (.cells b t)) (w.alloc (.cells a s)).heap.size b t := heap_alloc_new _ _
 rw [hsz] at h2
 exact ⟨h1.under hb1, h2, bAlloc (bAlloc (Below.refl _ _) _) _⟩
/-- The members below k that hold a file of the name. -/
def hasN (S : Two) (p : ByteArray) (k : Nat) : List Nat := (List.range k).filter (fun i => ((S.s (bOf i)).F [p]).isSome)
theorem hasN_some {S : Two} {p : ByteArray} {k : Nat} {n : Nd} (h : (S.s (bOf k)).F [p] = some n) : hasN S p (k + 1) = hasN S p k ++ [k] := by
 unfold hasN
 rw [List.range_succ, List.filter_append]
 simp [h]
theorem hasN_none {S : Two} {p : ByteArray} {k : Nat} (h : (S.s (bOf k)).F [p] = none) : hasN S p (k + 1) = hasN S p k := by
 unfold hasN
 rw [List.range_succ, List.filter_append]
 simp [h]
theorem hasN_le (S : Two) (p : ByteArray) (k : Nat) : (hasN S p k).length ≤ k := by
 unfold hasN
 have := List.length_filter_le (fun i => ((S.s (bOf i)).F [p]).isSome) (List.range k)
 simpa using this
theorem hasN_at {S : Two} {p : ByteArray} {k i : Nat} (h : i ∈ hasN S p k) : i < k ∧ ∃ n, (S.s (bOf i)).F [p] = some n := by
 unfold hasN at h
 rw [List.mem_filter, List.mem_range] at h
 exact ⟨h.1, Option.isSome_iff_exists.1 h.2⟩
theorem hasN_nodup (S : Two) (p : ByteArray) (k : Nat) : (hasN S p k).Nodup := List.Nodup.sublist List.filter_sublist List.nodup_range
/-- What is seen of a name in the members below k. -/
def LookR (S : Two) (p : ByteArray) (k : Nat) (ns : List Nat) (xs : List InfS) : Prop := ns = hasN S p k ∧ ∀ x ∈ xs, x.dir = false
section
variable {w0 w w' : World} {S : Two} {N : Int} {u : UB} {T : Tabs} {p : ByteArray}
def LookP (w0 : World) (S : Two) (N : Int) (u : UB) (p : ByteArray) (w : World) (e : Ending) (w' : World) : Prop :=
 ∃ (ns : List Nat) (xs : List InfS) (na : Option Addr) (nc : Nat) (ia : Option Addr) (ic : Nat), e = .returned (.tuple #[.agg #[.slice na ns.length nc, .slice ia xs.length ic], .int .i64 0]) ∧ SeenR w' w.heap.size ns xs na nc ia ic ∧ LookR S p 2 ns xs ∧ InvU w0 S N u w' ∧ Kp S.foot w w'
abbrev seen0 : Array Value := #[.slice none 0 0, .slice none 0 0]
set_option maxHeartbeats 8000000 in
set_option maxRecDepth 100000 in
theorem look_any (hG : Gr w0 T) (h : InvU w0 S N u w) (hp : p ∈ nm4) :
  Calls Tryz.prog 233 #[ptr u.b, .string p] w (LookP w0 S N u p w) := by
 have HSt := Lib.hid (fun W i (hI : InvU w0 S N u W) => statJ_any hG hI (bOf i) hp)
 unfold StatJ at HSt
 have hMS := memM_stat
 have HC := Lib.hid (fun W (hI : InvU w0 S N u W) => (hI.u.box.cell (j := 9) rfl : W.cell? ⟨u.b, 9, none⟩ = some (.slice (some ⟨u.lg, 0, none⟩) 2 u.lc)))
 have HM := Lib.hid (fun W i (hi : i < 2) (hI : InvU w0 S N u W) => hI.u.mem hi)
 have HI := Lib.hid h
 have HAd := Lib.hid (fun W r b ns xs na nc ia ic (q1 : SeenB W r b ns xs na nc ia ic) q2 q3 q4 i q5 x q6 => add_any q1 q2 q3 q4 i q5 x q6)
 unfold AddP at HAd
 obtain ⟨rz, hrz⟩ : ∃ rz, w.heap.size = rz := ⟨_, rfl⟩
 have hbx := box_two w seen0 seen0 296 296
 obtain ⟨hx1, hx2, hb1⟩ := hbx
 have hi1 := h.fresh hb1
 rw [hrz] at hx1 hx2
 have HZ := Lib.hid hrz
 have HX1 := Lib.hid hx1
 have HX2 := Lib.hid hx2
 have HB1 := Lib.hid hb1
 have HI1 := Lib.hid hi1
 have HFo := Lib.hid (fun i (hf : S.foot i) => h.lt (.inl (Two.foot_all hf)))
 rw [hrz] at HFo
 have hc1 := HC.out _ hi1
 clear hG h hp hrz hx1 hx2 hb1 hi1
 go_enter Tryz.func233, Tryz.ntmps233
 go_upto_region 2 with fail
 rw [HZ.out]
 generalize (w.alloc _).alloc _ = w1 at *
 go_upto_region 3 with fail
 clear hc1
 go_loopg [16] 2 (fun gk s16 wx => ∃ (i : Nat) (ns : List Nat) (xs : List InfS) (na : Option Addr) (nc : Nat) (ia : Option Addr) (ic : Nat), s16 = .int .i64 i ∧ i + gk = 2 ∧ Hid (SeenB wx rz (rz + 1) ns xs na nc ia ic) ∧ Hid (LookR S p i ns xs) ∧ Hid (BoxIs wx rz seen0 296) ∧ Hid (InvU w0 S N u wx) ∧ Hid (Kp S.foot w wx))
 case atStart => exact ⟨0, [], [], none, 0, none, 0, rfl, rfl, Lib.hid ⟨HX2.out, SeenR.nil _ _⟩, Lib.hid ⟨rfl, fun x hx => by cases hx⟩, HX1, HI1, Lib.hid (Kp.of HB1.out)⟩
 case round =>
  clear HX1 HX2 HB1 HI1
  obtain ⟨i, ns, xs, na, nc, ia, ic, rfl, hig, HSe, HL, HX, HIx, HK⟩ := hrel
  have hnoz : ∀ j, j = rz + 1 ∨ rb na j ∨ rb ia j → ¬ j = rz ∧ rz ≤ j := fun j hj => by
   rcases hj with rfl | hj | hj
   ·omega
   ·exact ⟨fun e => by rw [e] at hj; exact HSe.out.sl.rn.ne HX.out (by decide) hj, (HSe.out.sl.rn.base j hj).1⟩
   ·exact ⟨fun e => by rw [e] at hj; exact HSe.out.sl.rx.ne HX.out (by decide) hj, (HSe.out.sl.rx.base j hj).1⟩
  have HNz := Lib.hid hnoz
  clear hnoz
  by_cases hlt : i < 2
  case neg =>
   have hltz : ¬ (i : Int) < (2 : Int) := by omega
   have s0 := HSe.out.box.cell (j := 0) rfl
   have s1 := HSe.out.box.cell (j := 1) rfl
   have x0 := HX.out.cell (j := 0) rfl
   have x1 := HX.out.cell (j := 1) rfl
   have f0 := Lib.frozen_of_heap HX.out 0
   have f1 := Lib.frozen_of_heap HX.out 1
   have hkz : Kp (fun j => j = rz) wr ((wr.setCell ⟨rz, 0, none⟩ (.slice na ns.length nc)).setCell ⟨rz, 1, none⟩ (.slice ia xs.length ic)) := ((Kp.refl (fun j => j = rz) wr).set (b := rz) (.inl rfl) 0 _).set (b := rz) (.inl rfl) 1 _
   have hi2 : i = 2 := by omega
   subst hi2
   have hend : LookP w0 S N u p w (.returned (.tuple #[.agg #[.slice na ns.length nc, .slice ia xs.length ic], .int .i64 0])) ((wr.setCell ⟨rz, 0, none⟩ (.slice na ns.length nc)).setCell ⟨rz, 1, none⟩ (.slice ia xs.length ic)) :=
    ⟨ns, xs, na, nc, ia, ic, rfl, by rw [HZ.out]; exact HSe.out.sl.kp hkz (fun j hj e => (HNz.out j (.inr hj)).1 e), HL.out, HI.out.over HIx.out hkz (fun j e => by rw [e, HZ.out]; exact Nat.le_refl _), HK.out.extK hkz (fun j e => .inr (by rw [e, HZ.out]; exact Nat.le_refl _))⟩
   clear hkz hltz hig hlt
   go_wp2_with fail
   try simp only [Exit.inBlock, Exit.then]
   refine bodyPost_ret (v := .tuple #[.agg #[.slice na ns.length nc, .slice ia xs.length ic], .int .i64 0]) ?_ rfl hend
   clear hend
   simp [results, Tryz.f233]
   go_simp
  case pos =>
   have hltz : (i : Int) < (2 : Int) := by omega
   obtain ⟨g, rfl⟩ : ∃ g, gk = g + 1 := ⟨gk - 1, by omega⟩
   have hm := HM.out _ i hlt HIx.out
   have HSx := HSt.out wr i HIx.out
   cases ho : (S.s (bOf i)).F [p] with
   | none =>
    rw [ho] at HSx
    have HSn : Hid (Calls Tryz.prog 295 #[ptr (S.M (bOf i)).b, .string p] wr fun e w' => e = .returned (.tuple #[.agg InfS.zero.arr, .int .i64 3]) ∧ InvU w0 S N u w' ∧ Kp S.foot wr w') := Lib.hid (HSx.mono (fun e w' ⟨q1, q2, q3⟩ => ⟨q1.elim (fun q => q.2) (fun ⟨n, x, q, _⟩ => by cases q), q2, q3⟩))
    have HO := Lib.hid ho
    clear HSx ho
    unfold memI at hm
    generalize (S.M (bOf i)).b = mb at *
    go_wp2_with (go_at_call 295; refine HSn.out.mono ?_; rintro e w2 ⟨rfl, hi2, hk2⟩; have H2 := Lib.hid (And.intro hi2 hk2); clear hi2 hk2)
    have hb3 : Below w2.heap.size w2 (w2.alloc (.cells InfS.zero.arr 37)) := bAlloc (Below.refl _ _) _
    go_roundg g
    case measure => omega
    case rel =>
     have hfo : ∀ j, S.foot j → j < rz := HFo.out
     refine ⟨i + 1, ns, xs, na, nc, ia, ic, by go_num, by omega, Lib.hid ⟨(HSe.out.box.kp H2.out.2 (fun q => by have := hfo _ q; omega)).under hb3, (HSe.out.sl.kp H2.out.2 (fun j hj q => by have := hfo _ q; have := (HNz.out j (.inr hj)).2; omega)).under hb3⟩, Lib.hid ⟨by rw [hasN_none HO.out]; exact HL.out.1, HL.out.2⟩, Lib.hid ((HX.out.kp H2.out.2 (fun q => by have := hfo _ q; omega)).under hb3), Lib.hid (H2.out.1.fresh hb3), Lib.hid (HK.out.trans (H2.out.2.trans (Kp.of hb3)))⟩
   | some nd =>
    rw [ho] at HSx
    have HSn : Hid (Calls Tryz.prog 295 #[ptr (S.M (bOf i)).b, .string p] wr fun e w' => ∃ x : InfS, e = .returned (.tuple #[.agg x.arr, .int .i64 0]) ∧ x.dir = false ∧ InvU w0 S N u w' ∧ Kp S.foot wr w') := Lib.hid (HSx.mono (fun e w' ⟨q1, q2, q3⟩ => q1.elim (fun q => by cases q.1) (fun ⟨n, x, q, q4, q5, q6, q7⟩ => ⟨x, q4, q6, q2, q3⟩)))
    have HO := Lib.hid ho
    clear HSx ho
    unfold memI at hm
    generalize (S.M (bOf i)).b = mb at *
    go_upto_region 9 with (go_at_call 295; refine HSn.out.mono ?_; rintro e w2 ⟨x, rfl, hxd, hi2, hk2⟩; have H2 := Lib.hid (And.intro hi2 hk2); clear hi2 hk2; obtain ⟨A, dd, z, t, sa, sn, sc, ix⟩ := x; dsimp only at hxd; subst hxd)
    have hb3 : Below w2.heap.size w2 (w2.alloc (.cells #[.string A, .bool false, .int .i64 z, .int .i64 t, .slice sa sn sc, .slice none 0 0, .string ix] 37)) := bAlloc (Below.refl _ _) _
    have hx3 : BoxIs (w2.alloc (.cells #[.string A, .bool false, .int .i64 z, .int .i64 t, .slice sa sn sc, .slice none 0 0, .string ix] 37)) w2.heap.size #[.string A, .bool false, .int .i64 z, .int .i64 t, .slice sa sn sc, .slice none 0 0, .string ix] 37 := heap_alloc_new _ _
    have hfo : ∀ j, S.foot j → j < rz := HFo.out
    have HS3 : Hid (SeenB _ rz (rz + 1) ns xs na nc ia ic) := Lib.hid ⟨(HSe.out.box.kp H2.out.2 (fun q => by have := hfo _ q; omega)).under hb3, (HSe.out.sl.kp H2.out.2 (fun j hj q => by have := hfo _ q; have := (HNz.out j (.inr hj)).2; omega)).under hb3⟩
    have HX3 := Lib.hid ((HX.out.kp H2.out.2 (fun q => by have := hfo _ q; omega)).under hb3)
    have HI3 := Lib.hid (H2.out.1.fresh hb3)
    have HK3 : Hid (Kp S.foot w _) := Lib.hid (HK.out.trans (H2.out.2.trans (Kp.of hb3)))
    have hlen : xs.length ≤ 2 := by rw [← HSe.out.sl.len, HL.out.1]; have := hasN_le S p i; omega
    have HAx := Lib.hid (HAd.out _ rz (rz + 1) ns xs na nc ia ic HS3.out HL.out.2 (by omega) (by rw [← HZ.out]; exact HK3.out.size) i (by omega) ⟨A, false, z, t, sa, sn, sc, ix⟩ rfl)
    have d0 := hx3.cell (j := 0) rfl
    have d1 := hx3.cell (j := 1) rfl
    have d2 := hx3.cell (j := 2) rfl
    have d3 := hx3.cell (j := 3) rfl
    have d4 := hx3.cell (j := 4) rfl
    have d5 := hx3.cell (j := 5) rfl
    have d6 := hx3.cell (j := 6) rfl
    generalize w2.heap.size = nx at *
    clear hb3 hx3 hfo
    generalize w2.alloc _ = w3 at *
    clear hlen
    go_wp2_with (go_at_call 242; refine HAx.out.mono ?_; rintro e w4 ⟨rfl, na4, nc4, ia4, ic4, hs4, hk4, ho4⟩; have H4 := Lib.hid (And.intro hs4 hk4); clear hs4 hk4 ho4)
    go_roundg g
    case measure => omega
    case rel =>
     refine ⟨i + 1, ns ++ [i], xs ++ [⟨A, false, z, t, sa, sn, sc, ix⟩], na4, nc4, ia4, ic4, by go_num, by omega, Lib.hid H4.out.1, Lib.hid ⟨by rw [hasN_some HO.out, HL.out.1], ?_⟩, Lib.hid (HX3.out.kp H4.out.2 (fun q => (HNz.out _ q).1 rfl)), Lib.hid (HI.out.over HI3.out H4.out.2 (fun j hj => by rw [HZ.out]; exact (HNz.out j hj).2)), Lib.hid (HK3.out.extK H4.out.2 (fun j hj => .inr (by rw [HZ.out]; exact (HNz.out j hj).2)))⟩
     intro y hy
     rcases List.mem_append.1 hy with h | h
     ·exact HL.out.2 y h
     ·rw [List.mem_singleton.1 h]
end
end Go.Proofs.YtchfhojighopkaaGreatDoor
namespace Go.Proofs.YtchfhojighopkaaGreatDoor
open Go.RowKit

section
variable {w0 w w' : World} {S : Two} {N : Int} {u : UB} {T : Tabs} {p : ByteArray}
def FileP (w0 : World) (S : Two) (N : Int) (u : UB) (p : ByteArray) (w : World) (e : Ending) (w' : World) : Prop :=
 ∃ (ns : List Nat) (xs : List InfS) (na : Option Addr) (nc : Nat) (ia : Option Addr) (ic : Nat) (z : Int), e = .returned (.tuple #[.agg #[.slice na ns.length nc, .slice ia xs.length ic], .int .i64 z]) ∧ (z = 0 ∧ ns ≠ [] ∨ z = 3 ∧ ns = []) ∧ SeenR w' w.heap.size ns xs na nc ia ic ∧ LookR S p 2 ns xs ∧ InvU w0 S N u w' ∧ Kp S.foot w w'
set_option maxHeartbeats 8000000 in
set_option maxRecDepth 100000 in
theorem file_any (hG : Gr w0 T) (h : InvU w0 S N u w) (hp : p ∈ nm4) :
  Calls Tryz.prog 228 #[ptr u.b, .string p] w (FileP w0 S N u p w) := by
 have hx1 : BoxIs (w.alloc (.cells seen0 296)) w.heap.size seen0 296 := heap_alloc_new _ _
 have hb1 : Below w.heap.size w (w.alloc (.cells seen0 296)) := bAlloc (Below.refl _ _) _
 have HF1 := Lib.hid (fun W (hb : Below w0.heap.size w0 W) => isFileW_any w0 W p hG.env hb hp)
 have HLk := Lib.hid (fun W (hI : InvU w0 S N u W) => look_any hG hI hp)
 unfold LookP at HLk
 have HNo := Lib.hid (fun (na : Option Addr) (n nc : Nat) (ia : Option Addr) (k ic : Nat) W => seenNone_any na n nc (.slice ia k ic) rfl W)
 have HDi := Lib.hid (fun W r ns xs na nc ia ic (q1 : SeenR W r ns xs na nc ia ic) q2 q3 => seenDir_any q1 q2 q3)
 obtain ⟨rz, hrz⟩ : ∃ rz, w.heap.size = rz := ⟨_, rfl⟩
 have HI := Lib.hid h
 have hi1 := h.fresh hb1
 have HFo := Lib.hid (fun i (hf : S.foot i) => h.lt (.inl (Two.foot_all hf)))
 rw [hrz] at hx1 HFo
 have HZ := Lib.hid hrz
 have HX1 := Lib.hid hx1
 have HB1 := Lib.hid hb1
 have HI1 := Lib.hid hi1
 clear hG h hp hrz hx1 hb1 hi1
 go_enter Tryz.func228, Tryz.ntmps228
 go_upto_region 1 with fail
 rw [HZ.out]
 generalize w.alloc _ = w1 at *
 go_upto_region 4 with (go_at_call 209; refine (HF1.out _ HI1.out.bel).mono ?_; rintro e w2 ⟨rfl, hb2⟩)
 have HI2 := Lib.hid (HI1.out.fresh hb2)
 have HX2 := Lib.hid (HX1.out.under hb2)
 have HB2 := Lib.hid (bTrans HB1.out hb2)
 have HL2 := Lib.hid (HLk.out w2 HI2.out)
 clear hb2 HI1 HX1 HB1 HF1 HLk
 go_upto_region 7 with (go_at_call 233; refine HL2.out.mono ?_; rintro e w3 ⟨ns, xs, na, nc, ia, ic, rfl, hs3, hl3, hi3, hk3⟩)
 have hfo : ∀ j, S.foot j → j < rz := HFo.out
 have HX3 := Lib.hid (HX2.out.kp hk3 (fun q => by have := hfo _ q; omega))
 have HI3 := Lib.hid hi3
 have HS3 := Lib.hid (And.intro hs3 hl3)
 have HK3 : Hid (Kp S.foot w w3) := Lib.hid ((Kp.of HB2.out).trans hk3)
 have hb4 : Below w3.heap.size w3 (w3.alloc (.cells #[.slice na ns.length nc, .slice ia xs.length ic] 296)) := bAlloc (Below.refl _ _) _
 have hx4 : BoxIs (w3.alloc (.cells #[.slice na ns.length nc, .slice ia xs.length ic] 296)) w3.heap.size #[.slice na ns.length nc, .slice ia xs.length ic] 296 := heap_alloc_new _ _
 have hlt4 : rz < w3.heap.size := HX3.out.lt
 have HB4 := Lib.hid hb4
 have HX4 := Lib.hid hx4
 have hne : w3.heap.size ≠ rz := by omega
 have hrz2 : rz ≤ w2.heap.size := by rw [← HZ.out]; exact HB2.out.size
 have HR2 := Lib.hid hrz2
 obtain ⟨ob, hob⟩ : ∃ ob, w3.heap.size = ob := ⟨_, rfl⟩
 rw [hob] at HX4 hne ⊢
 have HOb := Lib.hid hob
 clear hb4 hx4 hs3 hl3 hi3 hk3 hfo hlt4 hob HX2 HI2 HB2 HL2 hrz2
 generalize w3.alloc _ = w4 at *
 obtain ⟨k, hk⟩ : ∃ k, ns.length = k := ⟨_, rfl⟩
 have hkx : xs.length = k := by rw [← HS3.out.1.len]; exact hk
 have HKn := Lib.hid (And.intro hk hkx)
 rw [hk, hkx] at HX4
 have s0 := HX4.out.cell (j := 0) rfl
 have s1 := HX4.out.cell (j := 1) rfl
 have HN4 := Lib.hid (HNo.out na k nc ia k ic w4)
 have hend : ∀ (v : World) (z : Int), Below w4.heap.size w4 v → (z = 0 ∧ ns ≠ [] ∨ z = 3 ∧ ns = []) → FileP w0 S N u p w (.returned (.tuple #[.agg #[.slice na k nc, .slice ia k ic], .int .i64 z])) ((v.setCell ⟨rz, 0, none⟩ (.slice na k nc)).setCell ⟨rz, 1, none⟩ (.slice ia k ic)) := fun v z hb hz => by
  have hkz : Kp (fun j => j = rz) v ((v.setCell ⟨rz, 0, none⟩ (.slice na k nc)).setCell ⟨rz, 1, none⟩ (.slice ia k ic)) := ((Kp.refl (fun j => j = rz) v).set (b := rz) (.inl rfl) 0 _).set (b := rz) (.inl rfl) 1 _
  have hs : SeenR v rz ns xs na nc ia ic := by
   have := (HS3.out.1.under HB4.out).under hb
   exact ⟨this.rn.lower HR2.out, this.rx.lower HR2.out, this.len, this.zn, this.zx⟩
  have hxv := (HX3.out.under HB4.out).under hb
  have hiv := (HI3.out.fresh HB4.out).fresh hb
  refine ⟨ns, xs, na, nc, ia, ic, z, by rw [HKn.out.1, HKn.out.2], hz, ?_, HS3.out.2, HI.out.over hiv hkz (fun j e => by rw [e, HZ.out]; exact Nat.le_refl _), ((HK3.out.trans (Kp.of HB4.out)).trans (Kp.of hb)).extK hkz (fun j e => .inr (by rw [e, HZ.out]; exact Nat.le_refl _))⟩
  rw [HZ.out]
  exact hs.kp hkz (fun j hj e => by
   rw [e] at hj
   exact hj.elim (fun q => hs.rn.ne hxv (by decide) q) (fun q => hs.rx.ne hxv (by decide) q))
 have HEnd := Lib.hid hend
 have HXz : Hid (∀ v, Below w4.heap.size w4 v → BoxIs v rz seen0 296 ∧ BoxIs v ob #[.slice na k nc, .slice ia k ic] 296) := Lib.hid (fun v hb => ⟨(HX3.out.under HB4.out).under hb, HX4.out.under hb⟩)
 have HD4 := Lib.hid (fun W (hb : Below w4.heap.size w4 W) => HDi.out W w2.heap.size ns xs na nc ia ic ((HS3.out.1.under HB4.out).under hb) HS3.out.2.2 (by rw [← HS3.out.1.len, HS3.out.2.1]; have := hasN_le S p 2; omega))
 rw [HKn.out.1, HKn.out.2] at HD4
 clear hend HNo HDi hk hkx
 cases hz : (k == 0) with
 | true =>
  rw [hz] at HN4
  have hnil : ns = [] := List.length_eq_zero_iff.1 (by rw [HKn.out.1]; simpa using hz)
  have HNl := Lib.hid hnil
  clear hz hnil
  go_upto_region 8 with (go_at_call 235; refine HN4.out.mono ?_; rintro e w5 ⟨rfl, hb5⟩)
  obtain ⟨hz5, ho5⟩ := HXz.out _ hb5
  have x0 := hz5.cell (j := 0) rfl
  have x1 := hz5.cell (j := 1) rfl
  have f0 := Lib.frozen_of_heap hz5 0
  have f1 := Lib.frozen_of_heap hz5 1
  have o0 := ho5.cell (j := 0) rfl
  have o1 := ho5.cell (j := 1) rfl
  have hend := HEnd.out w5 3 hb5 (.inr ⟨rfl, HNl.out⟩)
  clear hz5 ho5 hb5 s0 s1
  go_wp2_with fail
  try simp only [Exit.inBlock, Exit.then]
  refine bodyPost_ret (v := .tuple #[.agg #[.slice na k nc, .slice ia k ic], .int .i64 3]) ?_ rfl hend
  clear hend
  simp [results, Tryz.f228]
  go_simp
 | false =>
  rw [hz] at HN4
  have hnil : ns ≠ [] := fun e => by rw [← HKn.out.1, e] at hz; cases hz
  have HNl := Lib.hid hnil
  clear hz hnil
  go_upto_region 9 with (go_at_call 235; refine HN4.out.mono ?_; rintro e w5 ⟨rfl, hb5⟩)
  obtain ⟨hz5, ho5⟩ := HXz.out _ hb5
  have p0 := ho5.cell (j := 0) rfl
  have p1 := ho5.cell (j := 1) rfl
  have HB5 := Lib.hid hb5
  have HD5 := Lib.hid (HD4.out w5 hb5)
  clear hz5 ho5 hb5 s0 s1
  go_upto_region 11 with (go_at_call 234; refine HD5.out.mono ?_; rintro e w6 ⟨rfl, hb6⟩)
  obtain ⟨hz6, ho6⟩ := HXz.out _ (bTrans HB5.out hb6)
  have x0 := hz6.cell (j := 0) rfl
  have x1 := hz6.cell (j := 1) rfl
  have f0 := Lib.frozen_of_heap hz6 0
  have f1 := Lib.frozen_of_heap hz6 1
  have o0 := ho6.cell (j := 0) rfl
  have o1 := ho6.cell (j := 1) rfl
  have hend := HEnd.out w6 0 (bTrans HB5.out hb6) (.inl ⟨rfl, HNl.out⟩)
  clear hz6 ho6 hb6 p0 p1
  go_wp2_with fail
  try simp only [Exit.inBlock, Exit.then]
  refine bodyPost_ret (v := .tuple #[.agg #[.slice na k nc, .slice ia k ic], .int .i64 0]) ?_ rfl hend
  clear hend
  simp [results, Tryz.f228]
  go_simp
/-- Get of a member. -/
theorem getJ_any (hG : Gr w0 T) (h : InvU w0 S N u w) (b : Bool) {n : Nd} (hn : (S.s b).F [p] = some n) :
  Calls Tryz.prog 160 #[ptr (S.M b).b, .string p, .int .i64 0, .int .i64 65536] w fun e w' => e = .returned (.tuple #[.string n.data, .int .i64 0]) ∧ InvU w0 S N u w' ∧ Kp S.foot w w' := by
 have hf := (h.j.flat b).file hn
 have ho := nm4_ok hf.mem
 have hd := hf.data
 refine (getT_any w0 w (S.M b) (S.s b) p n 0 n.data.size (by omega) (Nat.zero_le _) (Nat.le_trans hd (by decide)) hG.env h.bel (h.j.mem b) ho.size (by rw [(h.j.flat b).feat, nm4_keys hf.mem]; exact hn) hf.dir (fun V hb => isFileT_ok wideF p V (hG.env.below hb (Nat.le_refl _)) ho)).mono ?_
 rintro e w' ⟨h4, h5, h6, _⟩
 obtain ⟨h7, h8⟩ := h.inv.asked b h5 h6
 rw [Nat.zero_add, ByteArray.extract_zero_size] at h4
 exact ⟨h4, h.asked h7 h8, h8⟩
end
end Go.Proofs.YtchfhojighopkaaGreatDoor
namespace Go.Proofs.YtchfhojighopkaaGreatDoor
open Go.RowKit

/-- What members tell of a name: its blocks. -/
structure SeenD where
 b : Nat
 ns : List Nat
 xs : List InfS
 na : Option Addr
 nc : Nat
 ia : Option Addr
 ic : Nat
def SeenD.own (d : SeenD) (j : Nat) : Prop := j = d.b ∨ rb d.na j ∨ rb d.ia j
abbrev SeenD.is (d : SeenD) (w : World) (r : Nat) : Prop := SeenB w r d.b d.ns d.xs d.na d.nc d.ia d.ic
/-- The map and all that it leads to. -/
structure AllS (w : World) (r mb : Nat) (S : Two) (i : Nat) (Z : ByteArray → Prop) (os : List ByteArray) (g : ByteArray → Option SeenD) : Prop where
 map : MapF w mb (fun k => (g k).map fun d => ptr d.b)
 dom : ∀ k, k ∈ os ↔ ∃ d, g k = some d
 nd : os.Nodup
 nm : ∀ k ∈ os, k ∈ nm4
 at' : ∀ k d, g k = some d → d.is w r ∧ r ≤ d.b ∧ d.b ≠ mb
 xs : ∀ k d, g k = some d → (¬ Z k → d.xs ≠ []) ∧ d.xs.length ≤ i ∧ ∀ x ∈ d.xs, x.dir = false ∧ x.path = k ∧ ∃ b n, (S.s b).F [k] = some n
 dis : ∀ k k' d d', g k = some d → g k' = some d' → k ≠ k' → ∀ j, d.own j → ¬ d'.own j
section
variable {w w' : World} {r mb i : Nat} {S : Two} {os : List ByteArray} {g : ByteArray → Option SeenD} {Z : ByteArray → Prop}
theorem SeenD.lt {d : SeenD} (h : d.is w r) {j : Nat} (hj : d.own j) : j < w.heap.size := by
 rcases hj with rfl | hj | hj
 ·exact h.box.lt
 ·exact (h.sl.rn.base j hj).2
 ·exact (h.sl.rx.base j hj).2
theorem SeenD.ge {d : SeenD} (h : d.is w r) (hb : r ≤ d.b) {j : Nat} (hj : d.own j) : r ≤ j := by
 rcases hj with rfl | hj | hj
 ·exact hb
 ·exact (h.sl.rn.base j hj).1
 ·exact (h.sl.rx.base j hj).1
theorem SeenD.kp {d : SeenD} {F : Nat → Prop} (h : d.is w r) (hk : Kp F w w') (hF : ∀ j, d.own j → ¬ F j) : d.is w' r :=
 ⟨h.box.kp hk (hF _ (.inl rfl)), h.sl.kp hk (fun j hj => hF j (.inr hj))⟩
theorem SeenD.ne_map {d : SeenD} (h : d.is w r) {f : ByteArray → Option Value} (hm : MapF w mb f) : ¬ d.own mb := by
 obtain ⟨es, c, hb, _⟩ := hm
 rintro (rfl | hj | hj)
 ·have h1 : w.heap[d.b]? = some (.cells _ _ (0, 0)) := h.box
  rw [h1] at hb
  cases hb
 ·obtain ⟨a, ha, rfl⟩ := hj
  rcases h.sl.rn.2.2 with ⟨h1, _⟩ | ⟨g, c', cur, h1, _, h3, _⟩
  ·injection h1 with h1
   rw [ha] at h1
   cases h1
  ·injection h1 with h1
   rw [ha] at h1
   injection h1 with h1
   rw [h1, h3] at hb
   cases hb
 ·obtain ⟨a, ha, rfl⟩ := hj
  rcases h.sl.rx.2.2 with ⟨h1, _⟩ | ⟨g, c', cur, h1, _, h3, _⟩
  ·injection h1 with h1
   rw [ha] at h1
   cases h1
  ·injection h1 with h1
   rw [ha] at h1
   injection h1 with h1
   rw [h1, h3] at hb
   cases hb
/-- Its blocks. -/
def AllB' (mb : Nat) (g : ByteArray → Option SeenD) (j : Nat) : Prop := j = mb ∨ ∃ k d, g k = some d ∧ d.own j
theorem AllS.kp {F : Nat → Prop} (h : AllS w r mb S i Z os g) (hk : Kp F w w') (hF : ∀ j, AllB' mb g j → ¬ F j) : AllS w' r mb S i Z os g :=
 ⟨h.map.kp hk (hF mb (.inl rfl)), h.dom, h.nd, h.nm, fun k d hd => by
  obtain ⟨h1, h2, h3⟩ := h.at' k d hd
  exact ⟨SeenD.kp h1 hk (fun j hj => hF j (.inr ⟨k, d, hd, hj⟩)), h2, h3⟩, h.xs, h.dis⟩
theorem AllS.blk (h : AllS w r mb S i Z os g) (hmb : r ≤ mb) {j : Nat} (hj : AllB' mb g j) : r ≤ j ∧ j < w.heap.size := by
 rcases hj with rfl | ⟨k, d, hd, hj⟩
 ·exact ⟨hmb, h.map.lt⟩
 ·obtain ⟨h1, h2, _⟩ := h.at' k d hd
  exact ⟨SeenD.ge h1 h2 hj, SeenD.lt h1 hj⟩
theorem AllS.under (h : AllS w r mb S i Z os g) (hb : Below w.heap.size w w') : AllS w' r mb S i Z os g := h.kp (Kp.of (F := fun _ => False) hb) (fun _ _ e => e)
theorem RowG.ne_map {e : TypeId} {m B c : Nat} {ra : Option Addr} {xs : List (List Value)} {f : ByteArray → Option Value} (h : RowG e m w B ra c xs) (hm : MapF w mb f) : ¬ rb ra mb := by
 obtain ⟨es, cl, hb, _⟩ := hm
 rintro ⟨a, ha, rfl⟩
 rcases h.2.2 with ⟨h1, _⟩ | ⟨g, c', cur, h1, _, h3, _⟩
 ·injection h1 with h1
  rw [ha] at h1
  cases h1
 ·injection h1 with h1
  rw [ha] at h1
  injection h1 with h1
  rw [h1, h3] at hb
  cases hb
/-- Rows of another kind lie elsewhere. -/
theorem AllS.str {e : TypeId} {m B c : Nat} {ra : Option Addr} {ys : List (List Value)} (h : AllS w r mb S i Z os g) (hO : RowG e m w B ra c ys) (h1 : 296 ≠ e) (h2 : 3 ≠ e) (h3 : 37 ≠ e) : ∀ j, AllB' mb g j → ¬ rb ra j := by
 intro j hj hr
 rcases hj with rfl | ⟨k, d, hd, hj⟩
 ·exact hO.ne_map h.map hr
 ·obtain ⟨q, _, _⟩ := h.at' k d hd
  rcases hj with rfl | hj | hj
  ·exact hO.ne q.box h1 hr
  ·exact hO.apart q.sl.rn h2 j hr hj
  ·exact hO.apart q.sl.rx h3 j hr hj
theorem AllS.le (h : AllS w r mb S i Z os g) : os.length ≤ 4 := nodup_le os nm4 h.nd h.nm
theorem AllS.mono {i' : Nat} (h : AllS w r mb S i Z os g) (hi : i ≤ i') : AllS w r mb S i' Z os g :=
 ⟨h.map, h.dom, h.nd, h.nm, h.at', fun k d hd => ⟨(h.xs k d hd).1, Nat.le_trans (h.xs k d hd).2.1 hi, (h.xs k d hd).2.2⟩, h.dis⟩
/-- One more info to a name. -/
theorem AllS.add {k : ByteArray} {d : SeenD} {x : InfS} {m : Nat} {na' ia' : Option Addr} {nc' ic' : Nat} (h : AllS w r mb S i Z os g) (hd : g k = some d)
  (hs : SeenB w' r d.b (d.ns ++ [m]) (d.xs ++ [x]) na' nc' ia' ic') (hk : Kp d.own w w') (ho : ∀ j, rb na' j ∨ rb ia' j → rb d.na j ∨ rb d.ia j ∨ w.heap.size ≤ j) (hx : x.dir = false ∧ x.path = k ∧ ∃ b n, (S.s b).F [k] = some n) (hZ : ∀ q, Z q → q = k) :
  AllS w' r mb S (i + 1) (fun _ => False) os (fun q => if q = k then some ⟨d.b, d.ns ++ [m], d.xs ++ [x], na', nc', ia', ic'⟩ else g q) := by
 have hown : ∀ j, (SeenD.own ⟨d.b, d.ns ++ [m], d.xs ++ [x], na', nc', ia', ic'⟩ j) → d.own j ∨ w.heap.size ≤ j := fun j hj => by
  rcases hj with hj | hj
  ·exact .inl (.inl hj)
  ·rcases ho j hj with q | q | q
   ·exact .inl (.inr (.inl q))
   ·exact .inl (.inr (.inr q))
   ·exact .inr q
 have hmap : (fun q => ((fun q => if q = k then some (⟨d.b, d.ns ++ [m], d.xs ++ [x], na', nc', ia', ic'⟩ : SeenD) else g q) q).map fun d => ptr d.b) = fun q => (g q).map fun d => ptr d.b := by
  funext q
  dsimp only
  by_cases hq : q = k
  ·rw [if_pos hq, hq, hd]; rfl
  ·rw [if_neg hq]
 refine ⟨?_, fun q => ?_, h.nd, h.nm, fun q e hq => ?_, fun q e hq => ?_, fun q q' e e' hq hq' hne j hj hj' => ?_⟩
 ·rw [hmap]
  exact h.map.kp hk (SeenD.ne_map (h.at' k d hd).1 h.map)
 ·rw [h.dom]
  by_cases hq : q = k
  ·subst hq
   exact ⟨fun _ => ⟨_, if_pos rfl⟩, fun _ => ⟨d, hd⟩⟩
  ·simp only [if_neg hq]
 ·by_cases hqk : q = k
  ·rw [if_pos hqk] at hq
   injection hq with hq
   subst hq
   exact ⟨hs, (h.at' k d hd).2⟩
  ·rw [if_neg hqk] at hq
   obtain ⟨h1, h2⟩ := h.at' q e hq
   exact ⟨SeenD.kp h1 hk (h.dis q k e d hq hd hqk), h2⟩
 ·by_cases hqk : q = k
  ·rw [if_pos hqk] at hq
   injection hq with hq
   subst hq
   obtain ⟨h1, h2, h3⟩ := h.xs k d hd
   refine ⟨fun _ => by simp, by simp; omega, fun y hy => ?_⟩
   rcases List.mem_append.1 hy with hy | hy
   ·rw [hqk]; exact h3 y hy
   ·rw [List.mem_singleton.1 hy, hqk]; exact hx
  ·rw [if_neg hqk] at hq
   obtain ⟨h1, h2, h3⟩ := h.xs q e hq
   exact ⟨fun _ => h1 (fun z => hqk (hZ q z)), by omega, h3⟩
 ·by_cases hqk : q = k
  ·by_cases hqk' : q' = k
   ·exact hne (hqk.trans hqk'.symm)
   ·rw [if_pos hqk] at hq
    rw [if_neg hqk'] at hq'
    injection hq with hq
    subst hq
    rcases hown j hj with h1 | h1
    ·exact h.dis k q' d e' hd hq' (fun z => hqk' z.symm) j h1 hj'
    ·have := SeenD.lt (h.at' q' e' hq').1 hj'
     omega
  ·rw [if_neg hqk] at hq
   by_cases hqk' : q' = k
   ·rw [if_pos hqk'] at hq'
    injection hq' with hq'
    subst hq'
    rcases hown j hj' with h1 | h1
    ·exact h.dis q k e d hq hd hqk j hj h1
    ·have := SeenD.lt (h.at' q e hq).1 hj
     omega
   ·rw [if_neg hqk'] at hq'
    exact h.dis q q' e e' hq hq' hne j hj hj'
/-- A new name. -/
theorem AllS.fresh {k : ByteArray} {nb : Nat} (h : AllS w r mb S i (fun _ => False) os g) (hk : k ∉ os) (hn : k ∈ nm4) (hmap : MapF w' mb (fun q => ((fun q => if q = k then some (⟨nb, [], [], none, 0, none, 0⟩ : SeenD) else g q) q).map fun d => ptr d.b))
  (hb : BoxIs w' nb #[.slice none 0 0, .slice none 0 0] 296) (hnb : w.heap.size ≤ nb) (hrb : r ≤ nb) (hmb : nb ≠ mb) (hkp : Kp (fun j => j = mb) w w') :
  AllS w' r mb S i (fun q => q = k) (os ++ [k]) (fun q => if q = k then some ⟨nb, [], [], none, 0, none, 0⟩ else g q) := by
 have hgk : g k = none := by
  cases hg : g k with
  | none => rfl
  | some d => exact absurd ((h.dom k).2 ⟨d, hg⟩) hk
 refine ⟨hmap, fun q => ?_, ?_, fun q hq => ?_, fun q e hq => ?_, fun q e hq => ?_, fun q q' e e' hq hq' hne j hj hj' => ?_⟩
 ·rw [List.mem_append, List.mem_singleton]
  by_cases hqk : q = k
  ·simp only [if_pos hqk]
   exact ⟨fun _ => ⟨_, rfl⟩, fun _ => .inr hqk⟩
  ·simp only [if_neg hqk]
   rw [← h.dom]
   exact ⟨fun z => z.resolve_right hqk, .inl⟩
 ·rw [List.nodup_append]
  refine ⟨h.nd, by simp, fun a ha b hb' e => ?_⟩
  rw [List.mem_singleton] at hb'
  exact hk (by rw [← hb', ← e]; exact ha)
 ·rcases List.mem_append.1 hq with z | z
  ·exact h.nm q z
  ·rw [List.mem_singleton.1 z]; exact hn
 ·by_cases hqk : q = k
  ·rw [if_pos hqk] at hq
   injection hq with hq
   subst hq
   exact ⟨⟨hb, SeenR.nil _ _⟩, hrb, hmb⟩
  ·rw [if_neg hqk] at hq
   obtain ⟨h1, h2⟩ := h.at' q e hq
   exact ⟨SeenD.kp h1 hkp (fun j hj z => by rw [z] at hj; exact SeenD.ne_map h1 h.map hj), h2⟩
 ·by_cases hqk : q = k
  ·rw [if_pos hqk] at hq
   injection hq with hq
   subst hq
   exact ⟨fun z => absurd hqk z, Nat.zero_le _, fun x hx => by cases hx⟩
  ·rw [if_neg hqk] at hq
   obtain ⟨h1, h2⟩ := h.xs q e hq
   exact ⟨fun _ => h1 (fun z => z), h2⟩
 ·have hnil : ∀ j, (SeenD.own ⟨nb, [], [], none, 0, none, 0⟩ j) → j = nb := fun j hj => by
   rcases hj with hj | ⟨a, ha, _⟩ | ⟨a, ha, _⟩
   ·exact hj
   ·cases ha
   ·cases ha
  by_cases hqk : q = k
  ·by_cases hqk' : q' = k
   ·exact hne (hqk.trans hqk'.symm)
   ·rw [if_pos hqk] at hq
    rw [if_neg hqk'] at hq'
    injection hq with hq
    subst hq
    have := hnil j hj
    have := SeenD.lt (h.at' q' e' hq').1 hj'
    omega
  ·rw [if_neg hqk] at hq
   by_cases hqk' : q' = k
   ·rw [if_pos hqk'] at hq'
    injection hq' with hq'
    subst hq'
    have := hnil j hj'
    have := SeenD.lt (h.at' q e hq).1 hj
    omega
   ·rw [if_neg hqk'] at hq'
    exact h.dis q q' e e' hq hq' hne j hj hj'
theorem AllS.new (h : MapF w mb (fun _ => none)) : AllS w r mb S i (fun _ => False) [] (fun _ => none) :=
 ⟨h, fun k => ⟨fun z => (List.not_mem_nil z).elim, fun z => (by obtain ⟨d, z⟩ := z; cases z)⟩, List.nodup_nil, fun k z => (List.not_mem_nil z).elim, fun k d z => (by cases z), fun k d z => (by cases z), fun k k' d d' z => (by cases z)⟩
end
end Go.Proofs.YtchfhojighopkaaGreatDoor
