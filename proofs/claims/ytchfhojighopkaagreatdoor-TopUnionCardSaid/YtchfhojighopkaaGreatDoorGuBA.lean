/-
  Parts of the proof: Ud1, Ud2, Uf1, Uc2, Inv3, Us1.
-/
import Derived.Test.YtchfhojighopkaaGreatDoorGuAZ
import Derived.Test.YtchfhojighopkaaGreatDoorGuAS
namespace Go.Proofs.YtchfhojighopkaaGreatDoor
open Go.RowKit

/-- The files of a store with their contents, in the order of their names. -/
def ContL (s : TSt) (ps : List (ByteArray × ByteArray)) : Prop := ∃ l : List Nd, Kids s.F [] l ∧ ps = l.map (fun m => (m.name, m.data))
theorem ContL.unique {s : TSt} {ps qs : List (ByteArray × ByteArray)} (h : ContL s ps) (k : ContL s qs) : ps = qs := by
 obtain ⟨l, hl, rfl⟩ := h
 obtain ⟨m, hm, rfl⟩ := k
 rw [hl.unique hm]
theorem nm4_up {p q : ByteArray} (hp : p ∈ nm4) (hq : q ∈ nm4) (h : ltN p q = true) : ¬ Wh.cmpL q.data.toList p.data.toList < 0 := by
 have key : ∀ a ∈ nm4, ∀ b ∈ nm4, Op.bytesLess a.data.toList b.data.toList = true → ¬ Wh.cmpL b.data.toList a.data.toList < 0 := by decide
 unfold ltN at h
 rw [Lib.toList_data, Lib.toList_data] at h
 exact key p hp q hq h
section
variable {w0 w w' : World} {S : Two} {N : Int} {L : Nat}
theorem FlatL.cont {s : TSt} {xs : List InfS} {ps : List (ByteArray × ByteArray)} {B : Nat} {M : MB} {b : Int} (_hM : MemT w B M s) (hS : FlatS b s) (h : FlatL s xs) (h1 : ps.map (fun q => q.1) = xs.map InfS.path) (h2 : ∀ q ∈ ps, RelF s q.1 q.2) : ContL s ps := by
 obtain ⟨l, hl, he⟩ := h
 refine ⟨l, hl, ?_⟩
 have he1 : xs.map InfS.path = l.map (fun m => m.name) := by
  have := congrArg (List.map (fun q : ByteArray × Bool × Int => q.1)) he
  simpa [List.map_map, Function.comp_def] using this
 rw [he1] at h1
 have hlen : ps.length = l.length := by simpa using congrArg List.length h1
 refine List.ext_getElem (by simpa using hlen) (fun j q1 q2 => ?_)
 have hj : j < l.length := by omega
 have hn : ps[j].1 = l[j].name := by
  have := congrArg (fun z => z[j]?) h1
  simp only [List.getElem?_map, List.getElem?_eq_getElem q1, List.getElem?_eq_getElem hj, Option.map_some] at this
  exact Option.some.inj this
 obtain ⟨n, hn1, hn2⟩ := h2 ps[j] (List.getElem_mem q1)
 obtain ⟨k, hk⟩ := (hl.mem l[j]).1 (List.getElem_mem hj)
 have hk' : s.F [k] = some l[j] := hk
 have hkn : l[j].name = k := (hS.file hk').name
 rw [hn, hkn, hk'] at hn1
 injection hn1 with hn1
 rw [List.getElem_map]
 refine Prod.ext hn ?_
 show ps[j].2 = l[j].data
 rw [hn1]
 exact hn2.symm
/-- contents of a member. -/
def ContM (w0 : World) (S : Two) (N : Int) (L : Nat) (b : Bool) (w : World) (e : Ending) (w' : World) : Prop :=
 ∃ (ps : List (ByteArray × ByteArray)) (a : Option Addr) (cap : Nat), e = .returned (.tuple #[.slice a ps.length cap, .bool true]) ∧ ContL (S.s b) ps ∧ ps.length ≤ 4 ∧ RowG 53 2 w' w.heap.size a cap (ps.map pairRow) ∧ (ps = [] → a = none ∧ cap = 0) ∧ InvJ w0 S N L w' ∧ Kp S.foot w w'
theorem contM_any {T : Tabs} (hG : Gr w0 T) (hw : InvJ w0 S N w.heap.size w) (h0 : w0.heap.size ≤ w.heap.size) (b : Bool) :
  Calls Tryz.prog 9 #[.iface 28 (ptr (S.M b).b)] w (ContM w0 S N w.heap.size b w) := by
 refine (contV_any (memStV hG hw h0 b) w hw).mono ?_
 rintro e w' ⟨xs, ys, ps, a, cap, rfl, h1, h2, h3, h4, h5, h6, h7, h8, h9⟩
 obtain ⟨f1, f2, _, _, f5⟩ := h1.files (hw.1.mem b) (hw.1.flat b)
 have hys : ys = xs := h3 (fun j x y hx hy => by
  obtain ⟨_, n, hn, _⟩ := f2 x (List.mem_of_getElem? hx)
  obtain ⟨_, m, hm, _⟩ := f2 y (List.mem_of_getElem? hy)
  exact nm4_up ((hw.1.flat b).file hn).mem ((hw.1.flat b).file hm).mem (f5 j x y hx hy))
 subst hys
 have hlen : ps.length = ys.length := by simpa using congrArg List.length h4
 exact ⟨ps, a, cap, rfl, h1.cont (hw.1.mem b) (hw.1.flat b) h4 h5, by omega, h6, h7, h8, h9⟩
end
end Go.Proofs.YtchfhojighopkaaGreatDoor
namespace Go.Proofs.YtchfhojighopkaaGreatDoor
open Go.RowKit

/-- The object of a union. -/
structure UB where
 b : Nat
 lg : Nat
 lc : Nat
 cr : Int
 ch : Int
 se : Int
 fx : List Int
 fa : Option Addr
 fc : Nat
abbrev UB.arr (u : UB) : Array Value := #[.int .i64 287, .int .i64 16, .int .i64 1, .int .i64 255, .int .i64 1024, .int .i64 100000, .int .i64 4, .int .i64 1, .string ⟨#[]⟩, .slice (some ⟨u.lg, 0, none⟩) 2 u.lc, .int .i64 u.cr, .int .i64 u.ch, .int .i64 u.se, .slice u.fa u.fx.length u.fc, .bool true]
/-- Its own blocks. -/
def UB.own (u : UB) (i : Nat) : Prop := i = u.b ∨ i = u.lg ∨ (u.fx ≠ [] ∧ rb u.fa i)
abbrev memI (S : Two) (b : Bool) : Value := .iface 28 (ptr (S.M b).b)
/-- A member's number. -/
def bOf (i : Nat) : Bool := i == 1
structure UAt (W : World) (S : Two) (u : UB) : Prop where
 box : BoxIs W u.b u.arr 90
 row : HoldsR W (some ⟨u.lg, 0, none⟩) 1 [[memI S false], [memI S true]]
 fix : HoldsR W u.fa 1 (u.fx.map fun n => [Value.int .i64 n])
 lt : ∀ i, u.own i → i < W.heap.size
 apart : ∀ i, S.all i → ¬ u.own i
 few : u.fx.length ≤ 2
section
variable {w0 w w' : World} {S S' : Two} {N N' : Int} {L B : Nat} {u : UB}
theorem UAt.kp {G : Nat → Prop} (h : UAt w S u) (hk : Kp G w w') (hG : ∀ i, u.own i → ¬ G i) : UAt w' S u := by
 refine ⟨h.box.kp hk (hG _ (.inl rfl)), h.row.kp hk (fun ad e => ?_), ?_, fun i hi => Nat.lt_of_lt_of_le (h.lt i hi) hk.size, h.apart, h.few⟩
 ·injection e with e
  subst e
  exact hG _ (.inr (.inl rfl))
 ·by_cases hx : u.fx = []
  ·rw [hx]
   exact HoldsR.none _ _ _
  ·exact h.fix.kp hk (fun ad e => hG _ (.inr (.inr ⟨hx, ⟨ad, e, rfl⟩⟩)))
theorem UAt.asked (h : UAt w S u) (hk : Kp S.foot w w') : UAt w' S u := h.kp hk (fun i hi hf => h.apart i (Two.foot_all hf) hi)
theorem UAt.below (h : UAt w S u) (hb : Below w.heap.size w w') : UAt w' S u := h.kp (Kp.of (F := fun _ => False) hb) (fun _ _ e => e)
theorem UAt.fresh {L : Nat} (h : UAt w S u) (hL : ∀ i, u.own i → i < L) (hk : Kp (fun i => L ≤ i) w w') : UAt w' S u := h.kp hk (fun i hi e => by have := hL i hi; omega)
theorem UAt.stp (h : UAt w S u) (hs : Stp B S S' N' w w') : UAt w' S' u := by
 have h1 := h.asked hs.kp
 have hM := hs.M
 refine ⟨h1.box, ?_, h1.fix, h1.lt, fun i hi ho => ?_, h1.few⟩
 ·have := h1.row
  unfold memI at this ⊢
  rw [hM]
  exact this
 ·obtain ⟨b, hi⟩ := hi
  rcases hi with hi | hi
  ·rcases hs.own i ⟨b, hi⟩ with h2 | h2
   ·exact h.apart i (Two.foot_all h2) ho
   ·have := h.lt i ho
    omega
  ·rw [hM] at hi
   exact h.apart i ⟨b, .inr hi⟩ ho
theorem UAt.mem (h : UAt w S u) {i : Nat} (hi : i < 2) : w.cell? ⟨u.lg, i, none⟩ = some (memI S (bOf i)) := by
 have e : ([[memI S false], [memI S true]] : List (List Value))[i]? = some [memI S (bOf i)] := by
  match i, hi with
  | 0, _ => rfl
  | 1, _ => rfl
 obtain ⟨b, off, h1, _, h2⟩ := h.row.at e
 injection h1 with h1
 injection h1 with q1 q2
 subst q1 q2
 have := h2 0 _ rfl
 rwa [Nat.zero_add, Nat.mul_one, Nat.add_zero] at this
/-- What holds of the stores and the union. -/
structure InvU (w0 : World) (S : Two) (N : Int) (u : UB) (W : World) : Prop where
 j : J W w0.heap.size S N
 bel : Below w0.heap.size w0 W
 u : UAt W S u
theorem InvU.inv (h : InvU w0 S N u w) : InvJ w0 S N w.heap.size w := ⟨h.j, h.bel, Nat.le_refl _⟩
theorem InvU.base (h : InvU w0 S N u w) : w0.heap.size ≤ w.heap.size := h.bel.size
theorem InvU.asked (h : InvU w0 S N u w) (hj : InvJ w0 S N L w') (hk : Kp S.foot w w') : InvU w0 S N u w' := ⟨hj.1, hj.2.1, h.u.asked hk⟩
theorem InvU.fresh (h : InvU w0 S N u w) (hb : Below w.heap.size w w') : InvU w0 S N u w' := ⟨h.j.below hb, h.bel.trans (Below.mono hb h.bel.size), h.u.below hb⟩
theorem InvU.lt (h : InvU w0 S N u w) {i : Nat} (hi : S.all i ∨ u.own i) : i < w.heap.size := hi.elim h.j.lt (h.u.lt i)
/-- What a call does to its own blocks. -/
theorem InvU.over {F : Nat → Prop} {v v' : World} (h : InvU w0 S N u w) (hv : InvU w0 S N u v) (hk : Kp F v v') (hF : ∀ i, F i → w.heap.size ≤ i) : InvU w0 S N u v' :=
 ⟨hv.j.kp hk (fun i hi g => by have := h.lt (.inl hi); have := hF i g; omega), hv.bel.trans (hk.below (fun i g => Nat.le_trans h.base (hF i g)) hv.bel.size), hv.u.kp hk (fun i hi g => by have := h.lt (.inr hi); have := hF i g; omega)⟩
theorem InvU.stp (h : InvU w0 S N u w) (hs : Stp w0.heap.size S S' N' w w') : InvU w0 S' N' u w' :=
 ⟨hs.j, h.bel.trans (hs.kp.below (fun _i hi => h.j.lo hi) h.bel.size), h.u.stp hs⟩
/-- Stat of a member. -/
def StatJ (w0 : World) (S : Two) (N : Int) (u : UB) (o : Option Nd) (w : World) (e : Ending) (w' : World) : Prop :=
 ((o = none ∧ e = .returned (.tuple #[.agg InfS.zero.arr, .int .i64 3])) ∨ (∃ n x, o = some n ∧ e = .returned (.tuple #[.agg (InfS.arr x), .int .i64 0]) ∧ x.path = n.name ∧ x.dir = false ∧ x.time = n.time)) ∧ InvU w0 S N u w' ∧ Kp S.foot w w'
theorem statJ_any {T : Tabs} (hG : Gr w0 T) (h : InvU w0 S N u w) (b : Bool) {p : ByteArray} (hp : p ∈ nm4) :
  Calls Tryz.prog 295 #[ptr (S.M b).b, .string p] w (StatJ w0 S N u ((S.s b).F [p]) w) := by
 refine (statF_any w0 w T (S.M b) (S.s b) N p hG h.bel (h.j.mem b) (h.j.flat b) hp).mono ?_
 rintro e w' ⟨h1, h2, h3⟩
 obtain ⟨h4, h5⟩ := h.inv.asked b h2 h3
 refine ⟨h1.imp id (fun ⟨n, x, q1, q2, q3⟩ => ⟨n, x, q1, q2, ?_, ?_, ?_⟩), h.asked h4 h5, h5⟩
 ·exact congrArg (fun q => q.1) q3
 ·exact congrArg (fun q => q.2.1) q3
 ·exact congrArg (fun q => q.2.2) q3
end
end Go.Proofs.YtchfhojighopkaaGreatDoor
namespace Go.Proofs.YtchfhojighopkaaGreatDoor
open Go.RowKit

theorem nm4_last {p : ByteArray} (h : p ∈ nm4) : Lib.lastIndexByte p 47 = -1 := by
 rcases nm4_cases h with rfl | rfl | rfl | rfl <;> decide +kernel
theorem nm4_extract {p : ByteArray} (h : p ∈ nm4) : p.extract 0 p.size = p ∧ p.extract 0 0 = ⟨#[]⟩ := by
 rcases nm4_cases h with rfl | rfl | rfl | rfl <;> decide +kernel
theorem isFileW_any (w0 w : World) (p : ByteArray) (hE : Env w0) (hb0 : Below w0.heap.size w0 w) (hp : p ∈ nm4) :
  Calls Tryz.prog 209 #[.string p] w fun e w' => e = .returned (.int .i64 0) ∧ Below w.heap.size w w' := by
 have ho := nm4_ok hp
 have HCk := Lib.hid (check_any p w (hE.below hb0 (Nat.le_refl _)) (Nat.le_trans ho.size (by decide)))
 rw [ho.err] at HCk
 have hne := ho.ne
 clear hE hb0 hp ho
 go_enter Tryz.func209, Tryz.ntmps209
 go_wp2_with (go_at_call 15; refine HCk.out.mono ?_; rintro e w1 ⟨rfl, hb1⟩)
 go_ret
 exact ⟨rfl, hb1⟩
set_option maxHeartbeats 1000000 in
theorem lastName_any (p : ByteArray) (w : World) (hp : p ∈ nm4) :
  Calls Tryz.prog 241 #[.string p] w fun e w' => e = .returned (.string p) ∧ w' = w := by
 have hz := nm4_size hp
 have HL := Lib.hid (Tryz.strings_LastIndexByte p 47 (by omega) w)
 rw [nm4_last hp] at HL
 have hx := (nm4_extract hp).1
 have HX := Lib.hid hx
 clear hp
 go_enter Tryz.func241, Tryz.ntmps241
 go_upto_region 1 with fail
 go_wp2_with (go_at_call 103; refine HL.out.mono ?_; rintro e w2 ⟨rfl, rfl⟩)
 go_ret
 exact ⟨rfl, rfl⟩
set_option maxHeartbeats 1000000 in
theorem parentW_any (p : ByteArray) (w : World) (hp : p ∈ nm4) :
  Calls Tryz.prog 245 #[.string p] w fun e w' => e = .returned (.string ⟨#[]⟩) ∧ w' = w := by
 have hz := nm4_size hp
 have HL := Lib.hid (Tryz.strings_LastIndexByte p 47 (by omega) w)
 rw [nm4_last hp] at HL
 have HX := Lib.hid (nm4_extract hp).2
 clear hp
 go_enter Tryz.func245, Tryz.ntmps245
 go_upto_region 1 with fail
 go_wp2_with (go_at_call 103; refine HL.out.mono ?_; rintro e w2 ⟨rfl, rfl⟩)
 go_ret
 refine ⟨?_, rfl⟩
 show Ending.returned (.string (p.extract 0 (max (-1 : Int) 0).toNat)) = _
 rw [show (max (-1 : Int) 0).toNat = 0 by decide, HX.out]
theorem containsInt_any {w : World} {a : Option Addr} {xs : List Int} {c : Nat} (hH : HoldsR w a 1 (xs.map fun n => [Value.int .i64 n])) (hl : xs.length ≤ 100) (y : Int) :
  Calls Tryz.prog 14 #[.slice a xs.length c, .int .i64 y] w fun e w' => e = .returned (.bool (xs.contains y)) ∧ w' = w := by
 cases xs with
 | nil => exact Tryz.slices_Contains_int_empty a c y w
 | cons x l =>
  have h0 : ((x :: l).map fun n => [Value.int .i64 n])[0]? = some [Value.int .i64 x] := rfl
  obtain ⟨b, off, ha, _, _⟩ := hH.at h0
  subst ha
  have hc : ∀ j, j < (x :: l).length → w.cell? ⟨b, off + j, none⟩ = some (.int .i64 ((x :: l).getD j 0)) := fun j hj => by
   have h1 : ((x :: l).map fun n => [Value.int .i64 n])[j]? = some [Value.int .i64 ((x :: l).getD j 0)] := by
    rw [List.getElem?_map, List.getD_eq_getElem?_getD, List.getElem?_eq_getElem hj]
    rfl
   obtain ⟨b', off', ha', _, hc'⟩ := hH.at h1
   injection ha' with ha'
   injection ha' with e1 e2
   subst e1 e2
   have := hc' 0 _ rfl
   rwa [Nat.mul_one, Nat.add_zero] at this
  have := Tryz.slices_Contains_int b off (x :: l).length c (x :: l) y w (Nat.le_refl _) (by omega) hc
  rwa [List.take_length] at this
section
variable {w0 w w' : World} {S : Two} {N : Int} {u : UB}
/-- A member that is never written to. -/
def UB.isFix (u : UB) (i : Nat) : Bool := u.fx.contains (i : Int)
set_option maxHeartbeats 1000000 in
theorem fixed_any (h : UAt w S u) (i : Nat) :
  Calls Tryz.prog 227 #[ptr u.b, .int .i64 i] w fun e w' => e = .returned (.bool (u.isFix i)) ∧ w' = w := by
 have hc : w.cell? ⟨u.b, 13, none⟩ = some (.slice u.fa u.fx.length u.fc) := h.box.cell (j := 13) rfl
 have HC := Lib.hid (containsInt_any (w := w) (a := u.fa) (xs := u.fx) (c := u.fc) h.fix (by have := h.few; omega) (i : Int))
 unfold UB.isFix
 generalize u.fx.contains (i : Int) = r at *
 generalize u.b = b at *
 generalize u.fa = a at *
 generalize u.fc = c at *
 generalize u.fx.length = n at *
 clear h
 go_enter Tryz.func227, Tryz.ntmps227
 go_upto_region 1 with fail
 go_wp2_with (go_at_call 14; refine HC.out.mono ?_; rintro e w2 ⟨rfl, rfl⟩)
 go_ret
 exact ⟨rfl, rfl⟩
end
end Go.Proofs.YtchfhojighopkaaGreatDoor
namespace Go.Proofs.YtchfhojighopkaaGreatDoor
open Go.RowKit

/-- What members tell of a path: their numbers, their infos. -/
structure SeenR (w : World) (r : Nat) (ns : List Nat) (xs : List InfS) (na : Option Addr) (nc : Nat) (ia : Option Addr) (ic : Nat) : Prop where
 rn : RowG 3 1 w r na nc (ns.map fun (n : Nat) => [Value.int .i64 n])
 rx : RowG 37 7 w r ia ic (xs.map InfS.row)
 len : ns.length = xs.length
 zn : ns = [] → na = none ∧ nc = 0
 zx : xs = [] → ia = none ∧ ic = 0
section
variable {w w' : World} {r : Nat} {ns : List Nat} {xs : List InfS} {na ia : Option Addr} {nc ic : Nat}
theorem SeenR.kp {F : Nat → Prop} (h : SeenR w r ns xs na nc ia ic) (hk : Kp F w w') (hF : ∀ i, rb na i ∨ rb ia i → ¬ F i) : SeenR w' r ns xs na nc ia ic :=
 ⟨h.rn.kp hk (fun i hi => hF i (.inl hi)), h.rx.kp hk (fun i hi => hF i (.inr hi)), h.len, h.zn, h.zx⟩
theorem SeenR.under (h : SeenR w r ns xs na nc ia ic) (hb : Below w.heap.size w w') : SeenR w' r ns xs na nc ia ic := h.kp (Kp.of (F := fun _ => False) hb) (fun _ _ e => e)
theorem SeenR.nil (w : World) (r : Nat) : SeenR w r [] [] none 0 none 0 := ⟨RowG.nil _ _ _ _, RowG.nil _ _ _ _, rfl, fun _ => ⟨rfl, rfl⟩, fun _ => ⟨rfl, rfl⟩⟩
set_option maxHeartbeats 1000000 in
theorem seenNone_any (na : Option Addr) (n nc : Nat) (v : Value) (_hv : v.oneCell' = true) (w : World) :
  Calls Tryz.prog 235 #[.agg #[.slice na n nc, v]] w fun e w' => e = .returned (.bool (n == 0)) ∧ Below w.heap.size w w' := by
 have hb1 : Below w.heap.size w (w.alloc (.cells #[.slice na n nc, v] 296)) := bAlloc (Below.refl _ _) _
 have hx1 : BoxIs (w.alloc (.cells #[.slice na n nc, v] 296)) w.heap.size #[.slice na n nc, v] 296 := heap_alloc_new _ _
 have c0 := hx1.cell (j := 0) rfl
 have HB := Lib.hid hb1
 clear hx1 hb1
 obtain ⟨t, ht⟩ : ∃ t, (n == 0) = t := ⟨_, rfl⟩
 have hz : ((n : Int) == 0) = t := by rw [← ht, Bool.eq_iff_iff, beq_iff_eq, beq_iff_eq]; omega
 rw [ht]
 clear ht
 go_enter Tryz.func235, Tryz.ntmps235
 go_upto_region 1 with fail
 generalize w.alloc _ = w1 at *
 go_wp2_with fail
 go_ret
 exact ⟨rfl, HB.out⟩
set_option maxHeartbeats 2000000 in
theorem seenDir_any (hR : SeenR w r ns xs na nc ia ic) (hd : ∀ x ∈ xs, x.dir = false) (hl : xs.length ≤ 100) :
  Calls Tryz.prog 234 #[.agg #[.slice na ns.length nc, .slice ia xs.length ic]] w fun e w' => e = .returned (.bool false) ∧ Below w.heap.size w w' := by
 have hb1 : Below w.heap.size w (w.alloc (.cells #[.slice na ns.length nc, .slice ia xs.length ic] 296)) := bAlloc (Below.refl _ _) _
 have hx1 : BoxIs (w.alloc (.cells #[.slice na ns.length nc, .slice ia xs.length ic] 296)) w.heap.size #[.slice na ns.length nc, .slice ia xs.length ic] 296 := heap_alloc_new _ _
 have HNo := Lib.hid (fun W => seenNone_any na ns.length nc (.slice ia xs.length ic) rfl W)
 have HR1 := Lib.hid (hR.under hb1)
 have HX := Lib.hid hx1
 have HB := Lib.hid hb1
 have c0 := hx1.cell (j := 0) rfl
 have c1 := hx1.cell (j := 1) rfl
 obtain ⟨n, hn⟩ : ∃ n, ns.length = n := ⟨_, rfl⟩
 obtain ⟨k, hk⟩ : ∃ k, xs.length = k := ⟨_, rfl⟩
 have hnk : n = k := by rw [← hn, ← hk]; exact hR.len
 have HK := Lib.hid hk
 have HD := Lib.hid hd
 rw [hn, hk] at HNo HX HB HR1 c0 c1 ⊢
 rw [hk] at hl
 clear hx1 hb1 hR hn hk hd
 subst hnk
 go_enter Tryz.func234, Tryz.ntmps234
 go_upto_region 1 with fail
 obtain ⟨bx, hbx⟩ : ∃ bx, bx = w.heap.size := ⟨_, rfl⟩
 rw [← hbx] at c0 c1 HX ⊢
 clear hbx
 generalize w.alloc _ = w1 at *
 cases hz : (n == 0) with
 | true =>
  rw [hz] at HNo
  go_wp2_with (go_at_call 235; refine (HNo.out _).mono ?_; rintro e w2 ⟨rfl, hb2⟩)
  go_ret
  exact ⟨rfl, bTrans HB.out hb2⟩
 | false =>
  rw [hz] at HNo
  have hn0 : 0 < n := by
   rcases Nat.eq_zero_or_pos n with h | h
   ·rw [h] at hz; cases hz
   ·exact h
  obtain ⟨x, hx⟩ : ∃ x, xs[0]? = some x := ⟨_, List.getElem?_eq_getElem (by rw [HK.out]; exact hn0)⟩
  have hxd := HD.out x (List.mem_of_getElem? hx)
  obtain ⟨g, rfl⟩ := HR1.out.rx.some_of (by rw [List.length_map, HK.out]; exact hn0)
  have hrow : (xs.map InfS.row)[0]? = some x.row := by rw [List.getElem?_map, hx]; rfl
  have HC : Hid (∀ W, Below w1.heap.size w1 W → W.cell? ⟨g, 1, none⟩ = some (.bool false) ∧ W.cell? ⟨bx, 1, none⟩ = some (.slice (some ⟨g, 0, none⟩) n ic)) := Lib.hid (fun W hb => by
   have h1 : W.cell? ⟨g, 0 * 7 + 1, none⟩ = some (.bool x.dir) := (HR1.out.under hb).rx.cell_at (by decide) hrow (j := 1) rfl
   rw [hxd] at h1
   exact ⟨h1, (HX.out.under hb).cell (j := 1) rfl⟩)
  have hn0z : (0 : Int) < (n : Int) := by omega
  clear hx hrow hxd hz
  go_wp2_with (go_at_call 235; refine (HNo.out _).mono ?_; rintro e w2 ⟨rfl, hb2⟩; obtain ⟨c2, c3⟩ := HC.out _ hb2)
  go_ret
  exact ⟨rfl, bTrans HB.out hb2⟩
/-- Which one is chosen: one of them, if there are some. -/
def BestP (w : World) (k : Nat) (e : Ending) (w' : World) : Prop := (∃ j : Nat, e = .returned (.int .i64 j) ∧ (j < k ∨ (k = 0 ∧ j = 0))) ∧ Below w.heap.size w w'
set_option maxHeartbeats 4000000 in
set_option maxRecDepth 100000 in
theorem best_any (pol : Int) (v : Value) (_hv : v.oneCell' = true) (hR : RowG 37 7 w r ia ic (xs.map InfS.row)) (hl : xs.length ≤ 100) (hd : ∀ x ∈ xs, x.dir = false) :
  Calls Tryz.prog 229 #[.agg #[v, .slice ia xs.length ic], .int .i64 pol] w (BestP w xs.length) := by
 have hb1 : Below w.heap.size w (w.alloc (.cells #[v, .slice ia xs.length ic] 296)) := bAlloc (Below.refl _ _) _
 have hx1 : BoxIs (w.alloc (.cells #[v, .slice ia xs.length ic] 296)) w.heap.size #[v, .slice ia xs.length ic] 296 := heap_alloc_new _ _
 have HR0 := Lib.hid hR
 have HD := Lib.hid hd
 obtain ⟨k, hk⟩ : ∃ k, xs.length = k := ⟨_, rfl⟩
 have HK := Lib.hid hk
 have HB := Lib.hid hb1
 have HX := Lib.hid hx1
 have c1 := hx1.cell (j := 1) rfl
 rw [hk] at HB HX c1 hl ⊢
 clear hx1 hb1 hR hk hd
 obtain ⟨t3, ht3⟩ : ∃ t3, (pol == 3) = t3 := ⟨_, rfl⟩
 go_enter Tryz.func229, Tryz.ntmps229
 go_upto_region 1 with fail
 obtain ⟨bx, hbx⟩ : ∃ bx, bx = w.heap.size := ⟨_, rfl⟩
 rw [← hbx] at c1 HX ⊢
 clear hbx
 generalize w.alloc _ = w1 at *
 go_upto_region 3 with fail
 go_loopg [5, 11] k (fun gk s5 s11 wx => ∃ (i j : Nat), s5 = .int .i64 j ∧ s11 = .int .i64 i ∧ i + gk = k ∧ (j < k ∨ (k = 0 ∧ j = 0)) ∧ Hid (Below w.heap.size w wx) ∧ Hid (BoxIs wx bx #[v, .slice ia k ic] 296))
 case atStart => exact ⟨0, 0, rfl, rfl, Nat.zero_add _, by omega, HB, HX⟩
 case round =>
  obtain ⟨i, j, rfl, rfl, hig, hj, HBx, HXx⟩ := hrel
  have HRx := Lib.hid (HR0.out.kp (Kp.of (F := fun _ => False) HBx.out) (fun _ _ e => e))
  by_cases hlt : i < k
  case neg =>
   have hltz : ¬ (i : Int) < (k : Int) := by omega
   go_wp2_with fail
   go_ret
   exact ⟨⟨j, rfl, hj⟩, HBx.out⟩
  case pos =>
   have hltz : (i : Int) < (k : Int) := by omega
   have hjk : j < k := by omega
   obtain ⟨g, rfl⟩ : ∃ g, gk = g + 1 := ⟨gk - 1, by omega⟩
   obtain ⟨x, hx⟩ : ∃ x, xs[i]? = some x := ⟨_, List.getElem?_eq_getElem (by rw [HK.out]; exact hlt)⟩
   obtain ⟨y, hy⟩ : ∃ y, xs[j]? = some y := ⟨_, List.getElem?_eq_getElem (by rw [HK.out]; exact hjk)⟩
   have hxd := HD.out x (List.mem_of_getElem? hx)
   obtain ⟨gb, rfl⟩ := HRx.out.some_of (by rw [List.length_map, HK.out]; omega)
   have hrow : (xs.map InfS.row)[i]? = some x.row := by rw [List.getElem?_map, hx]; rfl
   have hrowj : (xs.map InfS.row)[j]? = some y.row := by rw [List.getElem?_map, hy]; rfl
   have c0 : wr.cell? ⟨gb, i * 7, none⟩ = some (.string x.path) := HRx.out.cell_at (by decide) hrow (j := 0) rfl
   have c1 : wr.cell? ⟨gb, i * 7 + 1, none⟩ = some (.bool x.dir) := HRx.out.cell_at (by decide) hrow (j := 1) rfl
   have c2 : wr.cell? ⟨gb, i * 7 + 2, none⟩ = some (.int .i64 x.size) := HRx.out.cell_at (by decide) hrow (j := 2) rfl
   have c3 : wr.cell? ⟨gb, i * 7 + 3, none⟩ = some (.int .i64 x.time) := HRx.out.cell_at (by decide) hrow (j := 3) rfl
   have c4 : wr.cell? ⟨gb, i * 7 + 4, none⟩ = some (.slice x.sa x.sn x.sc) := HRx.out.cell_at (by decide) hrow (j := 4) rfl
   have c5 : wr.cell? ⟨gb, i * 7 + 5, none⟩ = some (.slice none 0 0) := HRx.out.cell_at (by decide) hrow (j := 5) rfl
   have c6 : wr.cell? ⟨gb, i * 7 + 6, none⟩ = some (.string x.id) := HRx.out.cell_at (by decide) hrow (j := 6) rfl
   obtain ⟨A, dd, z, t, sa, sn, sc, ix⟩ := x
   dsimp only at c0 c1 c2 c3 c4 c6 hxd
   subst hxd
   clear hx hrow hy
   go_upto_region 5 with fail
   have hb5 : Below wr.heap.size wr (wr.alloc (.cells #[.string A, .bool false, .int .i64 z, .int .i64 t, .slice sa sn sc, .slice none 0 0, .string ix] 37)) := bAlloc (Below.refl _ _) _
   have hx5 : BoxIs (wr.alloc (.cells #[.string A, .bool false, .int .i64 z, .int .i64 t, .slice sa sn sc, .slice none 0 0, .string ix] 37)) wr.heap.size #[.string A, .bool false, .int .i64 z, .int .i64 t, .slice sa sn sc, .slice none 0 0, .string ix] 37 := heap_alloc_new _ _
   have HB5 := Lib.hid (bTrans HBx.out hb5)
   have HX5 := Lib.hid (HXx.out.under hb5)
   have d1 := hx5.cell (j := 1) rfl
   have d3 := hx5.cell (j := 3) rfl
   have q1 := HX5.out.cell (j := 1) rfl
   have q3 : (wr.alloc (.cells #[.string A, .bool false, .int .i64 z, .int .i64 t, .slice sa sn sc, .slice none 0 0, .string ix] 37)).cell? ⟨gb, j * 7 + 3, none⟩ = some (.int .i64 y.time) := (HRx.out.kp (Kp.of (F := fun _ => False) hb5) (fun _ _ e => e)).cell_at (by decide) hrowj (j := 3) rfl
   obtain ⟨nx, hnx⟩ : ∃ nx, wr.heap.size = nx := ⟨_, rfl⟩
   rw [hnx] at d1 d3 ⊢
   have hjz : (j : Int) < (k : Int) := by omega
   clear hb5 hx5 c0 c1 c2 c3 c4 c5 c6 hnx hrowj HXx HBx HRx
   generalize wr.alloc _ = w5 at *
   obtain ⟨t2, ht2⟩ : ∃ t2, y.time = t2 := ⟨_, rfl⟩
   rw [ht2] at q3
   clear ht2
   cases t3 with
   | false =>
    go_wp2_with fail
    go_quiet (fail)
    have HB6 : Hid (Below w.heap.size w (w5.drewN nq)) := Lib.hid ⟨HB5.out.os, HB5.out.tape, HB5.out.output, HB5.out.size, HB5.out.block⟩
    have HX6 : Hid (BoxIs (w5.drewN nq) bx #[v, .slice (some ⟨gb, 0, none⟩) k ic] 296) := Lib.hid HX5.out
    generalize w5.drewN nq = w6 at *
    go_wp2
    go_roundg g
    case measure => omega
    case rel => exact ⟨i + 1, j, rfl, by go_num, by omega, .inl hjk, HB6, HX6⟩
   | true =>
    by_cases hgt : t > t2
    ·go_wp2_with fail
     go_quiet (fail)
     have HB6 : Hid (Below w.heap.size w (w5.drewN nq)) := Lib.hid ⟨HB5.out.os, HB5.out.tape, HB5.out.output, HB5.out.size, HB5.out.block⟩
     have HX6 : Hid (BoxIs (w5.drewN nq) bx #[v, .slice (some ⟨gb, 0, none⟩) k ic] 296) := Lib.hid HX5.out
     generalize w5.drewN nq = w6 at *
     go_wp2
     go_roundg g
     case measure => omega
     case rel => exact ⟨i + 1, i, rfl, by go_num, by omega, .inl hlt, HB6, HX6⟩
    ·go_wp2_with fail
     go_quiet (fail)
     have HB6 : Hid (Below w.heap.size w (w5.drewN nq)) := Lib.hid ⟨HB5.out.os, HB5.out.tape, HB5.out.output, HB5.out.size, HB5.out.block⟩
     have HX6 : Hid (BoxIs (w5.drewN nq) bx #[v, .slice (some ⟨gb, 0, none⟩) k ic] 296) := Lib.hid HX5.out
     generalize w5.drewN nq = w6 at *
     go_wp2
     go_roundg g
     case measure => omega
     case rel => exact ⟨i + 1, j, rfl, by go_num, by omega, .inl hjk, HB6, HX6⟩
end
end Go.Proofs.YtchfhojighopkaaGreatDoor
namespace Go.Proofs.YtchfhojighopkaaGreatDoor
open Go.RowKit

section
variable {P : Program} {ops : Array Oper} {Q : Exit → Act → World → Prop} {md : Region.Mode}

def topoB (md : Region.Mode) (ops : Array Oper) : Bool := (List.range ops.size).all fun i => match ops[i]? with | some o => o.after.all (fun e => !Region.binds md e || decide (e.on < i)) | none => true
theorem topoB_spec (h : topoB md ops = true) {i : Nat} {o : Oper} (ho : ops[i]? = some o) : ∀ e ∈ o.after, Region.binds md e = true → e.on < i := by
 intro e he hb
 have hi := (Array.getElem?_eq_some_iff.1 ho).1
 have h1 := List.all_eq_true.1 h i (List.mem_range.2 hi)
 rw [ho] at h1
 have h2 := Array.all_eq_true_iff_forall_mem.1 h1 e he
 rw [hb] at h2
 simpa using h2
theorem all_listedB (ht : topoB md ops = true) {listed : Array Bool} (hs : listed.size = ops.size) (hr : Region.ready md ops listed = []) : ∀ i, i < ops.size → listed.getD i false = true := by
 intro i
 induction i using Nat.strongRecOn with
 | _ i ih =>
  intro hi
  have ho : ops[i]? = some ops[i] := Array.getElem?_eq_getElem hi
  cases hl : listed.getD i false with
  | true => rfl
  | false =>
   have hl2 : listed.getD i true = false := by
    have hlt : i < listed.size := by omega
    simp [hlt] at hl ⊢
    exact hl
   have : i ∈ Region.ready md ops listed := mem_ready.2 ⟨hl2, _, ho, fun e he hb => ih e.on (topoB_spec ht ho e he hb) (Nat.lt_trans (topoB_spec ht ho e he hb) hi)⟩
   rw [hr] at this
   cases this

theorem wpAny_inv3 {Inv : (Nat → Prop) → Act → World → Prop} (ht : topoB md ops = true)
  (hstep : ∀ i o, ops[i]? = some o → ∀ (L : Nat → Prop) a w, Inv L a w → ¬ L i → (∀ e ∈ o.after, Region.binds md e = true → L e.on) →
   ∀ K : Act → World → Prop, Shut (∀ a w, Inv (fun j => j = i ∨ L j) a w → K a w) → if Region.wanted o (yielded ops a.tmps) = true then Oper.wp P o a w K Q else K (a.put o.dst undef) w)
  (hdone : ∀ L a w, Inv L a w → (∀ i, i < ops.size → L i) → Q .normal a w) :
  ∀ (fuel : Nat) (listed : Array Bool) (a : Act) (w : World), listed.size = ops.size → unl listed ≤ fuel → Inv (fun j => listed.getD j false = true) a w → wpAny P md ops Q fuel listed a w := by
 intro fuel
 induction fuel with
 | zero =>
  intro listed a w hs hu hI
  have hr : Region.ready md ops listed = [] := by
   rw [List.eq_nil_iff_forall_not_mem]
   intro i hi
   have := (mem_ready.1 hi).1
   rw [unl_none (by omega) i] at this
   cases this
  exact ⟨hr, hdone _ a w hI (all_listedB ht hs hr)⟩
 | succ fuel ih =>
  intro listed a w hs hu hI
  refine ⟨fun hr => hdone _ a w hI (all_listedB ht hs hr), fun i hi => ?_⟩
  obtain ⟨hun, o, ho, hall⟩ := mem_ready.1 hi
  have hnot : ¬ listed.getD i false = true := by
   intro h
   rcases Nat.lt_or_ge i listed.size with h' | h'
   ·simp [h'] at hun h
    rw [hun] at h
    cases h
   ·simp [Array.getElem?_eq_none h'] at h
  refine wpOp_step ho fun K hK => hstep i o ho _ a w hI hnot hall K (fun a' w' h => hK a' w' ?_)
  refine ih _ a' w' (by simpa using hs) (by have := unl_set hun; omega) ?_
  rw [listed_set hun]
  exact h

/-- The beginning. -/
theorem wp_region_inv3 (Inv : (Nat → Prop) → Act → World → Prop) {id : Nat} {a : Act} {w : World} (hm : P.follows .mixedOrders = true) (ht : topoB .any ops = true) (h0 : Inv (fun _ => False) a w.drew)
  (hstep : ∀ i o, ops[i]? = some o → ∀ (L : Nat → Prop) a w, Inv L a w → ¬ L i → (∀ e ∈ o.after, Region.binds .any e = true → L e.on) →
   ∀ K : Act → World → Prop, Shut (∀ a w, Inv (fun j => j = i ∨ L j) a w → K a w) → if Region.wanted o (yielded ops a.tmps) = true then Oper.wp P o a w K Q else K (a.put o.dst undef) w)
  (hdone : ∀ L a w, Inv L a w → (∀ i, i < ops.size → L i) → Q .normal a w) : (Code.region id ops true).wp P Q a w := by
 refine wp_region_any hm (wpAny_inv3 ht hstep hdone _ _ _ _ (by simp) (by unfold unl; exact Nat.le_trans List.countP_le_length (by simp)) ?_)
 have e : (fun j => (Array.replicate ops.size false).getD j false = true) = fun _ : Nat => False := by
  funext j
  simp [Array.getElem?_replicate]
  split <;> simp
 rw [e]
 exact h0
end
end Go.Proofs.YtchfhojighopkaaGreatDoor
namespace Go.Proofs.YtchfhojighopkaaGreatDoor
open Go.RowKit

theorem RowG.apart {e e' : TypeId} {m m' : Nat} {w : World} {B B' c c' : Nat} {ra ra' : Option Addr} {xs xs' : List (List Value)} (h : RowG e m w B ra c xs) (k : RowG e' m' w B' ra' c' xs') (hn : e' ≠ e) : ∀ i, rb ra i → ¬ rb ra' i := by
 rintro i hi ⟨a', rfl, rfl⟩
 rcases k.2.2 with ⟨h1, _⟩ | ⟨g, cap', cur, h1, _, h3, _⟩
 ·cases h1
 ·injection h1 with h1
  injection h1 with h1
  subst h1
  have hb : BoxIs w g cur e' := h3
  exact h.ne hb hn hi
/-- A row of one. -/
theorem RowG.one {e : TypeId} {m B g : Nat} {w : World} {row : List Value} (h : BoxIs w g row.toArray e) (hm : row.length = m) (hB : B ≤ g) : RowG e m w B (some ⟨g, 0, none⟩) 1 [row] := by
 refine ⟨fun r hr => by rw [List.mem_singleton.1 hr]; exact hm, ?_⟩
 unfold World.ownsRow
 refine ⟨by simp [hm], .inr ⟨g, 1, row.toArray, rfl, hB, h, ?_, ?_, ?_, ?_⟩⟩
 ·simp
 ·unfold maxLen; omega
 ·simp [hm]
 ·subst hm; simp
/-- b: the new row of one is there; a: it has been appended. -/
structure RowSt (e : TypeId) (m : Nat) (w : World) (r : Nat) (ra : Option Addr) (rc n : Nat) (rows : List (List Value)) (row : List Value) (b a : Prop) (vb va : Value) (W : World) : Prop where
 size : w.heap.size ≤ W.heap.size
 old : ¬ a → RowG e m W r ra rc rows
 one : b → ¬ a → ∃ g, vb = .slice (some ⟨g, 0, none⟩) 1 1 ∧ RowG e m W w.heap.size (some ⟨g, 0, none⟩) 1 [row]
 new : a → ∃ a' c', va = .slice a' (n + 1) c' ∧ RowG e m W r a' c' (rows ++ [row]) ∧ ∀ j, rb a' j → rb ra j ∨ w.heap.size ≤ j
section
variable {e : TypeId} {m : Nat} {w : World} {r : Nat} {ra : Option Addr} {rc n : Nat} {rows : List (List Value)} {row : List Value} {b a b' a' : Prop} {vb va vb' va' : Value} {W W' : World}
theorem RowSt.step {F : Nat → Prop} (h : RowSt e m w r ra rc n rows row b a vb va W) (hb : b' → b) (ha : a' ↔ a) (hvb : b' → vb' = vb) (hva : a' → va' = va) (hk : Kp F W W') (hF : ∀ B x c xs, RowG e m W B x c xs → ∀ i, rb x i → ¬ F i) : RowSt e m w r ra rc n rows row b' a' vb' va' W' := by
 refine ⟨Nat.le_trans h.size hk.size, fun q => ?_, fun q1 q2 => ?_, fun q => ?_⟩
 ·have := h.old (fun z => q (ha.2 z))
  exact this.kp hk (hF _ _ _ _ this)
 ·obtain ⟨g, h1, h2⟩ := h.one (hb q1) (fun z => q2 (ha.2 z))
  exact ⟨g, by rw [hvb q1]; exact h1, h2.kp hk (hF _ _ _ _ h2)⟩
 ·obtain ⟨a', c', h1, h2, h3⟩ := h.new (ha.1 q)
  exact ⟨a', c', by rw [hva q]; exact h1, h2.kp hk (hF _ _ _ _ h2), h3⟩
/-- Nothing but letters. -/
theorem RowSt.same (h : RowSt e m w r ra rc n rows row b a vb va W) (hb : b' → b) (ha : a' ↔ a) (hvb : b' → vb' = vb) (hva : a' → va' = va) : RowSt e m w r ra rc n rows row b' a' vb' va' W :=
 h.step (F := fun _ => False) hb ha hvb hva (Kp.refl _ _) (fun _ _ _ _ _ _ _ e => e)
/-- The row of one is built. -/
theorem RowSt.build (h : RowSt e m w r ra rc n rows row b a vb va W) (hrow : row.length = m) (ha : a' ↔ a) (hna : ¬ a) : RowSt e m w r ra rc n rows row b' a' (.slice (some ⟨W.heap.size, 0, none⟩) 1 1) va' (W.alloc (.cells row.toArray e)) := by
 have hb1 : Below W.heap.size W (W.alloc (.cells row.toArray e)) := bAlloc (Below.refl _ _) _
 have hx1 : BoxIs (W.alloc (.cells row.toArray e)) W.heap.size row.toArray e := heap_alloc_new _ _
 exact ⟨Nat.le_trans h.size hb1.size, fun _ => (h.old hna).kp (Kp.of (F := fun _ => False) hb1) (fun _ _ e => e), fun _ _ => ⟨_, rfl, RowG.one hx1 hrow h.size⟩, fun q => absurd (ha.1 q) hna⟩
/-- It has been appended. -/
theorem RowSt.done (hs : w.heap.size ≤ W.heap.size) (hk : W.heap.size ≤ W'.heap.size) {x : Option Addr} {c' : Nat} (h1 : RowG e m W' r x c' (rows ++ [row])) (h2 : ∀ j, rb x j → rb ra j ∨ W.heap.size ≤ j) (ha : a') : RowSt e m w r ra rc n rows row b' a' vb' (.slice x (n + 1) c') W' :=
 ⟨Nat.le_trans hs hk, fun q => absurd ha q, fun _ q => absurd ha q, fun _ => ⟨x, c', rfl, h1, fun j hj => (h2 j hj).imp id (fun h => Nat.le_trans hs h)⟩⟩
end
end Go.Proofs.YtchfhojighopkaaGreatDoor
