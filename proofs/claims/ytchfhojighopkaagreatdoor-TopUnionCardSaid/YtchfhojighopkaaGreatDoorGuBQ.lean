/-
  Parts of the proof: Uw1, Uw2, Uw3.
-/
import Derived.Test.YtchfhojighopkaaGreatDoorGuBN
import Derived.Test.YtchfhojighopkaaGreatDoorGuBB
namespace Go.Proofs.YtchfhojighopkaaGreatDoor
open Go.RowKit

/-- What the first loop reads: letters. -/
structure FilC where
 x0 : Int
 x1 : Int
 x2 : Int
 x3 : Int
 k0 : Nat
 k2 : Nat
 k3 : Nat
 bx : Nat
 mg : Nat
 mb : Nat
 p : ByteArray
/-- What the operations without an effect give. -/
def filPv (c : FilC) : Nat → Option Value
 | 0 => some (.slice (some ⟨c.mg, 0, none⟩) 2 2)
 | 1 => some (.pointer (some ⟨c.bx, 3, none⟩))
 | 2 => some (.int .i64 c.x3)
 | 3 => some (.int .u64 (IntKind.u64.wrap c.x3))
 | 4 => some (.int .u64 c.k3)
 | 5 => some (.pointer (some ⟨c.mg, c.k3, none⟩))
 | 6 => some (ptr c.mb)
 | 8 => some (.pointer (some ⟨c.bx, 0, none⟩))
 | 9 => some (.int .i64 c.x0)
 | 10 => some (.int .u64 (IntKind.u64.wrap c.x0))
 | 11 => some (.int .u64 c.k0)
 | 13 => some (.string c.p)
 | 14 => some (.pointer (some ⟨c.bx, 1, none⟩))
 | 15 => some (.int .i64 c.x1)
 | 17 => some (.pointer (some ⟨c.bx, 2, none⟩))
 | 18 => some (.int .i64 c.x2)
 | 19 => some (.int .u64 (IntKind.u64.wrap c.x2))
 | 20 => some (.int .u64 c.k2)
 | 21 => some (.int .i64 c.k2)
 | _ => none
abbrev filSl (k : Nat) : Nat := k + 79
abbrev xArr (c : FilC) : Array Value := #[.int .i64 c.x0, .int .i64 c.x1, .int .i64 c.x2, .int .i64 c.x3]
abbrev pqr : Array Value := #[.string ⟨#[112]⟩, .string ⟨#[113]⟩, .string ⟨#[114]⟩]
/-- What the drawn region of the first loop has done: L tells which operations have been carried out. -/
structure FilI (w0 : World) (S : Two) (N : Int) (X : Array Value) (xb : Nat) (c : FilC) (L : Nat → Prop) (V : Nat → Value) (W : World) : Prop where
 top : ¬ L 22 → TopS w0 S N X xb c.mg W
 fin : L 22 → ∃ S' : Two, S'.M = S.M ∧ TopS w0 S' (N + 1) X xb c.mg W
 bx : BoxIs W c.bx (xArr c) 33
 pv : ∀ k v, filPv c k = some v → L k → V (filSl k) = v
 row : L 7 → ∃ g, V 86 = .slice (some ⟨g, 0, none⟩) 3 3 ∧ (L 12 → V 91 = .pointer (some ⟨g, c.k0, none⟩)) ∧ (¬ L 22 → BoxIs W g pqr 9)
 dat : L 16 → ∃ d : ByteArray, V 95 = .string d ∧ d.size ≤ 1000
 d12 : L 12 → L 7
 d13 : L 13 → L 12
 d22 : L 22 → L 12 ∧ L 13 ∧ L 16
theorem filPv_ne {c : FilC} {k : Nat} {v : Value} (h : filPv c k = some v) : k ≠ 7 ∧ k ≠ 12 ∧ k ≠ 16 ∧ k ≠ 22 := by
 refine ⟨?_, ?_, ?_, ?_⟩ <;> (rintro rfl; cases h)
section
variable {w0 W W' : World} {S : Two} {N : Int} {X : Array Value} {xb : Nat} {c : FilC} {L : Nat → Prop} {V : Nat → Value}
theorem FilI.mem (h : FilI w0 S N X xb c L V W) {i : Nat} (hi : i < 2) : W.cell? ⟨c.mg, i, none⟩ = some (ptr (S.M (bOf i)).b) := by
 by_cases h2 : L 22
 ·obtain ⟨S', e, ht⟩ := h.fin h2
  have := ht.mem hi
  rwa [e] at this
 ·exact (h.top h2).mem hi
theorem addU_same {V : Nat → Value} {k : Nat} {v : Value} : addU V k v k = v := if_pos rfl
theorem addU_off {V : Nat → Value} {k s : Nat} {v : Value} (h : s ≠ k) : addU V k v s = V s := if_neg h
/-- An operation without an effect. -/
theorem FilI.pure (h : FilI w0 S N X xb c L V W) (k : Nat) (v : Value) (hp : filPv c k = some v) (s : Nat) (hs : s = filSl k) (h13 : k = 13 → L 12) : FilI w0 S N X xb c (fun j => j = k ∨ L j) (addU V s v) W := by
 obtain ⟨n7, n12, n16, n22⟩ := filPv_ne hp
 have e : ∀ j, j ≠ k → filSl j ≠ s := fun j hjk e => hjk (by unfold filSl at *; omega)
 have e7 : (86 : Nat) ≠ s := e 7 n7.symm
 have e12 : (91 : Nat) ≠ s := e 12 n12.symm
 have e16 : (95 : Nat) ≠ s := e 16 n16.symm
 refine ⟨fun q => h.top (fun z => q (.inr z)), fun q => h.fin (q.resolve_left n22.symm), h.bx, fun j q hj hl => ?_, fun q => ?_, fun q => ?_, fun q => .inr (h.d12 (q.resolve_left n12.symm)), fun q => q.elim (fun z => .inr (h13 z.symm)) (fun z => .inr (h.d13 z)), fun q => ?_⟩
 ·by_cases hjk : j = k
  ·subst hjk
   rw [hp] at hj
   injection hj with hj
   rw [hs]
   exact (if_pos rfl).trans hj
  ·rw [addU_off (e j hjk)]
   exact h.pv j q hj (hl.resolve_left hjk)
 ·obtain ⟨g, h1, h2, h3⟩ := h.row (q.resolve_left n7.symm)
  refine ⟨g, by rw [addU_off e7]; exact h1, fun z => by rw [addU_off e12]; exact h2 (z.resolve_left n12.symm), fun z => h3 (fun y => z (.inr y))⟩
 ·rw [addU_off e16]
  exact h.dat (q.resolve_left n16.symm)
 ·obtain ⟨a, b, c⟩ := h.d22 (q.resolve_left n22.symm)
  exact ⟨.inr a, .inr b, .inr c⟩
theorem FilI.keepV (h : FilI w0 S N X xb c L V W) {k : Nat} {v : Value} (hk : filPv c k = none) : ∀ j q, filPv c j = some q → j = k ∨ L j → addU V (filSl k) v (filSl j) = q := fun j q hj hl => by
 have hjk : j ≠ k := fun z => by rw [z, hk] at hj; cases hj
 rw [addU_off (by unfold filSl; omega)]
 exact h.pv j q hj (hl.resolve_left hjk)
/-- The row of names is built. -/
theorem FilI.s7 (h : FilI w0 S N X xb c L V W) (hn : ¬ L 7) : FilI w0 S N X xb c (fun j => j = 7 ∨ L j) (addU V 86 (.slice (some ⟨W.heap.size, 0, none⟩) 3 3)) (W.alloc (.cells pqr 9)) := by
 have n12 : ¬ L 12 := fun q => hn (h.d12 q)
 have n22 : ¬ L 22 := fun q => n12 (h.d22 q).1
 have hb : Below W.heap.size W (W.alloc (.cells pqr 9)) := bAlloc (Below.refl _ _) _
 refine ⟨fun _ => (h.top n22).below hb, fun q => absurd (q.resolve_left (by decide)) n22, h.bx.under hb, h.keepV rfl, fun _ => ⟨W.heap.size, addU_same, fun q => absurd (q.resolve_left (by decide)) n12, fun _ => heap_alloc_new _ _⟩, fun q => ?_, fun _ => .inl rfl, fun q => .inr (h.d13 (q.resolve_left (by decide))), fun q => absurd (q.resolve_left (by decide)) n22⟩
 rw [addU_off (by decide)]
 exact h.dat (q.resolve_left (by decide))
/-- The name's address. -/
theorem FilI.s12 (h : FilI w0 S N X xb c L V W) (h7 : L 7) {g : Nat} (hg : V 86 = .slice (some ⟨g, 0, none⟩) 3 3) : FilI w0 S N X xb c (fun j => j = 12 ∨ L j) (addU V 91 (.pointer (some ⟨g, c.k0, none⟩))) W := by
 refine ⟨fun q => h.top (fun z => q (.inr z)), fun q => h.fin (q.resolve_left (by decide)), h.bx, h.keepV rfl, fun _ => ?_, fun q => ?_, fun _ => .inr h7, fun _ => .inl rfl, fun q => ?_⟩
 ·obtain ⟨g', h1, _, h3⟩ := h.row h7
  rw [hg] at h1
  injection h1 with h1
  injection h1 with h1
  injection h1 with h1
  subst h1
  exact ⟨g, by rw [addU_off (by decide)]; exact hg, fun _ => addU_same, fun z => h3 (fun y => z (.inr y))⟩
 ·rw [addU_off (by decide)]
  exact h.dat (q.resolve_left (by decide))
 ·obtain ⟨a, b, c⟩ := h.d22 (q.resolve_left (by decide))
  exact ⟨.inr a, .inr b, .inr c⟩
/-- The text is made. -/
theorem FilI.s16 (h : FilI w0 S N X xb c L V W) (hn : ¬ L 16) {d : ByteArray} (hd : d.size ≤ 1000) (hb : Below W.heap.size W W') : FilI w0 S N X xb c (fun j => j = 16 ∨ L j) (addU V 95 (.string d)) W' := by
 have n22 : ¬ L 22 := fun q => hn (h.d22 q).2.2
 refine ⟨fun _ => (h.top n22).below hb, fun q => absurd (q.resolve_left (by decide)) n22, h.bx.under hb, h.keepV rfl, fun q => ?_, fun _ => ⟨d, addU_same, hd⟩, fun q => .inr (h.d12 (q.resolve_left (by decide))), fun q => .inr (h.d13 (q.resolve_left (by decide))), fun q => absurd (q.resolve_left (by decide)) n22⟩
 obtain ⟨g, h1, h2, h3⟩ := h.row (q.resolve_left (by decide))
 exact ⟨g, by rw [addU_off (by decide)]; exact h1, fun z => by rw [addU_off (by decide)]; exact h2 (z.resolve_left (by decide)), fun _ => (h3 n22).under hb⟩
/-- The file is put. -/
theorem FilI.s22 (h : FilI w0 S N X xb c L V W) (hn : ¬ L 22) (h12 : L 12) (h13 : L 13) (h16 : L 16) {S' : Two} (hs : Stp w0.heap.size S S' (N + 1) W W') (hbx : ¬ S.all c.bx) {v : Value} : FilI w0 S N X xb c (fun j => j = 22 ∨ L j) (addU V 101 v) W' := by
 refine ⟨fun q => absurd (.inl rfl) q, fun _ => ⟨S', hs.M, (h.top hn).stp hs⟩, h.bx.kp hs.kp (fun q => hbx (Two.foot_all q)), h.keepV rfl, fun q => ?_, fun q => ?_, fun q => .inr (h.d12 (q.resolve_left (by decide))), fun q => .inr (h.d13 (q.resolve_left (by decide))), fun _ => ⟨.inr h12, .inr h13, .inr h16⟩⟩
 ·obtain ⟨g, h1, h2, _⟩ := h.row (q.resolve_left (by decide))
  exact ⟨g, by rw [addU_off (by decide)]; exact h1, fun z => by rw [addU_off (by decide)]; exact h2 (z.resolve_left (by decide)), fun z => absurd (.inl rfl) z⟩
 ·rw [addU_off (by decide)]
  exact h.dat (q.resolve_left (by decide))
theorem filPut {T : Tabs} (hG : Gr w0 T) {i k2 : Nat} (hi : i < 15) (hk : k2 < 50) (b : Bool) {p : ByteArray} (hp : p ∈ nm4) {mb mg : Nat} (hm : (S.M b).b = mb) : ∀ W d, TopS w0 S i X xb mg W → d.size ≤ 1000 → Calls Tryz.prog 6 #[ptr mb, .string p, .string d, .int .i64 k2, .slice none 0 0] W fun e w' => (∃ v, e = .returned v) ∧ ∃ S', Stp w0.heap.size S S' (i + 1) W w' := fun W d hT hd => by
 rw [← hm]
 exact putT_J hG hT (by omega) b hp hd (by omega)
theorem pqr_at {k0 : Nat} (h : k0 < 3) : ∃ pn : ByteArray, (pqr)[k0]? = some (.string pn) ∧ pn ∈ nm4 := by
 match k0, h with
 | 0, _ => exact ⟨_, rfl, .tail _ (.head _)⟩
 | 1, _ => exact ⟨_, rfl, .tail _ (.tail _ (.head _))⟩
 | 2, _ => exact ⟨_, rfl, .tail _ (.tail _ (.tail _ (.head _)))⟩
end
end Go.Proofs.YtchfhojighopkaaGreatDoor
namespace Go.Proofs.YtchfhojighopkaaGreatDoor
open Go.RowKit

/-- A row of pairs, apart from the stores. -/
structure PairsR (S : Two) (W : World) (a : Option Addr) (ps : List (ByteArray × ByteArray)) : Prop where
 h : HoldsR W a 2 (ps.map pairRow)
 ap : ∀ i, rb a i → ¬ S.all i
 lt : ∀ i, rb a i → i < W.heap.size
 few : ps.length ≤ 4
/-- What contents gave of a member. -/
structure RowC where
 a : Option Addr
 c : Nat
 ps : List (ByteArray × ByteArray)
abbrev RowC.v (r : RowC) : Value := .slice r.a r.ps.length r.c
/-- Every pair of all lies in a member, every file of a member has its name in all. -/
def AllC (S : Two) (all : List (ByteArray × ByteArray)) : Prop := (∀ q ∈ all, ∃ b, RelF (S.s b) q.1 q.2) ∧ ∀ b k n, (S.s b).F [k] = some n → ∃ q ∈ all, q.1 = k
section
variable {w0 w w' : World} {S S' : Two} {N N' : Int} {B : Nat} {a : Option Addr} {ps us vs all : List (ByteArray × ByteArray)} {s : TSt} {b : Bool} {q : ByteArray × ByteArray}
theorem PairsR.kp {F : Nat → Prop} (h : PairsR S w a ps) (hk : Kp F w w') (hF : ∀ i, rb a i → ¬ F i) : PairsR S w' a ps :=
 ⟨h.h.kp hk (fun ad e => hF _ ⟨ad, e, rfl⟩), h.ap, fun i hi => Nat.lt_of_lt_of_le (h.lt i hi) hk.size, h.few⟩
theorem PairsR.asked (h : PairsR S w a ps) (hk : Kp S.foot w w') : PairsR S w' a ps := h.kp hk (fun i hi hf => h.ap i hi (Two.foot_all hf))
theorem PairsR.below (h : PairsR S w a ps) (hb : Below w.heap.size w w') : PairsR S w' a ps := h.kp (Kp.of (F := fun _ => False) hb) (fun _ _ e => e)
theorem PairsR.stp (h : PairsR S w a ps) (hs : Stp B S S' N' w w') : PairsR S' w' a ps := by
 have k := h.asked hs.kp
 exact ⟨k.h, fun i hi => hs.apart (h.lt i hi) (h.ap i hi), k.lt, k.few⟩
theorem PairsR.new {cap : Nat} {t : TypeId} (hg : RowG t 2 w' w.heap.size a cap (ps.map pairRow)) (hj : J w B S N) (hf : ps.length ≤ 4) : PairsR S w' a ps :=
 ⟨hg.holds (by decide), fun i hi ha => by have := hj.lt ha; have := (hg.base i hi).1; omega, fun i hi => (hg.base i hi).2, hf⟩
theorem ContL.mem_iff (hS : FlatS N s) (h : ContL s ps) : q ∈ ps ↔ RelF s q.1 q.2 := by
 obtain ⟨l, hl, rfl⟩ := h
 constructor
 ·intro hq
  obtain ⟨m, hm, rfl⟩ := List.mem_map.1 hq
  obtain ⟨k, hk⟩ := (hl.mem m).1 hm
  have hk' : s.F [k] = some m := hk
  refine ⟨m, ?_, rfl⟩
  show s.F [m.name] = some m
  rw [(hS.file hk').name]
  exact hk'
 ·rintro ⟨n, hn, hd⟩
  exact List.mem_map.2 ⟨n, (hl.mem n).2 ⟨q.1, hn⟩, Prod.ext (hS.file hn).name hd⟩
theorem AllC.named (h : AllC S all) (hS : FlatS N (S.s b)) (hc : ContL (S.s b) ps) (hf : q ∈ ps) : all.any (eq1 q) = true := by
 obtain ⟨n, hn, _⟩ := (hc.mem_iff hS).1 hf
 obtain ⟨g, hg, he⟩ := h.2 b q.1 n hn
 refine List.any_eq_true.2 ⟨g, hg, ?_⟩
 unfold eq1
 rw [he]
 exact beq_self_eq_true _
theorem AllC.one (h : AllC S all) (hS : ∀ b, FlatS N (S.s b)) (hu : ContL (S.s false) us) (hv : ContL (S.s true) vs) (hq : q ∈ all) : us.any (eqP q) = false → vs.any (eqP q) = true := by
 obtain ⟨b, hb⟩ := h.1 q hq
 intro hn
 cases b with
 | false =>
  have : us.any (eqP q) = true := List.any_eq_true.2 ⟨q, (hu.mem_iff (hS _)).2 hb, (eqP_iff _ _).2 rfl⟩
  rw [hn] at this
  cases this
 | true => exact List.any_eq_true.2 ⟨q, (hv.mem_iff (hS _)).2 hb, (eqP_iff _ _).2 rfl⟩
end
/-- The stores, the union, the rows of contents. -/
structure Told (w0 : World) (S : Two) (N : Int) (X : Array Value) (xb mg : Nat) (u : UB) (R : Bool → RowC) (W : World) : Prop where
 t : TopS w0 S N X xb mg W
 u : UAt W S u
 r : ∀ b, PairsR S W (R b).a (R b).ps
abbrev pqrn : Array Value := #[.string ⟨#[112]⟩, .string ⟨#[113]⟩, .string ⟨#[114]⟩, .string ⟨#[110, 101, 119]⟩]
theorem pqrn_at {k0 : Nat} (h : k0 < 4) : ∃ pn : ByteArray, (pqrn)[k0]? = some (.string pn) ∧ pn ∈ nm4 := by
 match k0, h with
 | 0, _ => exact ⟨_, rfl, .tail _ (.head _)⟩
 | 1, _ => exact ⟨_, rfl, .tail _ (.tail _ (.head _))⟩
 | 2, _ => exact ⟨_, rfl, .tail _ (.tail _ (.tail _ (.head _)))⟩
 | 3, _ => exact ⟨_, rfl, .head _⟩
section
variable {w0 w w' : World} {S S' : Two} {N N' : Int} {X : Array Value} {xb mg : Nat} {u : UB} {R : Bool → RowC} {B L : Nat}
theorem Told.inv (h : Told w0 S N X xb mg u R w) : InvU w0 S N u w := ⟨h.t.j, h.t.bel, h.u⟩
theorem Told.invJ (h : Told w0 S N X xb mg u R w) : InvJ w0 S N w.heap.size w := ⟨h.t.j, h.t.bel, Nat.le_refl _⟩
theorem Told.below (h : Told w0 S N X xb mg u R w) (hb : Below w.heap.size w w') : Told w0 S N X xb mg u R w' := ⟨h.t.below hb, h.u.below hb, fun b => (h.r b).below hb⟩
theorem Told.asked (h : Told w0 S N X xb mg u R w) (hj : InvJ w0 S N L w') (hk : Kp S.foot w w') : Told w0 S N X xb mg u R w' := ⟨h.t.asked hj hk, h.u.asked hk, fun b => (h.r b).asked hk⟩
theorem Told.stp (h : Told w0 S N X xb mg u R w) (hs : Stp w0.heap.size S S' N' w w') : Told w0 S' N' X xb mg u R w' := ⟨h.t.stp hs, h.u.stp hs, fun b => (h.r b).stp hs⟩
theorem BoxIs.rows2 {g : Nat} {t : TypeId} {x y : Value} (h : BoxIs w g #[x, y] t) : HoldsR w (some ⟨g, 0, none⟩) 1 [[x], [y]] := by
 refine .inr ⟨g, 0, rfl, h.lt, fun k row hk j v hv => ?_⟩
 match k, hk with
 | 0, hk =>
  injection hk with hk
  subst hk
  match j, hv with
  | 0, hv =>
   injection hv with hv
   subst hv
   exact h.cell (j := 0) rfl
 | 1, hk =>
  injection hk with hk
  subst hk
  match j, hv with
  | 0, hv =>
   injection hv with hv
   subst hv
   exact h.cell (j := 1) rfl
theorem BoxIs.rows1 {g : Nat} {t : TypeId} {x : Value} (h : BoxIs w g #[x] t) : HoldsR w (some ⟨g, 0, none⟩) 1 [[x]] := by
 refine .inr ⟨g, 0, rfl, h.lt, fun k row hk j v hv => ?_⟩
 match k, hk with
 | 0, hk =>
  injection hk with hk
  subst hk
  match j, hv with
  | 0, hv =>
   injection hv with hv
   subst hv
   exact h.cell (j := 0) rfl
/-- The union of the two stores. -/
theorem unionT (h : TopS w0 S N X xb mg w) {cr ch se : Int} {fx : List Int} {fa : Option Addr} {fc k m0 m1 : Nat} (hX : HoldsR w0 fa 1 (fx.map fun n => [Value.int .i64 n])) (hfa : fa = none → fx.length = 0) (hk : fx.length = k) (h0 : (S.M false).b = m0) (h1 : (S.M true).b = m1) {g : Nat} {t : TypeId} (hb : BoxIs w g #[.iface 28 (ptr m0), .iface 28 (ptr m1)] t) :
  Calls Tryz.prog 8 #[.slice (some ⟨g, 0, none⟩) 2 2, .agg (specArr cr ch se fa k fc)] w (UnionP S cr ch se fx w) := by
 subst h0 h1 hk
 exact union2_any h.j hb.rows2 (hX.under h.bel) hfa
/-- The union of the first store alone. -/
theorem union1T (h : TopS w0 S N X xb mg w) {cr ch se : Int} (hp : polOk cr ch se = true) {m0 : Nat} (h0 : (S.M false).b = m0) {g : Nat} {t : TypeId} (hb : BoxIs w g #[.iface 28 (ptr m0)] t) :
  Calls Tryz.prog 8 #[.slice (some ⟨g, 0, none⟩) 1 1, .agg #[.int .i64 cr, .int .i64 ch, .int .i64 se, .slice none 0 0]] w (Union1P S false w) := by
 subst h0
 exact union1_any h.j false hb.rows1 hp
/-- What a call of Put or Remove through the union does. -/
theorem Told.moved (h : Told w0 S N X xb mg u R w) (hm : Moved w0 S N u w w') : ∃ (S' : Two) (N' : Int), S'.M = S.M ∧ Told w0 S' N' X xb mg u R w' ∧ N ≤ N' ∧ N' ≤ N + 2 ∧ ∀ i, i < 2 → u.isFix i = true → S'.s (bOf i) = S.s (bOf i) := by
 obtain ⟨S', N', hs, h1, h2, h3⟩ := hm
 exact ⟨S', N', hs.M, h.stp hs, h1, h2, h3⟩
theorem rowsAt {g : Nat} {t : TypeId} {ua va : Option Addr} {uc vc : Nat} {us vs : List (ByteArray × ByteArray)} (h0 : R false = ⟨ua, uc, us⟩) (h1 : R true = ⟨va, vc, vs⟩) (hb : BoxIs w g #[.slice ua us.length uc, .slice va vs.length vc] t) {i : Nat} (hi : i < 2) :
  ∃ la lc ls, R (bOf i) = ⟨la, lc, ls⟩ ∧ w.cell? ⟨g, i, none⟩ = some (.slice la ls.length lc) := by
 match i, hi with
 | 0, _ => exact ⟨ua, uc, us, h0, hb.cell (j := 0) rfl⟩
 | 1, _ => exact ⟨va, vc, vs, h1, hb.cell (j := 1) rfl⟩
theorem containsFnT {a : Option Addr} {xs : List (ByteArray × ByteArray)} {n c fb : Nat} (h : PairsR S w a xs) (hn : xs.length = n) (hb : Below w.heap.size w w') {f : ByteArray × ByteArray} (hf : BoxIs w' fb #[.string f.1, .string f.2] 53) :
  Calls Tryz.prog 10 #[.slice a n c, .func (.func 11) #[] #[ptr fb]] w' fun e w2 => e = .returned (.bool (xs.any (eq1 f))) ∧ Below w'.heap.size w' w2 := by
 subst hn
 exact containsFn_any xs a c f fb w' (h.h.under hb) (by have := h.few; omega) hf
theorem containsT {a : Option Addr} {xs : List (ByteArray × ByteArray)} {n c : Nat} (h : PairsR S w a xs) (hn : xs.length = n) (hb : Below w.heap.size w w') (v : ByteArray × ByteArray) :
  Calls Tryz.prog 12 #[.slice a n c, pairVal v] w' fun e w2 => e = .returned (.bool (xs.any (eqP v))) ∧ Below w'.heap.size w' w2 := by
 subst hn
 exact containsP_any xs a c v w' (h.h.under hb) (by have := h.few; omega)
theorem equalT {a b : Option Addr} {xs ys : List (ByteArray × ByteArray)} {n m c d : Nat} (h : PairsR S w a xs) (k : PairsR S' w b ys) (he : xs = ys) (hn : xs.length = n) (hm : ys.length = m) :
  Calls Tryz.prog 13 #[.slice a n c, .slice b m d] w fun e w2 => e = .returned (.bool true) ∧ Below w.heap.size w w2 := by
 subst hn hm he
 exact equalP_any xs a b c d w h.h k.h (by have := h.few; omega)
theorem fixedT {fx : List Int} {fa : Option Addr} {k fc : Nat} (hX : HoldsR w0 fa 1 (fx.map fun n => [Value.int .i64 n])) (hk : fx.length = k) (hu : u.fx = fx) (h2 : u.fx.length ≤ 2) (hb : Below w0.heap.size w0 w) (i : Nat) :
  Calls Tryz.prog 14 #[.slice fa k fc, .int .i64 i] w fun e w' => e = .returned (.bool (u.isFix i)) ∧ w' = w := by
 subst hk
 unfold UB.isFix
 rw [hu]
 exact containsInt_any (hX.under hb) (by rw [← hu]; omega) i
theorem PairsR.row {a : Option Addr} {ps : List (ByteArray × ByteArray)} (h : PairsR S w a ps) (hb : Below w.heap.size w w') {q : Nat} {f : ByteArray × ByteArray} (hf : ps[q]? = some f) :
  ∃ ba off, a = some ⟨ba, off, none⟩ ∧ w'.cell? ⟨ba, off + q * 2, none⟩ = some (.string f.1) ∧ w'.cell? ⟨ba, off + q * 2 + 1, none⟩ = some (.string f.2) := by
 obtain ⟨ba, off, h1, _, hc⟩ := (h.h.under hb).at (k := q) (row := pairRow f) (by rw [List.getElem?_map, hf]; rfl)
 exact ⟨ba, off, h1, hc 0 _ rfl, hc 1 _ rfl⟩
theorem Told.at (h : Told w0 S N X xb mg u R w) {j : Nat} {la : Option Addr} {lc : Nat} {ls : List (ByteArray × ByteArray)} (hR : R (bOf j) = ⟨la, lc, ls⟩) : PairsR S w la ls := by
 have := h.r (bOf j)
 rw [hR] at this
 exact this
/-- Each pair of a member has its name in the union. -/
theorem namedT (hj : J w B S N) {aa la : Option Addr} {ac lc na fb : Nat} {all ls : List (ByteArray × ByteArray)} (hA : PairsR S w aa all) (hn : all.length = na) (hAl : AllC S all) (hC : ∀ b, ContL (S.s b) (R b).ps) {j q : Nat} (hR : R (bOf j) = ⟨la, lc, ls⟩) {f : ByteArray × ByteArray} (hf : ls[q]? = some f) (hb : Below w.heap.size w w') (hx : BoxIs w' fb #[.string f.1, .string f.2] 53) :
  Calls Tryz.prog 10 #[.slice aa na ac, .func (.func 11) #[] #[ptr fb]] w' fun e w2 => e = .returned (.bool true) ∧ Below w'.heap.size w' w2 := by
 have h := containsFnT (c := ac) hA hn hb hx
 have hc := hC (bOf j)
 rw [hR] at hc
 rwa [hAl.named (hj.flat (bOf j)) hc (List.mem_of_getElem? hf)] at h
/-- What a change through the union leaves. -/
def ChgT (w0 : World) (S : Two) (N : Int) (X : Array Value) (xb mg : Nat) (u : UB) (R : Bool → RowC) (e : Ending) (w' : World) : Prop :=
 (∃ v, e = .returned v) ∧ ∃ (S' : Two) (N' : Int), S'.M = S.M ∧ Told w0 S' N' X xb mg u R w' ∧ N' ≤ N + 2 ∧ ∀ i, i < 2 → u.isFix i = true → S'.s (bOf i) = S.s (bOf i)
theorem removeT {T : Tabs} {p : ByteArray} (hG : Gr w0 T) (h : Told w0 S N X xb mg u R w) (hp : p ∈ nm4) :
  Calls Tryz.prog 223 #[ptr u.b, .string p] w (ChgT w0 S N X xb mg u R) := by
 refine (removeU_any hG h.inv hp).mono ?_
 rintro e w' ⟨⟨z, rfl⟩, hm⟩
 obtain ⟨S', N', h1, h2, _, h3, h4⟩ := h.moved hm
 exact ⟨⟨_, rfl⟩, S', N', h1, h2, h3, h4⟩
theorem putT {T : Tabs} {p d : ByteArray} (hG : Gr w0 T) (h : Told w0 S N X xb mg u R w) (hN : N ≤ 900) (hp : p ∈ nm4) (hd : d.size ≤ 1000) :
  Calls Tryz.prog 222 #[ptr u.b, .string p, .string d, .int .i64 60, .slice none 0 0] w (ChgT w0 S N X xb mg u R) := by
 refine (putU_any hG h.inv hN hp hd (by decide)).mono ?_
 rintro e w' ⟨⟨x, z, rfl⟩, hm⟩
 obtain ⟨S', N', h1, h2, _, h3, h4⟩ := h.moved hm
 exact ⟨⟨_, rfl⟩, S', N', h1, h2, h3, h4⟩
theorem uniM_put (w : World) (n : Nat) (v : Value) (hn : 0 < n) : (method n 85 v "Put").run Tryz.prog w = .ok (222, v) w := by
 obtain ⟨i, hi, hm⟩ := Option.map_eq_some_iff.1 (show (Tryz.prog.info? 85).map (fun i => (i.methods.find? (·.name == "Put")).map (fun m => (m.path.toList, m.func))) = some (some ([], some (222, true))) by kernel_rfl)
 exact method_ptr hi hm Tryz.underlying85 hn v
theorem uniM_remove (w : World) (n : Nat) (v : Value) (hn : 0 < n) : (method n 85 v "Remove").run Tryz.prog w = .ok (223, v) w := by
 obtain ⟨i, hi, hm⟩ := Option.map_eq_some_iff.1 (show (Tryz.prog.info? 85).map (fun i => (i.methods.find? (·.name == "Remove")).map (fun m => (m.path.toList, m.func))) = some (some ([], some (223, true))) by kernel_rfl)
 exact method_ptr hi hm Tryz.underlying85 hn v
end
end Go.Proofs.YtchfhojighopkaaGreatDoor
namespace Go.Proofs.YtchfhojighopkaaGreatDoor
open Go.RowKit

/-- What the region of Put reads: letters. -/
structure PuwC where
 bx : Nat
 ub : Nat
 y0 : Int
 y1 : Int
 y2 : Int
 p : ByteArray
/-- What the operations without an effect give. -/
def putPv (c : PuwC) : Nat → Option Value
 | 0 => some (.iface 85 (ptr c.ub))
 | 1 => some (.string c.p)
 | 2 => some (.pointer (some ⟨c.bx, 1, none⟩))
 | 3 => some (.int .i64 c.y1)
 | 5 => some (.func (.method "Put") #[.iface 85 (ptr c.ub)] #[])
 | 6 => some (.func (.method "Put") #[.iface 85 (ptr c.ub)] #[])
 | 7 => some (.iface 85 (ptr c.ub))
 | _ => none
abbrev putSl (k : Nat) : Nat := k + 223
abbrev yArr (c : PuwC) : Array Value := #[.int .i64 c.y0, .int .i64 c.y1, .int .i64 c.y2]
/-- What the drawn region of Put has done: L tells which operations have been carried out. -/
structure PuwI (w0 : World) (S : Two) (N : Int) (X : Array Value) (xb mg : Nat) (u : UB) (R : Bool → RowC) (c : PuwC) (L : Nat → Prop) (V : Nat → Value) (W : World) : Prop where
 told : ¬ L 8 → Told w0 S N X xb mg u R W
 fin : L 8 → ∃ (S' : Two) (N' : Int), S'.M = S.M ∧ Told w0 S' N' X xb mg u R W ∧ N' ≤ N + 2 ∧ ∀ i, i < 2 → u.isFix i = true → S'.s (bOf i) = S.s (bOf i)
 bx : ¬ L 8 → BoxIs W c.bx (yArr c) 58
 pv : ∀ k v, putPv c k = some v → L k → V (putSl k) = v
 dat : L 4 → ∃ d : ByteArray, V 227 = .string d ∧ d.size ≤ 1000
 d4 : L 4 → L 3
 d8 : L 8 → L 4
theorem putPv_ne {c : PuwC} {k : Nat} {v : Value} (h : putPv c k = some v) : k ≠ 4 ∧ k ≠ 8 := by
 refine ⟨?_, ?_⟩ <;> (rintro rfl; cases h)
section
variable {w0 W W' : World} {S : Two} {N : Int} {X : Array Value} {xb mg : Nat} {u : UB} {R : Bool → RowC} {c : PuwC} {L : Nat → Prop} {V : Nat → Value}
/-- An operation without an effect. -/
theorem PuwI.pure (h : PuwI w0 S N X xb mg u R c L V W) (k : Nat) (v : Value) (hp : putPv c k = some v) (s : Nat) (hs : s = putSl k) : PuwI w0 S N X xb mg u R c (fun j => j = k ∨ L j) (addU V s v) W := by
 obtain ⟨n4, n8⟩ := putPv_ne hp
 refine ⟨fun q => h.told (fun z => q (.inr z)), fun q => h.fin (q.resolve_left n8.symm), fun q => h.bx (fun z => q (.inr z)), fun j q hj hl => ?_, fun q => ?_, fun q => .inr (h.d4 (q.resolve_left n4.symm)), fun q => .inr (h.d8 (q.resolve_left n8.symm))⟩
 ·by_cases hjk : j = k
  ·subst hjk
   rw [hp] at hj
   injection hj with hj
   rw [hs]
   exact (if_pos rfl).trans hj
  ·rw [addU_off (by rw [hs]; unfold putSl; omega)]
   exact h.pv j q hj (hl.resolve_left hjk)
 ·rw [addU_off (by rw [hs]; unfold putSl; omega)]
  exact h.dat (q.resolve_left n4.symm)
theorem PuwI.keepV (h : PuwI w0 S N X xb mg u R c L V W) {k : Nat} {v : Value} (hk : putPv c k = none) : ∀ j q, putPv c j = some q → j = k ∨ L j → addU V (putSl k) v (putSl j) = q := fun j q hj hl => by
 have hjk : j ≠ k := fun z => by rw [z, hk] at hj; cases hj
 rw [addU_off (by unfold putSl; omega)]
 exact h.pv j q hj (hl.resolve_left hjk)
/-- The text is made. -/
theorem PuwI.s4 (h : PuwI w0 S N X xb mg u R c L V W) (hn : ¬ L 4) (h3 : L 3) {d : ByteArray} (hd : d.size ≤ 1000) (hb : Below W.heap.size W W') : PuwI w0 S N X xb mg u R c (fun j => j = 4 ∨ L j) (addU V 227 (.string d)) W' := by
 have n8 : ¬ L 8 := fun q => hn (h.d8 q)
 exact ⟨fun _ => (h.told n8).below hb, fun q => absurd (q.resolve_left (by decide)) n8, fun _ => (h.bx n8).under hb, h.keepV rfl, fun _ => ⟨d, addU_same, hd⟩, fun _ => .inr h3, fun q => absurd (q.resolve_left (by decide)) n8⟩
/-- The file is put. -/
theorem PuwI.s8 (h : PuwI w0 S N X xb mg u R c L V W) (h4 : L 4) (hs : ∃ (S' : Two) (N' : Int), S'.M = S.M ∧ Told w0 S' N' X xb mg u R W' ∧ N' ≤ N + 2 ∧ ∀ i, i < 2 → u.isFix i = true → S'.s (bOf i) = S.s (bOf i)) {v : Value} : PuwI w0 S N X xb mg u R c (fun j => j = 8 ∨ L j) (addU V 231 v) W' := by
 refine ⟨fun q => absurd (.inl rfl) q, fun _ => hs, fun q => absurd (.inl rfl) q, h.keepV rfl, fun q => ?_, fun q => .inr (h.d4 (q.resolve_left (by decide))), fun _ => .inr h4⟩
 rw [addU_off (by decide)]
 exact h.dat (q.resolve_left (by decide))
theorem uniA_put (w : World) (n : Nat) (v : Value) (hn : 0 < n) : (nilAhead n 85 v "Put").run Tryz.prog w = .ok (some false) w := by
 obtain ⟨i, hi, hm⟩ := Option.map_eq_some_iff.1 (show (Tryz.prog.info? 85).map (fun i => (i.methods.find? (·.name == "Put")).map (fun m => (m.path.toList, m.func))) = some (some ([], some (222, true))) by kernel_rfl)
 obtain ⟨k, rfl⟩ : ∃ k, n = k + 1 := ⟨n - 1, by omega⟩
 cases h : i.methods.find? (·.name == "Put") with
 | none => rw [h] at hm; cases hm
 | some m =>
  rw [h] at hm
  simp only [Option.map_some, Option.some.injEq, Prod.mk.injEq] at hm
  unfold nilAhead
  simp [typeInfo, hi, h, followBlind, hm.1, hm.2]
end
end Go.Proofs.YtchfhojighopkaaGreatDoor
