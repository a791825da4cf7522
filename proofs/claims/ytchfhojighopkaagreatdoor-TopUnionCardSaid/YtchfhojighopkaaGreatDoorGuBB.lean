/-
  Parts of the proof: Uc3.
-/
import Derived.Test.YtchfhojighopkaaGreatDoorGuBA
namespace Go.Proofs.YtchfhojighopkaaGreatDoor
open Go.RowKit

/-- A box of what members tell. -/
structure SeenB (w : World) (r b : Nat) (ns : List Nat) (xs : List InfS) (na : Option Addr) (nc : Nat) (ia : Option Addr) (ic : Nat) : Prop where
 box : BoxIs w b #[.slice na ns.length nc, .slice ia xs.length ic] 296
 sl : SeenR w r ns xs na nc ia ic
/-- What add reads: letters. -/
structure AddC where
 b : Nat
 bx : Nat
 n : Nat
 nc : Nat
 ic : Nat
 na : Option Addr
 ia : Option Addr
 i : Nat
 row : List Value
 nums : List (List Value)
 rows : List (List Value)
 r : Nat
abbrev addU (V : Nat → Value) (k : Nat) (v : Value) : Nat → Value := fun s => if s = k then v else V s
abbrev addSl (k : Nat) : Nat := if k < 18 then k + 22 else k + 21
/-- What the operations without an effect give. -/
def addPv (c : AddC) : Nat → Option Value
 | 0 => some (ptr c.b)
 | 1 => some (ptr c.b)
 | 2 => some (ptr c.b)
 | 3 => some (ptr c.b)
 | 4 => some (.pointer (some ⟨c.b, 0, none⟩))
 | 5 => some (.slice c.na c.n c.nc)
 | 6 => some (.int .i64 c.i)
 | 9 => some (ptr c.b)
 | 10 => some (ptr c.b)
 | 11 => some (.pointer (some ⟨c.b, 1, none⟩))
 | 12 => some (.slice c.ia c.n c.ic)
 | 13 => some (.agg c.row.toArray)
 | 16 => some (ptr c.b)
 | 17 => some (.pointer (some ⟨c.b, 0, none⟩))
 | 19 => some (ptr c.b)
 | 20 => some (.pointer (some ⟨c.b, 1, none⟩))
 | _ => none
/-- What the second region of add has done: L tells which operations have been carried out. -/
structure AddI (w : World) (c : AddC) (L : Nat → Prop) (V : Nat → Value) (W : World) : Prop where
 kp : Kp (fun j => j = c.b ∨ rb c.na j ∨ rb c.ia j) w W
 xb : BoxIs W c.bx c.row.toArray 37
 box : ∃ X Y, BoxIs W c.b #[X, Y] 296 ∧ (¬ L 18 → X = .slice c.na c.n c.nc) ∧ (¬ L 21 → Y = .slice c.ia c.n c.ic) ∧ (L 18 → X = V 30) ∧ (L 21 → Y = V 37)
 pv : ∀ k v, addPv c k = some v → L k → V (addSl k) = v
 rn : RowSt 3 1 w c.r c.na c.nc c.n c.nums [.int .i64 c.i] (L 7) (L 8) (V 29) (V 30) W
 rx : RowSt 37 7 w c.r c.ia c.ic c.n c.rows c.row (L 14) (L 15) (V 36) (V 37) W
 d8 : L 8 → L 5 ∧ L 7
 d15 : L 15 → L 12 ∧ L 14
 d18 : L 18 → L 8 ∧ L 15
 d21 : L 21 → L 8 ∧ L 15
theorem addPv_ne {c : AddC} {k : Nat} {v : Value} (h : addPv c k = some v) : k ≠ 7 ∧ k ≠ 8 ∧ k ≠ 14 ∧ k ≠ 15 ∧ k ≠ 18 ∧ k ≠ 21 := by
 refine ⟨?_, ?_, ?_, ?_, ?_, ?_⟩ <;> (rintro rfl; cases h)
theorem addSl_inj {j k : Nat} (hj : j ≠ 18) (hk : k ≠ 18) (h : addSl j = addSl k) : j = k := by
 unfold addSl at h
 split at h <;> split at h <;> omega
section
variable {w W W' : World} {c : AddC} {L : Nat → Prop} {V : Nat → Value}
/-- One more operation has been carried out. -/
theorem AddI.next (h : AddI w c L V W) {k : Nat} {V' : Nat → Value} (hpv : ∀ j q, addPv c j = some q → j = k ∨ L j → V' (addSl j) = q)
  (hkp : Kp (fun j => j = c.b ∨ rb c.na j ∨ rb c.ia j) w W') (hxb : BoxIs W' c.bx c.row.toArray 37)
  (hbox : ∃ X Y, BoxIs W' c.b #[X, Y] 296 ∧ (¬ (18 = k ∨ L 18) → X = .slice c.na c.n c.nc) ∧ (¬ (21 = k ∨ L 21) → Y = .slice c.ia c.n c.ic) ∧ (18 = k ∨ L 18 → X = V' 30) ∧ (21 = k ∨ L 21 → Y = V' 37))
  (hrn : RowSt 3 1 w c.r c.na c.nc c.n c.nums [.int .i64 c.i] (7 = k ∨ L 7) (8 = k ∨ L 8) (V' 29) (V' 30) W')
  (hrx : RowSt 37 7 w c.r c.ia c.ic c.n c.rows c.row (14 = k ∨ L 14) (15 = k ∨ L 15) (V' 36) (V' 37) W')
  (d8 : k = 8 → L 5 ∧ L 7) (d15 : k = 15 → L 12 ∧ L 14) (d18 : k = 18 → L 8 ∧ L 15) (d21 : k = 21 → L 8 ∧ L 15) :
  AddI w c (fun j => j = k ∨ L j) V' W' := by
 refine ⟨hkp, hxb, hbox, hpv, hrn, hrx, fun q => ?_, fun q => ?_, fun q => ?_, fun q => ?_⟩
 ·rcases q with q | q
  ·exact ⟨.inr (d8 q.symm).1, .inr (d8 q.symm).2⟩
  ·exact ⟨.inr (h.d8 q).1, .inr (h.d8 q).2⟩
 ·rcases q with q | q
  ·exact ⟨.inr (d15 q.symm).1, .inr (d15 q.symm).2⟩
  ·exact ⟨.inr (h.d15 q).1, .inr (h.d15 q).2⟩
 ·rcases q with q | q
  ·exact ⟨.inr (d18 q.symm).1, .inr (d18 q.symm).2⟩
  ·exact ⟨.inr (h.d18 q).1, .inr (h.d18 q).2⟩
 ·rcases q with q | q
  ·exact ⟨.inr (d21 q.symm).1, .inr (d21 q.symm).2⟩
  ·exact ⟨.inr (h.d21 q).1, .inr (h.d21 q).2⟩
theorem addPv_sl {c : AddC} {j s : Nat} {q : Value} (hj : addPv c j = some q) (hs : s = 29 ∨ s = 30 ∨ s = 36 ∨ s = 37) : addSl j ≠ s := by
 obtain ⟨n7, n8, n14, n15, n18, n21⟩ := addPv_ne hj
 unfold addSl
 split <;> omega
theorem AddI.keepV (h : AddI w c L V W) {k s : Nat} {v : Value} (hk : addPv c k = none) (hs : s = 29 ∨ s = 30 ∨ s = 36 ∨ s = 37) : ∀ j q, addPv c j = some q → j = k ∨ L j → addU V s v (addSl j) = q := fun j q hj hl => by
 have e : addU V s v (addSl j) = V (addSl j) := if_neg (addPv_sl hj hs)
 rw [e]
 refine h.pv j q hj (hl.resolve_left (fun z => ?_))
 rw [z, hk] at hj
 cases hj
theorem addU_ne {V : Nat → Value} {k s : Nat} {v : Value} (h : s ≠ k) : addU V k v s = V s := if_neg h
/-- The box is as it was. -/
theorem AddI.bx (h : AddI w c L V W) {F : Nat → Prop} {k : Nat} {V' : Nat → Value} (hk : Kp F W W') (hF : ¬ F c.b) (n18 : 18 ≠ k) (n21 : 21 ≠ k) (h30 : L 18 → V' 30 = V 30) (h37 : L 21 → V' 37 = V 37) :
  ∃ X Y, BoxIs W' c.b #[X, Y] 296 ∧ (¬ (18 = k ∨ L 18) → X = .slice c.na c.n c.nc) ∧ (¬ (21 = k ∨ L 21) → Y = .slice c.ia c.n c.ic) ∧ (18 = k ∨ L 18 → X = V' 30) ∧ (21 = k ∨ L 21 → Y = V' 37) := by
 obtain ⟨X, Y, h1, h2, h3, h4, h5⟩ := h.box
 refine ⟨X, Y, h1.kp hk hF, fun q => h2 (fun z => q (.inr z)), fun q => h3 (fun z => q (.inr z)), fun q => ?_, fun q => ?_⟩
 ·have q := q.resolve_left n18
  rw [h30 q]
  exact h4 q
 ·have q := q.resolve_left n21
  rw [h37 q]
  exact h5 q
/-- An operation without an effect. -/
theorem AddI.pure (h : AddI w c L V W) (k : Nat) (v : Value) (hp : addPv c k = some v) (s : Nat) (hs : s = addSl k) : AddI w c (fun j => j = k ∨ L j) (addU V s v) W := by
 obtain ⟨n7, n8, n14, n15, n18, n21⟩ := addPv_ne hp
 have e : ∀ j, j ≠ 18 → j ≠ k → addSl j ≠ s := fun j hj hjk e => hjk (addSl_inj hj n18 (e.trans hs))
 have e29 : (29 : Nat) ≠ s := e 7 (by decide) n7.symm
 have e30 : (30 : Nat) ≠ s := e 8 (by decide) n8.symm
 have e36 : (36 : Nat) ≠ s := e 14 (by decide) n14.symm
 have e37 : (37 : Nat) ≠ s := e 15 (by decide) n15.symm
 refine h.next (fun j q hj hl => ?_) h.kp h.xb (h.bx (F := fun _ => False) (Kp.refl _ _) (fun q => q) n18.symm n21.symm (fun _ => addU_ne e30) (fun _ => addU_ne e37)) ?_ ?_ (fun q => absurd q n8) (fun q => absurd q n15) (fun q => absurd q n18) (fun q => absurd q n21)
 ·by_cases hjk : j = k
  ·subst hjk
   rw [hp] at hj
   injection hj with hj
   rw [hs]
   exact (if_pos rfl).trans hj
  ·have e1 : addU V s v (addSl j) = V (addSl j) := if_neg (e j (addPv_ne hj).2.2.2.2.1 hjk)
   rw [e1]
   exact h.pv j q hj (hl.resolve_left hjk)
 ·rw [addU_ne e29, addU_ne e30]
  exact h.rn.same (fun q => q.resolve_left n7.symm) ⟨fun q => q.resolve_left n8.symm, .inr⟩ (fun _ => rfl) (fun _ => rfl)
 ·rw [addU_ne e36, addU_ne e37]
  exact h.rx.same (fun q => q.resolve_left n14.symm) ⟨fun q => q.resolve_left n15.symm, .inr⟩ (fun _ => rfl) (fun _ => rfl)
/-- The row of one number is built. -/
theorem AddI.s7 (h : AddI w c L V W) (hn : ¬ L 7) : AddI w c (fun j => j = 7 ∨ L j) (addU V 29 (.slice (some ⟨W.heap.size, 0, none⟩) 1 1)) (W.alloc (.cells #[.int .i64 c.i] 3)) := by
 have hb : Below W.heap.size W (W.alloc (.cells #[.int .i64 c.i] 3)) := bAlloc (Below.refl _ _) _
 have n8 : ¬ L 8 := fun q => hn (h.d8 q).2
 refine h.next (h.keepV rfl (by decide)) (h.kp.trans (Kp.of hb)) (h.xb.under hb) (h.bx (F := fun _ => False) (Kp.of hb) (fun q => q) (by decide) (by decide) (fun _ => addU_ne (by decide)) (fun _ => addU_ne (by decide))) ?_ ?_ (fun q => by cases q) (fun q => by cases q) (fun q => by cases q) (fun q => by cases q)
 ·exact h.rn.build rfl ⟨fun q => q.resolve_left (by decide), .inr⟩ n8
 ·rw [addU_ne (by decide), addU_ne (by decide)]
  exact h.rx.step (F := fun _ => False) (fun q => q.resolve_left (by decide)) ⟨fun q => q.resolve_left (by decide), .inr⟩ (fun _ => rfl) (fun _ => rfl) (Kp.of hb) (fun _ _ _ _ _ _ _ e => e)
/-- The row of one info is built. -/
theorem AddI.s14 (h : AddI w c L V W) (hrow : c.row.length = 7) (hn : ¬ L 14) : AddI w c (fun j => j = 14 ∨ L j) (addU V 36 (.slice (some ⟨W.heap.size, 0, none⟩) 1 1)) (W.alloc (.cells c.row.toArray 37)) := by
 have hb : Below W.heap.size W (W.alloc (.cells c.row.toArray 37)) := bAlloc (Below.refl _ _) _
 have n15 : ¬ L 15 := fun q => hn (h.d15 q).2
 refine h.next (h.keepV rfl (by decide)) (h.kp.trans (Kp.of hb)) (h.xb.under hb) (h.bx (F := fun _ => False) (Kp.of hb) (fun q => q) (by decide) (by decide) (fun _ => addU_ne (by decide)) (fun _ => addU_ne (by decide))) ?_ ?_ (fun q => by cases q) (fun q => by cases q) (fun q => by cases q) (fun q => by cases q)
 ·rw [addU_ne (by decide), addU_ne (by decide)]
  exact h.rn.step (F := fun _ => False) (fun q => q.resolve_left (by decide)) ⟨fun q => q.resolve_left (by decide), .inr⟩ (fun _ => rfl) (fun _ => rfl) (Kp.of hb) (fun _ _ _ _ _ _ _ e => e)
 ·exact h.rx.build hrow ⟨fun q => q.resolve_left (by decide), .inr⟩ n15
/-- The number is appended. -/
theorem AddI.s8 (h : AddI w c L V W) (hn : ¬ L 8) (d5 : L 5) (d7 : L 7) {a' : Option Addr} {c' : Nat} (hr : RowG 3 1 W' c.r a' c' (c.nums ++ [[.int .i64 c.i]])) (hk : Kp (rb c.na) W W') (ho : ∀ j, rb a' j → rb c.na j ∨ W.heap.size ≤ j) : AddI w c (fun j => j = 8 ∨ L j) (addU V 30 (.slice a' (c.n + 1) c')) W' := by
 have h18 : ¬ L 18 := fun q => hn (h.d18 q).1
 have hold := h.rn.old hn
 obtain ⟨X, Y, hb, _⟩ := h.box
 refine h.next (h.keepV rfl (by decide)) (h.kp.trans (hk.mono (fun j hj => .inr (.inl hj)))) (h.xb.kp hk (hold.ne h.xb (by decide))) (h.bx hk (hold.ne hb (by decide)) (by decide) (by decide) (fun q => absurd q h18) (fun _ => addU_ne (by decide))) ?_ ?_ (fun _ => ⟨d5, d7⟩) (fun q => by cases q) (fun q => by cases q) (fun q => by cases q)
 ·exact RowSt.done h.rn.size hk.size hr ho (.inl rfl)
 ·rw [addU_ne (by decide), addU_ne (by decide)]
  exact h.rx.step (fun q => q.resolve_left (by decide)) ⟨fun q => q.resolve_left (by decide), .inr⟩ (fun _ => rfl) (fun _ => rfl) hk (fun B x cc xs hx => hx.apart hold (by decide))
/-- The info is appended. -/
theorem AddI.s15 (h : AddI w c L V W) (hn : ¬ L 15) (d12 : L 12) (d14 : L 14) (hbx : ¬ rb c.ia c.bx) {a' : Option Addr} {c' : Nat} (hr : RowG 37 7 W' c.r a' c' (c.rows ++ [c.row])) (hk : Kp (rb c.ia) W W') (ho : ∀ j, rb a' j → rb c.ia j ∨ W.heap.size ≤ j) : AddI w c (fun j => j = 15 ∨ L j) (addU V 37 (.slice a' (c.n + 1) c')) W' := by
 have h21 : ¬ L 21 := fun q => hn (h.d21 q).2
 have hold := h.rx.old hn
 obtain ⟨X, Y, hb, _⟩ := h.box
 refine h.next (h.keepV rfl (by decide)) (h.kp.trans (hk.mono (fun j hj => .inr (.inr hj)))) (h.xb.kp hk hbx) (h.bx hk (hold.ne hb (by decide)) (by decide) (by decide) (fun _ => addU_ne (by decide)) (fun q => absurd q h21)) ?_ ?_ (fun q => by cases q) (fun _ => ⟨d12, d14⟩) (fun q => by cases q) (fun q => by cases q)
 ·rw [addU_ne (by decide), addU_ne (by decide)]
  exact h.rn.step (fun q => q.resolve_left (by decide)) ⟨fun q => q.resolve_left (by decide), .inr⟩ (fun _ => rfl) (fun _ => rfl) hk (fun B x cc xs hx => hx.apart hold (by decide))
 ·exact RowSt.done h.rx.size hk.size hr ho (.inl rfl)
/-- The numbers are stored. -/
theorem AddI.s18 (h : AddI w c L V W) (_hn : ¬ L 18) (d8 : L 8) (d15 : L 15) (hbx : c.bx ≠ c.b) : AddI w c (fun j => j = 18 ∨ L j) V (W.setCell ⟨c.b, 0, none⟩ (V 30)) := by
 obtain ⟨X, Y, hb, h2, h3, h4, h5⟩ := h.box
 have hk : Kp (fun j => j = c.b) W (W.setCell ⟨c.b, 0, none⟩ (V 30)) := (Kp.refl (fun j => j = c.b) W).set (b := c.b) (.inl rfl) 0 _
 have hnr : ∀ (e : TypeId) (m : Nat), 296 ≠ e → ∀ B x cc xs, RowG e m W B x cc xs → ∀ i, rb x i → ¬ i = c.b := fun e m hne B x cc xs hx i hi hib => by
  rw [hib] at hi
  exact hx.ne hb hne hi
 refine h.next (fun j q hj hl => h.pv j q hj (hl.resolve_left (fun z => (addPv_ne hj).2.2.2.2.1 z))) ((h.kp.trans (hk.mono (fun j hj => .inl hj)))) (h.xb.kp hk hbx) ⟨V 30, Y, hb.putAt 0 (V 30), fun q => absurd (.inl rfl) q, fun q => h3 (fun z => q (.inr z)), fun _ => rfl, fun q => h5 (q.resolve_left (by decide))⟩ ?_ ?_ (fun q => by cases q) (fun q => by cases q) (fun _ => ⟨d8, d15⟩) (fun q => by cases q)
 ·exact h.rn.step (fun q => q.resolve_left (by decide)) ⟨fun q => q.resolve_left (by decide), .inr⟩ (fun _ => rfl) (fun _ => rfl) hk (hnr _ _ (by decide))
 ·exact h.rx.step (fun q => q.resolve_left (by decide)) ⟨fun q => q.resolve_left (by decide), .inr⟩ (fun _ => rfl) (fun _ => rfl) hk (hnr _ _ (by decide))
/-- The infos are stored. -/
theorem AddI.s21 (h : AddI w c L V W) (_hn : ¬ L 21) (d8 : L 8) (d15 : L 15) (hbx : c.bx ≠ c.b) : AddI w c (fun j => j = 21 ∨ L j) V (W.setCell ⟨c.b, 1, none⟩ (V 37)) := by
 obtain ⟨X, Y, hb, h2, h3, h4, h5⟩ := h.box
 have hk : Kp (fun j => j = c.b) W (W.setCell ⟨c.b, 1, none⟩ (V 37)) := (Kp.refl (fun j => j = c.b) W).set (b := c.b) (.inl rfl) 1 _
 have hnr : ∀ (e : TypeId) (m : Nat), 296 ≠ e → ∀ B x cc xs, RowG e m W B x cc xs → ∀ i, rb x i → ¬ i = c.b := fun e m hne B x cc xs hx i hi hib => by
  rw [hib] at hi
  exact hx.ne hb hne hi
 refine h.next (fun j q hj hl => h.pv j q hj (hl.resolve_left (fun z => (addPv_ne hj).2.2.2.2.2 z))) ((h.kp.trans (hk.mono (fun j hj => .inl hj)))) (h.xb.kp hk hbx) ⟨X, V 37, hb.putAt 1 (V 37), fun q => h2 (fun z => q (.inr z)), fun q => absurd (.inl rfl) q, fun q => h4 (q.resolve_left (by decide)), fun _ => rfl⟩ ?_ ?_ (fun q => by cases q) (fun q => by cases q) (fun q => by cases q) (fun _ => ⟨d8, d15⟩)
 ·exact h.rn.step (fun q => q.resolve_left (by decide)) ⟨fun q => q.resolve_left (by decide), .inr⟩ (fun _ => rfl) (fun _ => rfl) hk (hnr _ _ (by decide))
 ·exact h.rx.step (fun q => q.resolve_left (by decide)) ⟨fun q => q.resolve_left (by decide), .inr⟩ (fun _ => rfl) (fun _ => rfl) hk (hnr _ _ (by decide))
theorem infoIntU : (Tryz.prog.info? 3).map (fun i => (i.zero, i.size, i.bytes)) = some (some (.int .i64 0), 1, 8) := by kernel_rfl
/-- What add leaves. -/
def AddP (w : World) (r b : Nat) (ns : List Nat) (xs : List InfS) (na ia : Option Addr) (i : Nat) (x : InfS) (e : Ending) (w' : World) : Prop :=
 e = .returned (.tuple #[]) ∧ ∃ na' nc' ia' ic', SeenB w' r b (ns ++ [i]) (xs ++ [x]) na' nc' ia' ic' ∧ Kp (fun j => j = b ∨ rb na j ∨ rb ia j) w w' ∧ (∀ j, rb na' j ∨ rb ia' j → rb na j ∨ rb ia j ∨ w.heap.size ≤ j)
set_option maxHeartbeats 8000000 in
set_option maxRecDepth 100000 in
theorem add_any {w : World} {r b : Nat} {ns : List Nat} {xs : List InfS} {na ia : Option Addr} {nc ic : Nat} (h : SeenB w r b ns xs na nc ia ic) (hd : ∀ x ∈ xs, x.dir = false) (hl : xs.length ≤ 100) (hr : r ≤ w.heap.size) (i : Nat) (_hi : i ≤ 100) (x : InfS) (hx : x.dir = false) :
  Calls Tryz.prog 242 #[ptr b, .int .i64 i, .agg x.arr] w (AddP w r b ns xs na ia i x) := by
 obtain ⟨A, dd, z, t, sa, sn, sc, ix⟩ := x
 dsimp only at hx
 subst hx
 have hb1 : Below w.heap.size w (w.alloc (.cells #[.string A, .bool false, .int .i64 z, .int .i64 t, .slice sa sn sc, .slice none 0 0, .string ix] 37)) := bAlloc (Below.refl _ _) _
 have hx1 : BoxIs (w.alloc (.cells #[.string A, .bool false, .int .i64 z, .int .i64 t, .slice sa sn sc, .slice none 0 0, .string ix] 37)) w.heap.size #[.string A, .bool false, .int .i64 z, .int .i64 t, .slice sa sn sc, .slice none 0 0, .string ix] 37 := heap_alloc_new _ _
 have HNo := Lib.hid (fun W => seenNone_any na ns.length nc (.slice ia xs.length ic) rfl W)
 have HS1 : Hid (SeenB _ r b ns xs na nc ia ic) := Lib.hid ⟨h.box.under hb1, h.sl.under hb1⟩
 have HIa : Hid (¬ rb ia w.heap.size ∧ w.heap.size ≠ b) := Lib.hid ⟨fun q => Nat.lt_irrefl _ (h.sl.rx.base _ q).2, fun q => by have := h.box.lt; omega⟩
 have HX := Lib.hid hx1
 have HB := Lib.hid hb1
 have HD := Lib.hid hd
 have HRr := Lib.hid hr
 have hnx := h.sl.len
 obtain ⟨n, hn⟩ : ∃ n, ns.length = n := ⟨_, rfl⟩
 have hk : xs.length = n := by rw [← hnx]; exact hn
 have HNl := Lib.hid (And.intro hn hk)
 rw [hn] at HNo
 rw [hk] at HNo hl
 clear hx1 hb1 h hd hr hnx hn hk
 go_enter Tryz.func242, Tryz.ntmps242
 go_upto_region 1 with fail
 obtain ⟨bx, hbx⟩ : ∃ bx, w.heap.size = bx := ⟨_, rfl⟩
 rw [hbx] at HX HIa ⊢
 have HBx := Lib.hid hbx
 clear hbx
 generalize w.alloc _ = w1 at *
 have HXb := Lib.hid (show BoxIs w1 b #[.slice na n nc, .slice ia n ic] 296 by have := HS1.out.box; rwa [HNl.out.1, HNl.out.2] at this)
 have hS : Below w1.heap.size w1 w1.drew := ⟨rfl, rfl, rfl, Nat.le_refl _, fun _ _ => rfl⟩
 go_cut [21] (fun s21 wx => s21 = .bool true ∧ Hid (Below w1.heap.size w1 wx))
 case first =>
  cases hz : (n == 0) with
  | true =>
   rw [hz] at HNo
   refine wp_region_seq (fun W => Below w1.heap.size w1 W) [(0, true), (1, true), (2, true), (3, false), (4, true), (5, true), (6, true), (7, true), (8, true), (9, true), (10, true), (11, true), (12, true), (13, true), (14, true), (15, true)] (by as_aux_lemma => kernel_rfl) (by as_aux_lemma => kernel_rfl) (by decide) (by as_aux_lemma => kernel_rfl) hS ?_
   intro OPS HO
   iterate 3
    refine seq_take (o := ⟨_, _, _, _, _, _⟩) (v := ?_) (by rw [HO.out]; rfl) (by rfl) ?_ ?_
    rotate_left 1
    ·first | ((intro W _; go_simp) <;> with_reducible rfl) | (intro W hW; have c0 := (HXb.out.under hW).cell (j := 0) rfl; have c1 := (HXb.out.under hW).cell (j := 1) rfl; have d1 := (HX.out.under hW).cell (j := 1) rfl; (go_simp <;> with_reducible rfl))
    try simp only [Act.put, List.setIfInBounds_toArray, List.set_cons_zero, List.set_cons_succ]
   refine seq_do (o := ⟨_, _, _, _, _, _⟩) (by rw [HO.out]; rfl) (by rfl) (fun K hK => ?_)
   go_wp2_with (go_at_call 235; refine (HNo.out _).mono ?_; rintro e w5 ⟨rfl, hb5⟩; replace hS : Below w1.heap.size w1 w5 := bTrans hS hb5; clear hb5)
   refine hK.out _ _ hS (fun _ => ?_)
   clear hK K
   try simp only [Act.put, List.setIfInBounds_toArray, List.set_cons_zero, List.set_cons_succ]
   refine seq_take (o := ⟨_, _, _, _, _, _⟩) (v := ?_) (by rw [HO.out]; rfl) (by rfl) ?_ ?_
   rotate_left 1
   ·first | ((intro W _; go_simp) <;> with_reducible rfl) | (intro W hW; have c0 := (HXb.out.under hW).cell (j := 0) rfl; have c1 := (HXb.out.under hW).cell (j := 1) rfl; have d1 := (HX.out.under hW).cell (j := 1) rfl; (go_simp <;> with_reducible rfl))
   iterate 10
    try simp only [Act.put, List.setIfInBounds_toArray, List.set_cons_zero, List.set_cons_succ]
    refine seq_skip (o := ⟨_, _, _, _, _, _⟩) (by rw [HO.out]; rfl) (by as_aux_lemma => (rw [HO.out]; rfl)) ?_
   try simp only [Act.put, List.setIfInBounds_toArray, List.set_cons_zero, List.set_cons_succ]
   refine seq_take (o := ⟨_, _, _, _, _, _⟩) (v := ?_) (by rw [HO.out]; rfl) (by rfl) ?_ ?_
   rotate_left 1
   ·first | ((intro W _; go_simp) <;> with_reducible rfl) | (intro W hW; have c0 := (HXb.out.under hW).cell (j := 0) rfl; have c1 := (HXb.out.under hW).cell (j := 1) rfl; have d1 := (HX.out.under hW).cell (j := 1) rfl; (go_simp <;> with_reducible rfl))
   try simp only [Act.put, List.setIfInBounds_toArray, List.set_cons_zero, List.set_cons_succ]
   refine seq_done ?_
   go_wp2_with fail
   go_meet
   exact ⟨rfl, Lib.hid hS⟩
  | false =>
   rw [hz] at HNo
   have hn0 : 0 < n := by
    rcases Nat.eq_zero_or_pos n with h | h
    ·rw [h] at hz; cases hz
    ·exact h
   obtain ⟨y, hy⟩ : ∃ y, xs[0]? = some y := ⟨_, List.getElem?_eq_getElem (by rw [HNl.out.2]; exact hn0)⟩
   have hyd := HD.out y (List.mem_of_getElem? hy)
   obtain ⟨g, rfl⟩ := HS1.out.sl.rx.some_of (by rw [List.length_map, HNl.out.2]; exact hn0)
   have hrow : (xs.map InfS.row)[0]? = some y.row := by rw [List.getElem?_map, hy]; rfl
   have HG : Hid (∀ W, Below w1.heap.size w1 W → W.cell? ⟨g, 1, none⟩ = some (.bool false)) := Lib.hid (fun W hb => by
    have h1 : W.cell? ⟨g, 0 * 7 + 1, none⟩ = some (.bool y.dir) := (HS1.out.sl.under hb).rx.cell_at (by decide) hrow (j := 1) rfl
    rwa [hyd] at h1)
   have hn0z : (0 : Int) < (n : Int) := by omega
   clear hy hyd hrow hz
   refine wp_region_seq (fun W => Below w1.heap.size w1 W) [(0, true), (1, true), (2, true), (3, false), (4, true), (5, true), (6, true), (7, true), (8, true), (9, true), (10, true), (11, true), (12, true), (13, true), (14, true), (15, true)] (by as_aux_lemma => kernel_rfl) (by as_aux_lemma => kernel_rfl) (by decide) (by as_aux_lemma => kernel_rfl) hS ?_
   intro OPS HO
   iterate 3
    refine seq_take (o := ⟨_, _, _, _, _, _⟩) (v := ?_) (by rw [HO.out]; rfl) (by rfl) ?_ ?_
    rotate_left 1
    ·first | ((intro W _; go_simp) <;> with_reducible rfl) | (intro W hW; have c0 := (HXb.out.under hW).cell (j := 0) rfl; have c1 := (HXb.out.under hW).cell (j := 1) rfl; have d1 := (HX.out.under hW).cell (j := 1) rfl; have g1 := HG.out _ hW; (go_simp <;> with_reducible rfl))
    try simp only [Act.put, List.setIfInBounds_toArray, List.set_cons_zero, List.set_cons_succ]
   refine seq_do (o := ⟨_, _, _, _, _, _⟩) (by rw [HO.out]; rfl) (by rfl) (fun K hK => ?_)
   go_wp2_with (go_at_call 235; refine (HNo.out _).mono ?_; rintro e w5 ⟨rfl, hb5⟩; replace hS : Below w1.heap.size w1 w5 := bTrans hS hb5; clear hb5)
   refine hK.out _ _ hS (fun _ => ?_)
   clear hK K
   try simp only [Act.put, List.setIfInBounds_toArray, List.set_cons_zero, List.set_cons_succ]
   refine seq_take (o := ⟨_, _, _, _, _, _⟩) (v := ?_) (by rw [HO.out]; rfl) (by rfl) ?_ ?_
   iterate 10
    rotate_left 1
    ·first | ((intro W _; go_simp) <;> with_reducible rfl) | (intro W hW; have c0 := (HXb.out.under hW).cell (j := 0) rfl; have c1 := (HXb.out.under hW).cell (j := 1) rfl; have d1 := (HX.out.under hW).cell (j := 1) rfl; have g1 := HG.out _ hW; (go_simp <;> with_reducible rfl))
    try simp only [Act.put, List.setIfInBounds_toArray, List.set_cons_zero, List.set_cons_succ]
    refine seq_take (o := ⟨_, _, _, _, _, _⟩) (v := ?_) (by rw [HO.out]; rfl) (by as_aux_lemma => (rw [HO.out]; rfl)) ?_ ?_
   rotate_left 1
   ·first | ((intro W _; go_simp) <;> with_reducible rfl) | (intro W hW; have c0 := (HXb.out.under hW).cell (j := 0) rfl; have c1 := (HXb.out.under hW).cell (j := 1) rfl; have d1 := (HX.out.under hW).cell (j := 1) rfl; have g1 := HG.out _ hW; (go_simp <;> with_reducible rfl))
   try simp only [Act.put, List.setIfInBounds_toArray, List.set_cons_zero, List.set_cons_succ]
   refine seq_take (o := ⟨_, _, _, _, _, _⟩) (v := ?_) (by rw [HO.out]; rfl) (by rfl) ?_ ?_
   rotate_left 1
   ·first | ((intro W _; go_simp) <;> with_reducible rfl) | (intro W hW; have c0 := (HXb.out.under hW).cell (j := 0) rfl; have c1 := (HXb.out.under hW).cell (j := 1) rfl; have d1 := (HX.out.under hW).cell (j := 1) rfl; have g1 := HG.out _ hW; (go_simp <;> with_reducible rfl))
   try simp only [Act.put, List.setIfInBounds_toArray, List.set_cons_zero, List.set_cons_succ]
   refine seq_done ?_
   go_wp2_with fail
   go_meet
   exact ⟨rfl, Lib.hid hS⟩
 case rest =>
  obtain ⟨rfl, HBc⟩ := hcut
  go_upto_region 2 with fail
  obtain ⟨row, hrow⟩ : ∃ row : List Value, row = [.string A, .bool false, .int .i64 z, .int .i64 t, .slice sa sn sc, .slice none 0 0, .string ix] := ⟨_, rfl⟩
  obtain ⟨iv, hiv, hz0, hz1, hz2⟩ := info_parts infoIntU
  have HIn := Lib.hid (And.intro hiv (And.intro hz0 (And.intro hz1 hz2)))
  obtain ⟨jv, hjv, hy0, hy1, hy2⟩ := info_parts infoInfoS
  have HIx := Lib.hid (And.intro hjv (And.intro hy0 (And.intro hy1 hy2)))
  clear hiv hz0 hz1 hz2 hjv hy0 hy1 hy2
  have HSz : Hid (r ≤ wc.heap.size) := Lib.hid (Nat.le_trans HRr.out (Nat.le_trans HB.out.size HBc.out.size))
  have HBd : Hid (Below w1.heap.size w1 wc.drew) := Lib.hid ⟨HBc.out.os, HBc.out.tape, HBc.out.output, HBc.out.size, HBc.out.block⟩
  have hstart : AddI wc.drew ⟨b, bx, n, nc, ic, na, ia, i, [.string A, .bool false, .int .i64 z, .int .i64 t, .slice sa sn sc, .slice none 0 0, .string ix], ns.map (fun (n : Nat) => [Value.int .i64 n]), xs.map InfS.row, r⟩ (fun _ => False) (fun s => ([u22, u23, u24, u25, u26, u27, u28, u29, u30, u31, u32, u33, u34, u35, u36, u37, u38, u39, u40, u41] : List Value).getD (s - 22) undef) wc.drew :=
   ⟨Kp.refl _ _, HX.out.under HBd.out, ⟨_, _, HXb.out.under HBd.out, fun _ => rfl, fun _ => rfl, fun q => q.elim, fun q => q.elim⟩, fun _ _ _ q => q.elim, ⟨Nat.le_refl _, fun _ => (HS1.out.sl.under HBd.out).rn, fun q => q.elim, fun q => q.elim⟩, ⟨Nat.le_refl _, fun _ => (HS1.out.sl.under HBd.out).rx, fun q => q.elim, fun q => q.elim⟩, fun q => q.elim, fun q => q.elim, fun q => q.elim, fun q => q.elim⟩
  have HSt := Lib.hid hstart
  clear hstart hrow row
  refine wp_region_inv3 (fun L a' W => ∃ V : Nat → Value, a' = ⟨#[ptr b, .int .i64 i, .agg #[.string A, .bool false, .int .i64 z, .int .i64 t, .slice sa sn sc, .slice none 0 0, .string ix], undef, undef, ptr bx, u6, u7, u8, u9, u10, u11, u12, u13, u14, u15, u16, u17, u18, u19, u20, .bool true, V 22, V 23, V 24, V 25, V 26, V 27, V 28, V 29, V 30, V 31, V 32, V 33, V 34, V 35, V 36, V 37, V 38, V 39, V 40, V 41], []⟩ ∧ AddI wc.drew ⟨b, bx, n, nc, ic, na, ia, i, [.string A, .bool false, .int .i64 z, .int .i64 t, .slice sa sn sc, .slice none 0 0, .string ix], ns.map (fun (n : Nat) => [Value.int .i64 n]), xs.map InfS.row, r⟩ L V W) (by kernel_rfl) (by kernel_rfl) ?_ ?_ ?_
  ·exact ⟨_, rfl, HSt.out⟩
  ·intro i' o ho L a' w' hI hnl hd K hK
   clear HSt
   rcases i' with _ | _ | _ | _ | _ | _ | _ | _ | _ | _ | _ | _ | _ | _ | _ | _ | _ | _ | _ | _ | _ | _ | i'
   ·obtain rfl : o = ⟨_, _, _, _, _, _⟩ := (Option.some.inj ho).symm
    obtain ⟨V, rfl, hN⟩ := hI
    rw [if_pos (by rfl)]
    have HN := Lib.hid hN
    clear hN hd
    go_wp2_with fail
    exact hK.out _ _ ⟨addU V 22 (ptr b), rfl, HN.out.pure 0 _ rfl 22 rfl⟩
   ·obtain rfl : o = ⟨_, _, _, _, _, _⟩ := (Option.some.inj ho).symm
    obtain ⟨V, rfl, hN⟩ := hI
    rw [if_pos (by rfl)]
    have HN := Lib.hid hN
    clear hN hd
    go_wp2_with fail
    exact hK.out _ _ ⟨addU V 23 (ptr b), rfl, HN.out.pure 1 _ rfl 23 rfl⟩
   ·obtain rfl : o = ⟨_, _, _, _, _, _⟩ := (Option.some.inj ho).symm
    obtain ⟨V, rfl, hN⟩ := hI
    rw [if_pos (by rfl)]
    have HN := Lib.hid hN
    clear hN hd
    go_wp2_with fail
    exact hK.out _ _ ⟨addU V 24 (ptr b), rfl, HN.out.pure 2 _ rfl 24 rfl⟩
   ·obtain rfl : o = ⟨_, _, _, _, _, _⟩ := (Option.some.inj ho).symm
    obtain ⟨V, rfl, hN⟩ := hI
    simp [Region.binds] at hd
    have d2 : L 2 := by simp only [hd]
    have e2 : V 24 = ptr b := hN.pv 2 _ rfl d2
    rw [e2]
    have HE2 := Lib.hid e2
    clear e2
    rw [if_pos (by rfl)]
    have HN := Lib.hid hN
    clear hN hd
    go_wp2_with fail
    exact hK.out _ _ ⟨addU V 25 (ptr b), by simp [addU, HE2.out], HN.out.pure 3 _ rfl 25 rfl⟩
   ·obtain rfl : o = ⟨_, _, _, _, _, _⟩ := (Option.some.inj ho).symm
    obtain ⟨V, rfl, hN⟩ := hI
    simp [Region.binds] at hd
    have d3 : L 3 := by simp only [hd]
    have e3 : V 25 = ptr b := hN.pv 3 _ rfl d3
    rw [e3]
    have HE3 := Lib.hid e3
    clear e3
    rw [if_pos (by rfl)]
    have HN := Lib.hid hN
    clear hN hd
    go_wp2_with fail
    exact hK.out _ _ ⟨addU V 26 (.pointer (some ⟨b, 0, none⟩)), by simp [addU, HE3.out], HN.out.pure 4 _ rfl 26 rfl⟩
   ·obtain rfl : o = ⟨_, _, _, _, _, _⟩ := (Option.some.inj ho).symm
    obtain ⟨V, rfl, hN⟩ := hI
    simp [Region.binds] at hd
    have d4 : L 4 := by simp only [hd]
    have e4 : V 26 = .pointer (some ⟨b, 0, none⟩) := hN.pv 4 _ rfl d4
    rw [e4]
    have HE4 := Lib.hid e4
    clear e4
    obtain ⟨X, Y, hb, hX, _⟩ := hN.box
    have hc := hb.cell (j := 0) rfl
    rw [hX (fun q => hnl (hN.d8 (hN.d18 q).1).1)] at hc
    clear hb hX
    rw [if_pos (by rfl)]
    have HN := Lib.hid hN
    clear hN hd
    go_wp2_with fail
    exact hK.out _ _ ⟨addU V 27 (.slice na n nc), by simp [addU, HE4.out], HN.out.pure 5 _ rfl 27 rfl⟩
   ·obtain rfl : o = ⟨_, _, _, _, _, _⟩ := (Option.some.inj ho).symm
    obtain ⟨V, rfl, hN⟩ := hI
    rw [if_pos (by rfl)]
    have HN := Lib.hid hN
    clear hN hd
    go_wp2_with fail
    exact hK.out _ _ ⟨addU V 28 (.int .i64 i), rfl, HN.out.pure 6 _ rfl 28 rfl⟩
   ·obtain rfl : o = ⟨_, _, _, _, _, _⟩ := (Option.some.inj ho).symm
    obtain ⟨V, rfl, hN⟩ := hI
    simp [Region.binds] at hd
    have d6 : L 6 := by simp only [hd]
    have e6 : V 28 = .int .i64 i := hN.pv 6 _ rfl d6
    rw [e6]
    have HE6 := Lib.hid e6
    clear e6
    rw [if_pos (by rfl)]
    have HN := Lib.hid hN
    clear hN hd
    go_wp2_with fail
    exact hK.out _ _ ⟨addU V 29 (.slice (some ⟨w'.heap.size, 0, none⟩) 1 1), by simp [addU, HE6.out], HN.out.s7 hnl⟩
   ·obtain rfl : o = ⟨_, _, _, _, _, _⟩ := (Option.some.inj ho).symm
    obtain ⟨V, rfl, hN⟩ := hI
    simp [Region.binds] at hd
    have d5 : L 5 := by simp only [hd]
    have e5 : V 27 = .slice na n nc := hN.pv 5 _ rfl d5
    rw [e5]
    have HE5 := Lib.hid e5
    clear e5
    have d7 : L 7 := by simp only [hd]
    obtain ⟨g, eg, hone⟩ := hN.rn.one d7 hnl
    have HO := Lib.hid (And.intro (hN.rn.old hnl) (And.intro hone (Nat.le_trans HSz.out hN.kp.size)))
    rw [eg]
    have HE7 := Lib.hid eg
    clear eg hone
    rw [if_pos (by rfl)]
    have HN := Lib.hid hN
    clear hN hd
    refine wp_appRows HO.out.1 HO.out.2.1 (fun e => by cases e) Tryz.underlying22 HIn.out.1 HIn.out.2.1 HIn.out.2.2.1 HIn.out.2.2.2 rfl (by decide) (by decide) (fun q hq v hv => by rw [List.mem_singleton.1 hq] at hv; rw [List.mem_singleton.1 hv]; rfl) (by rw [List.length_map, HNl.out.1]; simp; omega) HO.out.2.2 (.tmp 27) (.tmp 29) rfl (by show Value.slice _ _ _ = Value.slice _ _ _; rw [List.length_map, HNl.out.1]) rfl (fun a3 cap3 w3 r1 r2 r3 r4 => ?_)
    rw [List.length_map, HNl.out.1, List.length_singleton]
    try simp only [Act.put, List.setIfInBounds_toArray, List.set_cons_zero, List.set_cons_succ]
    exact hK.out _ _ ⟨addU V 30 (.slice a3 (n + 1) cap3), by simp [addU, HE5.out, HE7.out], HN.out.s8 hnl d5 d7 r1 r2 r3⟩
   ·obtain rfl : o = ⟨_, _, _, _, _, _⟩ := (Option.some.inj ho).symm
    obtain ⟨V, rfl, hN⟩ := hI
    rw [if_pos (by rfl)]
    have HN := Lib.hid hN
    clear hN hd
    go_wp2_with fail
    exact hK.out _ _ ⟨addU V 31 (ptr b), rfl, HN.out.pure 9 _ rfl 31 rfl⟩
   ·obtain rfl : o = ⟨_, _, _, _, _, _⟩ := (Option.some.inj ho).symm
    obtain ⟨V, rfl, hN⟩ := hI
    simp [Region.binds] at hd
    have d9 : L 9 := by simp only [hd]
    have e9 : V 31 = ptr b := hN.pv 9 _ rfl d9
    rw [e9]
    have HE9 := Lib.hid e9
    clear e9
    rw [if_pos (by rfl)]
    have HN := Lib.hid hN
    clear hN hd
    go_wp2_with fail
    exact hK.out _ _ ⟨addU V 32 (ptr b), by simp [addU, HE9.out], HN.out.pure 10 _ rfl 32 rfl⟩
   ·obtain rfl : o = ⟨_, _, _, _, _, _⟩ := (Option.some.inj ho).symm
    obtain ⟨V, rfl, hN⟩ := hI
    simp [Region.binds] at hd
    have d10 : L 10 := by simp only [hd]
    have e10 : V 32 = ptr b := hN.pv 10 _ rfl d10
    rw [e10]
    have HE10 := Lib.hid e10
    clear e10
    rw [if_pos (by rfl)]
    have HN := Lib.hid hN
    clear hN hd
    go_wp2_with fail
    exact hK.out _ _ ⟨addU V 33 (.pointer (some ⟨b, 1, none⟩)), by simp [addU, HE10.out], HN.out.pure 11 _ rfl 33 rfl⟩
   ·obtain rfl : o = ⟨_, _, _, _, _, _⟩ := (Option.some.inj ho).symm
    obtain ⟨V, rfl, hN⟩ := hI
    simp [Region.binds] at hd
    have d11 : L 11 := by simp only [hd]
    have e11 : V 33 = .pointer (some ⟨b, 1, none⟩) := hN.pv 11 _ rfl d11
    rw [e11]
    have HE11 := Lib.hid e11
    clear e11
    obtain ⟨X, Y, hb, _, hY, _⟩ := hN.box
    have hc := hb.cell (j := 1) rfl
    rw [hY (fun q => hnl (hN.d15 (hN.d21 q).2).1)] at hc
    clear hb hY
    rw [if_pos (by rfl)]
    have HN := Lib.hid hN
    clear hN hd
    go_wp2_with fail
    exact hK.out _ _ ⟨addU V 34 (.slice ia n ic), by simp [addU, HE11.out], HN.out.pure 12 _ rfl 34 rfl⟩
   ·obtain rfl : o = ⟨_, _, _, _, _, _⟩ := (Option.some.inj ho).symm
    obtain ⟨V, rfl, hN⟩ := hI
    have hx := hN.xb
    have x0 := hx.cell (j := 0) rfl
    have x1 := hx.cell (j := 1) rfl
    have x2 := hx.cell (j := 2) rfl
    have x3 := hx.cell (j := 3) rfl
    have x4 := hx.cell (j := 4) rfl
    have x5 := hx.cell (j := 5) rfl
    have x6 := hx.cell (j := 6) rfl
    clear hx
    rw [if_pos (by rfl)]
    have HN := Lib.hid hN
    clear hN hd
    go_wp2_with fail
    exact hK.out _ _ ⟨addU V 35 (.agg #[.string A, .bool false, .int .i64 z, .int .i64 t, .slice sa sn sc, .slice none 0 0, .string ix]), rfl, HN.out.pure 13 _ rfl 35 rfl⟩
   ·obtain rfl : o = ⟨_, _, _, _, _, _⟩ := (Option.some.inj ho).symm
    obtain ⟨V, rfl, hN⟩ := hI
    simp [Region.binds] at hd
    have d13 : L 13 := by simp only [hd]
    have e13 : V 35 = .agg #[.string A, .bool false, .int .i64 z, .int .i64 t, .slice sa sn sc, .slice none 0 0, .string ix] := hN.pv 13 _ rfl d13
    rw [e13]
    have HE13 := Lib.hid e13
    clear e13
    rw [if_pos (by rfl)]
    have HN := Lib.hid hN
    clear hN hd
    go_wp2_with fail
    exact hK.out _ _ ⟨addU V 36 (.slice (some ⟨w'.heap.size, 0, none⟩) 1 1), by simp [addU, HE13.out], HN.out.s14 rfl hnl⟩
   ·obtain rfl : o = ⟨_, _, _, _, _, _⟩ := (Option.some.inj ho).symm
    obtain ⟨V, rfl, hN⟩ := hI
    simp [Region.binds] at hd
    have d12 : L 12 := by simp only [hd]
    have e12 : V 34 = .slice ia n ic := hN.pv 12 _ rfl d12
    rw [e12]
    have HE12 := Lib.hid e12
    clear e12
    have d14 : L 14 := by simp only [hd]
    obtain ⟨g, eg, hone⟩ := hN.rx.one d14 hnl
    have HO := Lib.hid (And.intro (hN.rx.old hnl) (And.intro hone (Nat.le_trans HSz.out hN.kp.size)))
    rw [eg]
    have HE14 := Lib.hid eg
    clear eg hone
    rw [if_pos (by rfl)]
    have HN := Lib.hid hN
    clear hN hd
    refine wp_appRows HO.out.1 HO.out.2.1 (fun e => by cases e) Tryz.underlying91 HIx.out.1 HIx.out.2.1 HIx.out.2.2.1 HIx.out.2.2.2 rfl (by decide) (by decide) (fun q hq v hv => by rw [List.mem_singleton.1 hq] at hv; exact infS_one ⟨A, false, z, t, sa, sn, sc, ix⟩ v hv) (by rw [List.length_map, HNl.out.2]; simp; omega) HO.out.2.2 (.tmp 34) (.tmp 36) rfl (by show Value.slice _ _ _ = Value.slice _ _ _; rw [List.length_map, HNl.out.2]) rfl (fun a3 cap3 w3 r1 r2 r3 r4 => ?_)
    rw [List.length_map, HNl.out.2, List.length_singleton]
    try simp only [Act.put, List.setIfInBounds_toArray, List.set_cons_zero, List.set_cons_succ]
    exact hK.out _ _ ⟨addU V 37 (.slice a3 (n + 1) cap3), by simp [addU, HE12.out, HE14.out], HN.out.s15 hnl d12 d14 HIa.out.1 r1 r2 r3⟩
   ·obtain rfl : o = ⟨_, _, _, _, _, _⟩ := (Option.some.inj ho).symm
    obtain ⟨V, rfl, hN⟩ := hI
    simp [Region.binds] at hd
    have d0 : L 0 := by simp only [hd]
    have e0 : V 22 = ptr b := hN.pv 0 _ rfl d0
    rw [e0]
    have HE0 := Lib.hid e0
    clear e0
    rw [if_pos (by rfl)]
    have HN := Lib.hid hN
    clear hN hd
    go_wp2_with fail
    exact hK.out _ _ ⟨addU V 38 (ptr b), by simp [addU, HE0.out], HN.out.pure 16 _ rfl 38 rfl⟩
   ·obtain rfl : o = ⟨_, _, _, _, _, _⟩ := (Option.some.inj ho).symm
    obtain ⟨V, rfl, hN⟩ := hI
    simp [Region.binds] at hd
    have d16 : L 16 := by simp only [hd]
    have e16 : V 38 = ptr b := hN.pv 16 _ rfl d16
    rw [e16]
    have HE16 := Lib.hid e16
    clear e16
    rw [if_pos (by rfl)]
    have HN := Lib.hid hN
    clear hN hd
    go_wp2_with fail
    exact hK.out _ _ ⟨addU V 39 (.pointer (some ⟨b, 0, none⟩)), by simp [addU, HE16.out], HN.out.pure 17 _ rfl 39 rfl⟩
   ·obtain rfl : o = ⟨_, _, _, _, _, _⟩ := (Option.some.inj ho).symm
    obtain ⟨V, rfl, hN⟩ := hI
    simp [Region.binds] at hd
    have d8 : L 8 := by simp only [hd]
    have d15 : L 15 := by simp only [hd]
    have d17 : L 17 := by simp only [hd]
    have e17 : V 39 = .pointer (some ⟨b, 0, none⟩) := hN.pv 17 _ rfl d17
    rw [e17]
    have HE17 := Lib.hid e17
    clear e17
    obtain ⟨a3, c3, e3, _⟩ := hN.rn.new d8
    obtain ⟨X, Y, hb, _⟩ := hN.box
    have hc := hb.cell (j := 0) rfl
    have hf := Lib.frozen_of_heap hb 0
    have HE := Lib.hid e3
    rw [e3]
    clear e3 hb
    rw [if_pos (by rfl)]
    have HN := Lib.hid hN
    clear hN hd
    go_wp2_with fail
    rw [← HE.out]
    exact hK.out _ _ ⟨V, by simp [HE17.out], HN.out.s18 hnl d8 d15 HIa.out.2⟩
   ·obtain rfl : o = ⟨_, _, _, _, _, _⟩ := (Option.some.inj ho).symm
    obtain ⟨V, rfl, hN⟩ := hI
    simp [Region.binds] at hd
    have d1 : L 1 := by simp only [hd]
    have e1 : V 23 = ptr b := hN.pv 1 _ rfl d1
    rw [e1]
    have HE1 := Lib.hid e1
    clear e1
    rw [if_pos (by rfl)]
    have HN := Lib.hid hN
    clear hN hd
    go_wp2_with fail
    exact hK.out _ _ ⟨addU V 40 (ptr b), by simp [addU, HE1.out], HN.out.pure 19 _ rfl 40 rfl⟩
   ·obtain rfl : o = ⟨_, _, _, _, _, _⟩ := (Option.some.inj ho).symm
    obtain ⟨V, rfl, hN⟩ := hI
    simp [Region.binds] at hd
    have d19 : L 19 := by simp only [hd]
    have e19 : V 40 = ptr b := hN.pv 19 _ rfl d19
    rw [e19]
    have HE19 := Lib.hid e19
    clear e19
    rw [if_pos (by rfl)]
    have HN := Lib.hid hN
    clear hN hd
    go_wp2_with fail
    exact hK.out _ _ ⟨addU V 41 (.pointer (some ⟨b, 1, none⟩)), by simp [addU, HE19.out], HN.out.pure 20 _ rfl 41 rfl⟩
   ·obtain rfl : o = ⟨_, _, _, _, _, _⟩ := (Option.some.inj ho).symm
    obtain ⟨V, rfl, hN⟩ := hI
    simp [Region.binds] at hd
    have d8 : L 8 := by simp only [hd]
    have d15 : L 15 := by simp only [hd]
    have d20 : L 20 := by simp only [hd]
    have e20 : V 41 = .pointer (some ⟨b, 1, none⟩) := hN.pv 20 _ rfl d20
    rw [e20]
    have HE20 := Lib.hid e20
    clear e20
    obtain ⟨a3, c3, e3, _⟩ := hN.rx.new d15
    obtain ⟨X, Y, hb, _⟩ := hN.box
    have hc := hb.cell (j := 1) rfl
    have hf := Lib.frozen_of_heap hb 1
    have HE := Lib.hid e3
    rw [e3]
    clear e3 hb
    rw [if_pos (by rfl)]
    have HN := Lib.hid hN
    clear hN hd
    go_wp2_with fail
    rw [← HE.out]
    exact hK.out _ _ ⟨V, by simp [HE20.out], HN.out.s21 hnl d8 d15 HIa.out.2⟩
   ·simp at ho
  ·rintro L a' w' ⟨V, rfl, hN⟩ hall
   obtain ⟨X, Y, hb, _, _, hX, hY⟩ := hN.box
   obtain ⟨na', nc', e30, r30, o30⟩ := hN.rn.new (hall 8 (by decide))
   obtain ⟨ia', ic', e37, r37, o37⟩ := hN.rx.new (hall 15 (by decide))
   rw [hX (hall 18 (by decide)), hY (hall 21 (by decide)), e30, e37] at hb
   have HF : Hid (SeenB w' r b (ns ++ [i]) (xs ++ [⟨A, false, z, t, sa, sn, sc, ix⟩]) na' nc' ia' ic' ∧ Kp (fun j => j = b ∨ rb na j ∨ rb ia j) w w' ∧ ∀ j, rb na' j ∨ rb ia' j → rb na j ∨ rb ia j ∨ w.heap.size ≤ j) := Lib.hid (by
    have hwc : w.heap.size ≤ wc.heap.size := Nat.le_trans HB.out.size HBc.out.size
    refine ⟨⟨?_, ⟨?_, ?_, ?_, fun q => by simp at q, fun q => by simp at q⟩⟩, ?_, fun j hj => ?_⟩
    ·rw [List.length_append, List.length_append, HNl.out.1, HNl.out.2]
     exact hb
    ·rw [List.map_append]; exact r30
    ·rw [List.map_append]; exact r37
    ·rw [List.length_append, List.length_append, HNl.out.1, HNl.out.2]; rfl
    ·exact (Kp.of HB.out).trans ((Kp.of HBc.out).trans hN.kp.undrew)
    ·rcases hj with hj | hj
     ·rcases o30 j hj with q | q
      ·exact .inl q
      ·exact .inr (.inr (Nat.le_trans hwc q))
     ·rcases o37 j hj with q | q
      ·exact .inr (.inl q)
      ·exact .inr (.inr (Nat.le_trans hwc q)))
   clear hN hall hb hX hY e30 e37 r30 r37 o30 o37
   go_wp2_with fail
   first | go_end0 | refine bodyPost_ret (results_none rfl _ _ _) rfl ?_
   exact ⟨rfl, na', nc', ia', ic', HF.out⟩
end
end Go.Proofs.YtchfhojighopkaaGreatDoor
