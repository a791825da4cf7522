/-
  Parts of the proof: TnL.
-/
import Derived.Test.YtchfhojighopkaaGreatDoorGuAL
import Derived.Test.YtchfhojighopkaaGreatDoorGuAS
import Derived.Test.YtchfhojighopkaaGreatDoorGuBI
namespace Go.Proofs.YtchfhojighopkaaGreatDoor
open Go.RowKit

theorem BoxIs.ne_map {w : World} {b c : Nat} {vs : Array Value} {t : TypeId} {key : ByteArray} {o : Option Value} (h : BoxIs w b vs t) (k : MapOn w c key o) : b ≠ c := by
 rintro rfl
 obtain ⟨es, cl, k, _⟩ := k
 have := h.symm.trans k
 simp at this

abbrev zeros14b : Obj := .cells #[.int .i64 0, .int .i64 0, .int .i64 0, .int .i64 0, .int .i64 0, .int .i64 0, .int .i64 0, .int .i64 0, .int .i64 0, .int .i64 0, .int .i64 0, .int .i64 0, .int .i64 0, .int .i64 0] 3
theorem make14b : ∀ w : World, (Instr.makeSlice 22 (.int .i64 14) (.int .i64 14)).run Tryz.prog w = .ok (.slice (some ⟨w.heap.size, 0, none⟩) 14 14) (w.alloc zeros14b) := fun _ => by kernel_rfl
theorem zeros_ints (w : World) : Ints14 (w.alloc zeros14b) w.heap.size := by
 refine ⟨_, heap_alloc_new w _, rfl, fun i hi => ?_⟩
 match i, hi with
 | 0, _ | 1, _ | 2, _ | 3, _ | 4, _ | 5, _ | 6, _ | 7, _ | 8, _ | 9, _ | 10, _ | 11, _ | 12, _ | 13, _ => exact ⟨0, rfl⟩
set_option maxHeartbeats 1000000 in
theorem cloneF_nil (w : World) : Calls Tryz.prog 71 #[.slice none 0 0] w fun e w' => e = .returned (.slice none 0 0) ∧ w' = w := by
 have hnil := fun W n c => Lib.run_eql_slice_nil (P := Tryz.prog) W 103 73 none n c 0 0 Tryz.underlying103
 go_enter Tryz.func71, Tryz.ntmps71
 go_wp2_with fail
 go_ret
 exact ⟨rfl, rfl⟩

abbrev nodeArr0 (x : Nat) : Array Value := nodeArr ⟨#[]⟩ true none (some x) ⟨#[]⟩ 0 ⟨#[]⟩
abbrev memArr0 (f : Wh.Feat) (ad : Addr) (r ca y z : Nat) (si : Value) : Array Value := #[.int .i64 f.has, .int .i64 f.sums, .int .i64 f.prec, .int .i64 f.maxName, .int .i64 f.maxPath, .int .i64 f.maxSize, .int .i64 f.page, .int .i64 f.partSize, .string f.forbid,
 .pointer (some ad), .pointer (some ⟨r, 0, none⟩), .int .i64 0, .int .i64 0, .slice (some ⟨ca, 0, none⟩) 14 14, si, .slice none 0 0, .int .i64 0, .slice none 0 0, .map (some y), .map (some z)]
structure Kid (A : ByteArray) (B : Nat) (w : World) (x : Nat) (v24 v25 : Value) : Prop where
 m : MapOn w x A none
 lo : B ≤ x
 a : v24 ≠ .map (some x)
 b : v25 ≠ .map (some x)
structure Bundle (A : ByteArray) (B : Nat) (w : World) (r x ca y z : Nat) : Prop where
 hr : BoxIs w r (nodeArr0 x) 108
 hx : MapOn w x A none
 hc : Ints14 w ca
 hy : MapOn w y A none
 hz : MapOn w z A none
 ne : x ≠ y ∧ x ≠ z ∧ y ≠ z
 lo : B ≤ r ∧ B ≤ x ∧ B ≤ ca ∧ B ≤ y ∧ B ≤ z
theorem MapOn.up {w w' : World} {b : Nat} {key : ByteArray} {o : Option Value} (h : MapOn w b key o) (hb : Below w.heap.size w w') : MapOn w' b key o := h.kp (Kp.of (F := fun _ => False) hb) (fun e => e)
theorem Ints14.up {w w' : World} {b : Nat} (h : Ints14 w b) (hb : Below w.heap.size w w') : Ints14 w' b := h.kp (Kp.of (F := fun _ => False) hb) (fun e => e)
theorem Kid.up {A : ByteArray} {B : Nat} {w w' : World} {x : Nat} {v24 v25 : Value} (h : Kid A B w x v24 v25) (hb : Below w.heap.size w w') : Kid A B w' x v24 v25 := ⟨h.m.up hb, h.lo, h.a, h.b⟩
theorem Bundle.up {A : ByteArray} {B : Nat} {w w' : World} {r x ca y z : Nat} (h : Bundle A B w r x ca y z) (hb : Below w.heap.size w w') : Bundle A B w' r x ca y z := ⟨h.hr.under hb, h.hx.up hb, h.hc.up hb, h.hy.up hb, h.hz.up hb, h.ne, h.lo⟩

/-- What holds whatever has come up. -/
structure NI (f : Wh.Feat) (ad : Addr) (A : ByteArray) (w2 : World) (L : Nat → Prop) (w' : World) (v9 v18 v19 v20 v21 v22 v23 v24 v25 v26 v27 : Value) : Prop where
 bel : Below w2.heap.size w2 w'
 u24 : ∀ y, v24 = .map (some y) → y < w'.heap.size
 u25 : ∀ y, v25 = .map (some y) → y < w'.heap.size
 q0 : L 0 → v18 = featVal f
 q1 : L 1 → v19 = .pointer (some ad)
 q2 : L 2 → ∃ x, v20 = .map (some x) ∧ Kid A w2.heap.size w' x v24 v25
 q3 : L 3 → ∃ x, v21 = .agg (nodeArr0 x) ∧ Kid A w2.heap.size w' x v24 v25
 q4 : L 4 → ∃ r x, v22 = .pointer (some ⟨r, 0, none⟩) ∧ BoxIs w' r (nodeArr0 x) 108 ∧ w2.heap.size ≤ r ∧ Kid A w2.heap.size w' x v24 v25
 q5 : L 5 → ∃ c, v23 = .slice (some ⟨c, 0, none⟩) 14 14 ∧ Ints14 w' c ∧ w2.heap.size ≤ c
 q6 : L 6 → ∃ y, v24 = .map (some y) ∧ MapOn w' y A none ∧ w2.heap.size ≤ y ∧ v25 ≠ .map (some y)
 q7 : L 7 → ∃ z, v25 = .map (some z) ∧ MapOn w' z A none ∧ w2.heap.size ≤ z
 q8 : L 8 → ∃ r x c y z, v26 = .agg (memArr0 f ad r c y z (.slice none 0 0)) ∧ Bundle A w2.heap.size w' r x c y z
 q9 : L 9 → ∃ b r x c y z, v27 = .pointer (some ⟨b, 0, none⟩) ∧ BoxIs w' b (memArr0 f ad r c y z (.slice none 0 0)) 113 ∧ w2.heap.size ≤ b ∧ Bundle A w2.heap.size w' r x c y z
 q10 : L 10 → ∃ b r x c y z, v9 = .pointer (some ⟨b, 0, none⟩) ∧ BoxIs w' b (memArr0 f ad r c y z (.slice none 0 0)) 113 ∧ w2.heap.size ≤ b ∧ Bundle A w2.heap.size w' r x c y z
section
variable {f : Wh.Feat} {ad : Addr} {A : ByteArray} {w2 w' : World} {L L' : Nat → Prop} {v9 v18 v19 v20 v21 v22 v23 v24 v25 v26 v27 : Value}
theorem NI.up (h : NI f ad A w2 L w' v9 v18 v19 v20 v21 v22 v23 v24 v25 v26 v27) {w'' : World} (hb : Below w'.heap.size w' w'') : NI f ad A w2 L w'' v9 v18 v19 v20 v21 v22 v23 v24 v25 v26 v27 where
 bel := bTrans h.bel hb
 u24 := fun y e => Nat.lt_of_lt_of_le (h.u24 y e) hb.size
 u25 := fun y e => Nat.lt_of_lt_of_le (h.u25 y e) hb.size
 q0 := h.q0
 q1 := h.q1
 q2 := fun l => by obtain ⟨x, a, b⟩ := h.q2 l; exact ⟨x, a, b.up hb⟩
 q3 := fun l => by obtain ⟨x, a, b⟩ := h.q3 l; exact ⟨x, a, b.up hb⟩
 q4 := fun l => by obtain ⟨r, x, a, b, c, d⟩ := h.q4 l; exact ⟨r, x, a, b.under hb, c, d.up hb⟩
 q5 := fun l => by obtain ⟨c, a, b, d⟩ := h.q5 l; exact ⟨c, a, b.up hb, d⟩
 q6 := fun l => by obtain ⟨y, a, b, c, d⟩ := h.q6 l; exact ⟨y, a, b.up hb, c, d⟩
 q7 := fun l => by obtain ⟨z, a, b, c⟩ := h.q7 l; exact ⟨z, a, b.up hb, c⟩
 q8 := fun l => by obtain ⟨r, x, c, y, z, a, b⟩ := h.q8 l; exact ⟨r, x, c, y, z, a, b.up hb⟩
 q9 := fun l => by obtain ⟨b, r, x, c, y, z, a, d, e, g⟩ := h.q9 l; exact ⟨b, r, x, c, y, z, a, d.under hb, e, g.up hb⟩
 q10 := fun l => by obtain ⟨b, r, x, c, y, z, a, d, e, g⟩ := h.q10 l; exact ⟨b, r, x, c, y, z, a, d.under hb, e, g.up hb⟩
theorem NI.s0 (h : NI f ad A w2 L w' v9 v18 v19 v20 v21 v22 v23 v24 v25 v26 v27) (hL : ∀ j, L' j → j = 0 ∨ L j) : NI f ad A w2 L' w' v9 (featVal f) v19 v20 v21 v22 v23 v24 v25 v26 v27 := by
 have X := h
 refine ⟨X.bel, ?_, ?_, ?_, ?_, ?_, ?_, ?_, ?_, ?_, ?_, ?_, ?_, ?_⟩
 ·exact X.u24
 ·exact X.u25
 ·exact fun _ => rfl
 ·exact fun l => X.q1 ((hL 1 l).resolve_left (by decide))
 ·exact fun l => X.q2 ((hL 2 l).resolve_left (by decide))
 ·exact fun l => X.q3 ((hL 3 l).resolve_left (by decide))
 ·exact fun l => X.q4 ((hL 4 l).resolve_left (by decide))
 ·exact fun l => X.q5 ((hL 5 l).resolve_left (by decide))
 ·exact fun l => X.q6 ((hL 6 l).resolve_left (by decide))
 ·exact fun l => X.q7 ((hL 7 l).resolve_left (by decide))
 ·exact fun l => X.q8 ((hL 8 l).resolve_left (by decide))
 ·exact fun l => X.q9 ((hL 9 l).resolve_left (by decide))
 ·exact fun l => X.q10 ((hL 10 l).resolve_left (by decide))
theorem NI.s1 (h : NI f ad A w2 L w' v9 v18 v19 v20 v21 v22 v23 v24 v25 v26 v27) (hL : ∀ j, L' j → j = 1 ∨ L j) : NI f ad A w2 L' w' v9 v18 (.pointer (some ad)) v20 v21 v22 v23 v24 v25 v26 v27 := by
 have X := h
 refine ⟨X.bel, ?_, ?_, ?_, ?_, ?_, ?_, ?_, ?_, ?_, ?_, ?_, ?_, ?_⟩
 ·exact X.u24
 ·exact X.u25
 ·exact fun l => X.q0 ((hL 0 l).resolve_left (by decide))
 ·exact fun _ => rfl
 ·exact fun l => X.q2 ((hL 2 l).resolve_left (by decide))
 ·exact fun l => X.q3 ((hL 3 l).resolve_left (by decide))
 ·exact fun l => X.q4 ((hL 4 l).resolve_left (by decide))
 ·exact fun l => X.q5 ((hL 5 l).resolve_left (by decide))
 ·exact fun l => X.q6 ((hL 6 l).resolve_left (by decide))
 ·exact fun l => X.q7 ((hL 7 l).resolve_left (by decide))
 ·exact fun l => X.q8 ((hL 8 l).resolve_left (by decide))
 ·exact fun l => X.q9 ((hL 9 l).resolve_left (by decide))
 ·exact fun l => X.q10 ((hL 10 l).resolve_left (by decide))
theorem NI.s2 (h : NI f ad A w2 L w' v9 v18 v19 v20 v21 v22 v23 v24 v25 v26 v27) (hL : ∀ j, L' j → j = 2 ∨ L j) : NI f ad A w2 L' (w'.alloc (.map #[] 0)) v9 v18 v19 (.map (some w'.heap.size)) v21 v22 v23 v24 v25 v26 v27 := by
 have X := h.up (bAlloc (Below.refl w'.heap.size w') (.map #[] 0))
 have hsz : (w'.alloc (.map #[] 0)).heap.size = w'.heap.size + 1 := by simp
 refine ⟨X.bel, ?_, ?_, ?_, ?_, ?_, ?_, ?_, ?_, ?_, ?_, ?_, ?_, ?_⟩
 ·exact X.u24
 ·exact X.u25
 ·exact fun l => X.q0 ((hL 0 l).resolve_left (by decide))
 ·exact fun l => X.q1 ((hL 1 l).resolve_left (by decide))
 ·exact fun _ => ⟨_, rfl, MapOn.new w' A, h.bel.size, fun e => Nat.lt_irrefl _ (h.u24 _ e), fun e => Nat.lt_irrefl _ (h.u25 _ e)⟩
 ·exact fun l => X.q3 ((hL 3 l).resolve_left (by decide))
 ·exact fun l => X.q4 ((hL 4 l).resolve_left (by decide))
 ·exact fun l => X.q5 ((hL 5 l).resolve_left (by decide))
 ·exact fun l => X.q6 ((hL 6 l).resolve_left (by decide))
 ·exact fun l => X.q7 ((hL 7 l).resolve_left (by decide))
 ·exact fun l => X.q8 ((hL 8 l).resolve_left (by decide))
 ·exact fun l => X.q9 ((hL 9 l).resolve_left (by decide))
 ·exact fun l => X.q10 ((hL 10 l).resolve_left (by decide))
theorem NI.s3 (h : NI f ad A w2 L w' v9 v18 v19 v20 v21 v22 v23 v24 v25 v26 v27) (hL : ∀ j, L' j → j = 3 ∨ L j) (d2 : L 2) {m : Nat} (hm : v20 = .map (some m)) : NI f ad A w2 L' w' v9 v18 v19 v20 (.agg (nodeArr0 m)) v22 v23 v24 v25 v26 v27 := by
 have X := h
 refine ⟨X.bel, ?_, ?_, ?_, ?_, ?_, ?_, ?_, ?_, ?_, ?_, ?_, ?_, ?_⟩
 ·exact X.u24
 ·exact X.u25
 ·exact fun l => X.q0 ((hL 0 l).resolve_left (by decide))
 ·exact fun l => X.q1 ((hL 1 l).resolve_left (by decide))
 ·exact fun l => X.q2 ((hL 2 l).resolve_left (by decide))
 ·exact fun _ => by
    obtain ⟨x, a, b⟩ := h.q2 d2
    rw [hm] at a
    injection a with a
    injection a with a
    exact ⟨x, by rw [a], b⟩
 ·exact fun l => X.q4 ((hL 4 l).resolve_left (by decide))
 ·exact fun l => X.q5 ((hL 5 l).resolve_left (by decide))
 ·exact fun l => X.q6 ((hL 6 l).resolve_left (by decide))
 ·exact fun l => X.q7 ((hL 7 l).resolve_left (by decide))
 ·exact fun l => X.q8 ((hL 8 l).resolve_left (by decide))
 ·exact fun l => X.q9 ((hL 9 l).resolve_left (by decide))
 ·exact fun l => X.q10 ((hL 10 l).resolve_left (by decide))
theorem NI.s4 (h : NI f ad A w2 L w' v9 v18 v19 v20 v21 v22 v23 v24 v25 v26 v27) (hL : ∀ j, L' j → j = 4 ∨ L j) (d3 : L 3) {m : Nat} (hm : v21 = .agg (nodeArr0 m)) : NI f ad A w2 L' (w'.alloc (.cells (nodeArr0 m) 108)) v9 v18 v19 v20 v21 (.pointer (some ⟨w'.heap.size, 0, none⟩)) v23 v24 v25 v26 v27 := by
 have X := h.up (bAlloc (Below.refl w'.heap.size w') (.cells (nodeArr0 m) 108))
 have hsz : (w'.alloc (.cells (nodeArr0 m) 108)).heap.size = w'.heap.size + 1 := by simp
 refine ⟨X.bel, ?_, ?_, ?_, ?_, ?_, ?_, ?_, ?_, ?_, ?_, ?_, ?_, ?_⟩
 ·exact X.u24
 ·exact X.u25
 ·exact fun l => X.q0 ((hL 0 l).resolve_left (by decide))
 ·exact fun l => X.q1 ((hL 1 l).resolve_left (by decide))
 ·exact fun l => X.q2 ((hL 2 l).resolve_left (by decide))
 ·exact fun l => X.q3 ((hL 3 l).resolve_left (by decide))
 ·exact fun _ => by
    obtain ⟨x, a, b⟩ := X.q3 d3
    refine ⟨w'.heap.size, x, rfl, ?_, h.bel.size, b⟩
    rw [hm] at a
    injection a with a
    rw [← a]
    exact heap_alloc_new _ _
 ·exact fun l => X.q5 ((hL 5 l).resolve_left (by decide))
 ·exact fun l => X.q6 ((hL 6 l).resolve_left (by decide))
 ·exact fun l => X.q7 ((hL 7 l).resolve_left (by decide))
 ·exact fun l => X.q8 ((hL 8 l).resolve_left (by decide))
 ·exact fun l => X.q9 ((hL 9 l).resolve_left (by decide))
 ·exact fun l => X.q10 ((hL 10 l).resolve_left (by decide))
theorem NI.s5 (h : NI f ad A w2 L w' v9 v18 v19 v20 v21 v22 v23 v24 v25 v26 v27) (hL : ∀ j, L' j → j = 5 ∨ L j) : NI f ad A w2 L' (w'.alloc zeros14b) v9 v18 v19 v20 v21 v22 (.slice (some ⟨w'.heap.size, 0, none⟩) 14 14) v24 v25 v26 v27 := by
 have X := h.up (bAlloc (Below.refl w'.heap.size w') zeros14b)
 have hsz : (w'.alloc zeros14b).heap.size = w'.heap.size + 1 := by simp
 refine ⟨X.bel, ?_, ?_, ?_, ?_, ?_, ?_, ?_, ?_, ?_, ?_, ?_, ?_, ?_⟩
 ·exact X.u24
 ·exact X.u25
 ·exact fun l => X.q0 ((hL 0 l).resolve_left (by decide))
 ·exact fun l => X.q1 ((hL 1 l).resolve_left (by decide))
 ·exact fun l => X.q2 ((hL 2 l).resolve_left (by decide))
 ·exact fun l => X.q3 ((hL 3 l).resolve_left (by decide))
 ·exact fun l => X.q4 ((hL 4 l).resolve_left (by decide))
 ·exact fun _ => ⟨_, rfl, zeros_ints w', h.bel.size⟩
 ·exact fun l => X.q6 ((hL 6 l).resolve_left (by decide))
 ·exact fun l => X.q7 ((hL 7 l).resolve_left (by decide))
 ·exact fun l => X.q8 ((hL 8 l).resolve_left (by decide))
 ·exact fun l => X.q9 ((hL 9 l).resolve_left (by decide))
 ·exact fun l => X.q10 ((hL 10 l).resolve_left (by decide))
theorem NI.s6 (h : NI f ad A w2 L w' v9 v18 v19 v20 v21 v22 v23 v24 v25 v26 v27) (hL : ∀ j, L' j → j = 6 ∨ L j) : NI f ad A w2 L' (w'.alloc (.map #[] 0)) v9 v18 v19 v20 v21 v22 v23 (.map (some w'.heap.size)) v25 v26 v27 := by
 have X := h.up (bAlloc (Below.refl w'.heap.size w') (.map #[] 0))
 have hsz : (w'.alloc (.map #[] 0)).heap.size = w'.heap.size + 1 := by simp
 refine ⟨X.bel, ?_, ?_, ?_, ?_, ?_, ?_, ?_, ?_, ?_, ?_, ?_, ?_, ?_⟩
 ·exact fun y e => by injection e with e; injection e with e; rw [hsz]; omega
 ·exact X.u25
 ·exact fun l => X.q0 ((hL 0 l).resolve_left (by decide))
 ·exact fun l => X.q1 ((hL 1 l).resolve_left (by decide))
 ·exact fun l => by
   obtain ⟨x, a, k⟩ := h.q2 ((hL 2 l).resolve_left (by decide))
   have hlt := k.m.lt
   have k2 := k.up (bAlloc (Below.refl w'.heap.size w') (.map #[] 0))
   exact ⟨x, a, ⟨k2.m, k2.lo, fun e => by (injection e with e; injection e with e; omega), k2.b⟩⟩
 ·exact fun l => by
   obtain ⟨x, a, k⟩ := h.q3 ((hL 3 l).resolve_left (by decide))
   have hlt := k.m.lt
   have k2 := k.up (bAlloc (Below.refl w'.heap.size w') (.map #[] 0))
   exact ⟨x, a, ⟨k2.m, k2.lo, fun e => by (injection e with e; injection e with e; omega), k2.b⟩⟩
 ·exact fun l => by
   obtain ⟨r, x, a, b, c, k⟩ := h.q4 ((hL 4 l).resolve_left (by decide))
   have hlt := k.m.lt
   have k2 := k.up (bAlloc (Below.refl w'.heap.size w') (.map #[] 0))
   exact ⟨r, x, a, b.under (bAlloc (Below.refl _ _) _), c, ⟨k2.m, k2.lo, fun e => by (injection e with e; injection e with e; omega), k2.b⟩⟩
 ·exact fun l => X.q5 ((hL 5 l).resolve_left (by decide))
 ·exact fun _ => ⟨_, rfl, MapOn.new w' A, h.bel.size, fun e => Nat.lt_irrefl _ (h.u25 _ e)⟩
 ·exact fun l => X.q7 ((hL 7 l).resolve_left (by decide))
 ·exact fun l => X.q8 ((hL 8 l).resolve_left (by decide))
 ·exact fun l => X.q9 ((hL 9 l).resolve_left (by decide))
 ·exact fun l => X.q10 ((hL 10 l).resolve_left (by decide))
theorem NI.s7 (h : NI f ad A w2 L w' v9 v18 v19 v20 v21 v22 v23 v24 v25 v26 v27) (hL : ∀ j, L' j → j = 7 ∨ L j) : NI f ad A w2 L' (w'.alloc (.map #[] 0)) v9 v18 v19 v20 v21 v22 v23 v24 (.map (some w'.heap.size)) v26 v27 := by
 have X := h.up (bAlloc (Below.refl w'.heap.size w') (.map #[] 0))
 have hsz : (w'.alloc (.map #[] 0)).heap.size = w'.heap.size + 1 := by simp
 refine ⟨X.bel, ?_, ?_, ?_, ?_, ?_, ?_, ?_, ?_, ?_, ?_, ?_, ?_, ?_⟩
 ·exact X.u24
 ·exact fun y e => by injection e with e; injection e with e; rw [hsz]; omega
 ·exact fun l => X.q0 ((hL 0 l).resolve_left (by decide))
 ·exact fun l => X.q1 ((hL 1 l).resolve_left (by decide))
 ·exact fun l => by
   obtain ⟨x, a, k⟩ := h.q2 ((hL 2 l).resolve_left (by decide))
   have hlt := k.m.lt
   have k2 := k.up (bAlloc (Below.refl w'.heap.size w') (.map #[] 0))
   exact ⟨x, a, ⟨k2.m, k2.lo, k2.a, fun e => by (injection e with e; injection e with e; omega)⟩⟩
 ·exact fun l => by
   obtain ⟨x, a, k⟩ := h.q3 ((hL 3 l).resolve_left (by decide))
   have hlt := k.m.lt
   have k2 := k.up (bAlloc (Below.refl w'.heap.size w') (.map #[] 0))
   exact ⟨x, a, ⟨k2.m, k2.lo, k2.a, fun e => by (injection e with e; injection e with e; omega)⟩⟩
 ·exact fun l => by
   obtain ⟨r, x, a, b, c, k⟩ := h.q4 ((hL 4 l).resolve_left (by decide))
   have hlt := k.m.lt
   have k2 := k.up (bAlloc (Below.refl w'.heap.size w') (.map #[] 0))
   exact ⟨r, x, a, b.under (bAlloc (Below.refl _ _) _), c, ⟨k2.m, k2.lo, k2.a, fun e => by (injection e with e; injection e with e; omega)⟩⟩
 ·exact fun l => X.q5 ((hL 5 l).resolve_left (by decide))
 ·exact fun l => by
   obtain ⟨y, a, b, c, d⟩ := h.q6 ((hL 6 l).resolve_left (by decide))
   have hlt := b.lt
   exact ⟨y, a, b.up (bAlloc (Below.refl _ _) _), c, fun e => by (injection e with e; injection e with e; omega)⟩
 ·exact fun _ => ⟨_, rfl, MapOn.new w' A, h.bel.size⟩
 ·exact fun l => X.q8 ((hL 8 l).resolve_left (by decide))
 ·exact fun l => X.q9 ((hL 9 l).resolve_left (by decide))
 ·exact fun l => X.q10 ((hL 10 l).resolve_left (by decide))
theorem NI.s8 (h : NI f ad A w2 L w' v9 v18 v19 v20 v21 v22 v23 v24 v25 v26 v27) (hL : ∀ j, L' j → j = 8 ∨ L j) (d4 : L 4) (d5 : L 5) (d6 : L 6) (d7 : L 7) {r c y z : Nat} (h22 : v22 = .pointer (some ⟨r, 0, none⟩)) (h23 : v23 = .slice (some ⟨c, 0, none⟩) 14 14) (h24 : v24 = .map (some y)) (h25 : v25 = .map (some z)) : NI f ad A w2 L' w' v9 v18 v19 v20 v21 v22 v23 v24 v25 (.agg (memArr0 f ad r c y z (.slice none 0 0))) v27 := by
 have X := h
 refine ⟨X.bel, ?_, ?_, ?_, ?_, ?_, ?_, ?_, ?_, ?_, ?_, ?_, ?_, ?_⟩
 ·exact X.u24
 ·exact X.u25
 ·exact fun l => X.q0 ((hL 0 l).resolve_left (by decide))
 ·exact fun l => X.q1 ((hL 1 l).resolve_left (by decide))
 ·exact fun l => X.q2 ((hL 2 l).resolve_left (by decide))
 ·exact fun l => X.q3 ((hL 3 l).resolve_left (by decide))
 ·exact fun l => X.q4 ((hL 4 l).resolve_left (by decide))
 ·exact fun l => X.q5 ((hL 5 l).resolve_left (by decide))
 ·exact fun l => X.q6 ((hL 6 l).resolve_left (by decide))
 ·exact fun l => X.q7 ((hL 7 l).resolve_left (by decide))
 ·exact fun _ => by
    obtain ⟨r', x, a1, a2, a3, a4⟩ := h.q4 d4
    obtain ⟨c', b1, b2, b3⟩ := h.q5 d5
    obtain ⟨y', c1, c2, c3, c4⟩ := h.q6 d6
    obtain ⟨z', e1, e2, e3⟩ := h.q7 d7
    rw [h22] at a1; rw [h23] at b1; rw [h24] at c1; rw [h25] at e1 c4
    have n1 := a4.a
    have n2 := a4.b
    rw [h24] at n1; rw [h25] at n2
    simp only [Value.pointer.injEq, Option.some.injEq, Addr.mk.injEq, Value.slice.injEq, Value.map.injEq, and_true] at a1 b1 c1 e1
    subst a1 b1 c1 e1
    exact ⟨_, x, _, _, _, rfl, a2, a4.m, b2, c2, e2, ⟨fun e => n1 (by rw [e]), fun e => n2 (by rw [e]), fun e => c4 (by rw [e])⟩, a3, a4.lo, b3, c3, e3⟩
 ·exact fun l => X.q9 ((hL 9 l).resolve_left (by decide))
 ·exact fun l => X.q10 ((hL 10 l).resolve_left (by decide))
theorem NI.s9 (h : NI f ad A w2 L w' v9 v18 v19 v20 v21 v22 v23 v24 v25 v26 v27) (hL : ∀ j, L' j → j = 9 ∨ L j) (d8 : L 8) {r c y z : Nat} (h26 : v26 = .agg (memArr0 f ad r c y z (.slice none 0 0))) : NI f ad A w2 L' (w'.alloc (.cells (memArr0 f ad r c y z (.slice none 0 0)) 113)) v9 v18 v19 v20 v21 v22 v23 v24 v25 v26 (.pointer (some ⟨w'.heap.size, 0, none⟩)) := by
 have X := h.up (bAlloc (Below.refl w'.heap.size w') (.cells (memArr0 f ad r c y z (.slice none 0 0)) 113))
 have hsz : (w'.alloc (.cells (memArr0 f ad r c y z (.slice none 0 0)) 113)).heap.size = w'.heap.size + 1 := by simp
 refine ⟨X.bel, ?_, ?_, ?_, ?_, ?_, ?_, ?_, ?_, ?_, ?_, ?_, ?_, ?_⟩
 ·exact X.u24
 ·exact X.u25
 ·exact fun l => X.q0 ((hL 0 l).resolve_left (by decide))
 ·exact fun l => X.q1 ((hL 1 l).resolve_left (by decide))
 ·exact fun l => X.q2 ((hL 2 l).resolve_left (by decide))
 ·exact fun l => X.q3 ((hL 3 l).resolve_left (by decide))
 ·exact fun l => X.q4 ((hL 4 l).resolve_left (by decide))
 ·exact fun l => X.q5 ((hL 5 l).resolve_left (by decide))
 ·exact fun l => X.q6 ((hL 6 l).resolve_left (by decide))
 ·exact fun l => X.q7 ((hL 7 l).resolve_left (by decide))
 ·exact fun l => X.q8 ((hL 8 l).resolve_left (by decide))
 ·exact fun _ => by
    obtain ⟨r', x, c', y', z', a, b⟩ := X.q8 d8
    rw [h26] at a
    simp only [Value.agg.injEq, Array.mk.injEq, List.cons.injEq, Value.pointer.injEq, Option.some.injEq, Addr.mk.injEq, Value.slice.injEq, Value.map.injEq, and_true, true_and] at a
    obtain ⟨a1, a2, a3, a4⟩ := a
    subst a1 a2 a3 a4
    exact ⟨w'.heap.size, _, x, _, _, _, rfl, heap_alloc_new _ _, h.bel.size, b⟩
 ·exact fun l => X.q10 ((hL 10 l).resolve_left (by decide))
theorem NI.s10 (h : NI f ad A w2 L w' v9 v18 v19 v20 v21 v22 v23 v24 v25 v26 v27) (hL : ∀ j, L' j → j = 10 ∨ L j) (d9 : L 9) : NI f ad A w2 L' w' v27 v18 v19 v20 v21 v22 v23 v24 v25 v26 v27 := by
 have X := h
 refine ⟨X.bel, ?_, ?_, ?_, ?_, ?_, ?_, ?_, ?_, ?_, ?_, ?_, ?_, ?_⟩
 ·exact X.u24
 ·exact X.u25
 ·exact fun l => X.q0 ((hL 0 l).resolve_left (by decide))
 ·exact fun l => X.q1 ((hL 1 l).resolve_left (by decide))
 ·exact fun l => X.q2 ((hL 2 l).resolve_left (by decide))
 ·exact fun l => X.q3 ((hL 3 l).resolve_left (by decide))
 ·exact fun l => X.q4 ((hL 4 l).resolve_left (by decide))
 ·exact fun l => X.q5 ((hL 5 l).resolve_left (by decide))
 ·exact fun l => X.q6 ((hL 6 l).resolve_left (by decide))
 ·exact fun l => X.q7 ((hL 7 l).resolve_left (by decide))
 ·exact fun l => X.q8 ((hL 8 l).resolve_left (by decide))
 ·exact fun l => X.q9 ((hL 9 l).resolve_left (by decide))
 ·exact fun _ => h.q9 d9
end
/-- The invariant, as a statement on tmps. -/
def NewJ (f : Wh.Feat) (ad : Addr) (A : ByteArray) (b0 : Nat) (w2 : World) (L : Nat → Prop) (a' : Act) (w' : World) : Prop :=
 ∃ v9 v18 v19 v20 v21 v22 v23 v24 v25 v26 v27, a' = ⟨#[featVal f, .pointer (some ad), .slice none 0 0, .pointer (some ⟨b0, 0, none⟩), undef, undef, .pointer none, .int .i64 0, .int .i64 0, v9, undef, featVal f, .int .i64 0, .int .i64 0, .bool false, undef, .pointer (some ad), .bool false,
   v18, v19, v20, v21, v22, v23, v24, v25, v26, v27, undef, undef, undef, undef, undef, undef, undef], []⟩ ∧ NI f ad A w2 L w' v9 v18 v19 v20 v21 v22 v23 v24 v25 v26 v27

set_option maxHeartbeats 2000000 in
set_option maxRecDepth 100000 in
theorem planA_any (f : Wh.Feat) (ad : Addr) (r ca y z b : Nat) (w : World) (hB : BoxIs w b (memArr0 f ad r ca y z (.slice none 0 0)) 113) :
  Calls Tryz.prog 39 #[.pointer (some ⟨b, 0, none⟩), .slice none 0 0] w fun e w' => e = .returned (.int .i64 0) ∧ ∃ s, BoxIs w' b (memArr0 f ad r ca y z (.slice (some ⟨s, 0, none⟩) 14 14)) 113 ∧ Ints14 w' s ∧ w.heap.size ≤ s ∧ Kp (fun i => i = b) w w' := by
 have HB := Lib.hid hB
 have c15 : w.cell? ⟨b, 15, none⟩ = some (.slice none 0 0) := hB.cell (j := 15) rfl
 have f15 : w.frozen? ⟨b, 15, none⟩ = false := Lib.frozen_of_heap hB 15
 have hlt := hB.lt
 clear hB
 go_enter Tryz.func39, Tryz.ntmps39
 go_wp2_with fail
 go_loopg [12] 0 (fun g i wx => i = .int .i64 0 ∧ wx = w)
 case atStart => exact ⟨rfl, rfl⟩
 case round =>
  obtain ⟨rfl, rfl⟩ := hrel
  have HCl := Lib.hid cloneF_nil
  go_upto_region 16 with (go_at_call 71; refine (HCl.out _).mono ?_; rintro e w' ⟨rfl, hw⟩; (have hw2 := hw.symm; clear hw; subst hw2))
  have hx6 : BoxIs (wr.setCell ⟨b, 15, none⟩ (.slice none 0 0)) b (memArr0 f ad r ca y z (.slice none 0 0)) 113 := BoxIs.putAt HB.out 15 (.slice none 0 0)
  have hk6 : Kp (fun i => i = b) wr (wr.setCell ⟨b, 15, none⟩ (.slice none 0 0)) := (Kp.refl (fun i => i = b) wr).set (b := b) (.inl rfl) 15 _
  have HK6 := Lib.hid hk6
  clear c15 f15 hk6
  generalize wr.setCell ⟨b, 15, none⟩ (.slice none 0 0) = w6 at *
  have hal : Below w6.heap.size w6 (w6.alloc zeros14b) := bAlloc (Below.refl _ _) _
  have hx7 := hx6.under hal
  have m14 : (w6.alloc zeros14b).cell? ⟨b, 14, none⟩ = some (.slice none 0 0) := hx7.cell (j := 14) rfl
  have g14 : (w6.alloc zeros14b).frozen? ⟨b, 14, none⟩ = false := Lib.frozen_of_heap hx7 14
  have HX7 := Lib.hid hx7
  have HZ7 := Lib.hid (zeros_ints w6)
  have hne : w6.heap.size ≠ b := by have := hx6.lt; omega
  have HNe := Lib.hid hne
  have hmk := make14b
  clear hx7 hx6 hne
  go_wp2_with fail
  go_ret
  refine ⟨rfl, w6.heap.size, HX7.out.putAt 14 (.slice (some ⟨w6.heap.size, 0, none⟩) 14 14), HZ7.out.kp ((Kp.refl (fun i => i = b) _).set (b := b) (.inl rfl) 14 _) HNe.out, HK6.out.size, (HK6.out.trans (Kp.of hal)).set (b := b) (.inl rfl) 14 _⟩

theorem NI.start (f : Wh.Feat) (ad : Addr) (A : ByteArray) (w2 : World) (v9 : Value) : NI f ad A w2 (fun _ => False) w2.drew v9 undef undef undef undef undef undef undef undef undef undef :=
 ⟨⟨rfl, rfl, rfl, Nat.le_refl _, fun _ _ => rfl⟩, fun y e => (by cases e), fun y e => (by cases e), fun h => h.elim, fun h => h.elim, fun h => h.elim, fun h => h.elim, fun h => h.elim, fun h => h.elim, fun h => h.elim, fun h => h.elim, fun h => h.elim, fun h => h.elim, fun h => h.elim⟩

/-- The tree of a new store. -/
def tr0 (rb kb : Nat) : Tr := fun ks => if ks = [] then some ⟨rb, kb, ⟨#[]⟩, true, ⟨#[]⟩, 0, .slice none 0 0, ⟨#[]⟩⟩ else none
theorem tr0_some {rb kb : Nat} {ks : List ByteArray} {n : Nd} (h : tr0 rb kb ks = some n) : ks = [] ∧ n = ⟨rb, kb, ⟨#[]⟩, true, ⟨#[]⟩, 0, .slice none 0 0, ⟨#[]⟩⟩ := by
 unfold tr0 at h
 split at h
 ·rename_i hk
  injection h with h
  exact ⟨hk, h.symm⟩
 ·cases h
theorem mapF_of_on {w : World} {b : Nat} {A : ByteArray} (h : MapOn w b A none) : MapF w b (fun _ => none) := by
 obtain ⟨es, c, hb, he, _⟩ := h
 have h0 : es.toList = [] := by simpa using he
 exact ⟨es, c, hb, fun x hx => (by rw [h0] at hx; cases hx), (by rw [h0]; exact ⟨List.nodup_nil, List.nodup_nil⟩), fun k v h => (by cases h)⟩
theorem tree0 {w : World} {B rb kb : Nat} {K : ByteArray → ByteArray} (h1 : BoxIs w rb (nodeArr0 kb) 108) (h2 : MapF w kb (fun _ => none)) (h3 : B ≤ rb) (h4 : B ≤ kb) : TreeAt w B rb K (tr0 rb kb) := by
 refine ⟨⟨_, rfl, rfl, rfl⟩, fun ks k n h => absurd (tr0_some h).1 (by simp), fun ks n h => ?_, fun ks n h _ => ?_, fun ks ls n m hn hm _ => (tr0_some hn).1.trans (tr0_some hm).1.symm⟩
 ·obtain ⟨rfl, rfl⟩ := tr0_some h
  exact ⟨h1, h3⟩
 ·obtain ⟨rfl, rfl⟩ := tr0_some h
  refine ⟨?_, h4⟩
  have : (tr0 rb kb).kid [] = fun _ => none := by
   funext x
   unfold Tr.kid
   cases hx : tr0 rb kb ([] ++ [x]) with
   | none => rfl
   | some m => exact absurd (tr0_some hx).1 (by simp)
  rw [this]
  exact h2
def NewTPost (B : Nat) (f : Wh.Feat) (cb : Nat) (now : Int) (w : World) (e : Ending) (w' : World) : Prop :=
 ∃ M : MB, e = .returned (.tuple #[.pointer (some ⟨M.b, 0, none⟩), .int .i64 0]) ∧ MemT w' B M ⟨f, now, 0, 0, tr0 M.rb M.kb⟩ ∧ M.cb = cb ∧ Below w.heap.size w w'
set_option maxHeartbeats 4000000 in
set_option maxRecDepth 100000 in
theorem newT_any (B : Nat) (f : Wh.Feat) (cb : Nat) (now : Int) (w : World) (HCf : ∀ W, Calls Tryz.prog 38 #[featVal f] W fun e w' => e = .returned (.int .i64 0) ∧ Below W.heap.size W w') (hB : B ≤ w.heap.size) (hcb : BoxIs w cb #[.int .i64 now] 102) :
  Calls Tryz.prog 17 #[featVal f, .pointer (some ⟨cb, 0, none⟩), .slice none 0 0] w (NewTPost B f cb now w) := by
 obtain ⟨A, hA0⟩ : ∃ A : ByteArray, A = ⟨#[]⟩ := ⟨_, rfl⟩
 clear hA0
 obtain ⟨ad, had⟩ : ∃ ad : Addr, ad = ⟨cb, 0, none⟩ := ⟨_, rfl⟩
 rw [← had]
 have HAd := Lib.hid had
 have hb1 : Below w.heap.size w (w.alloc (featObj f)) := bAlloc (Below.refl _ _) _
 have HB := Lib.hid (featBox_new w f)
 have HC := Lib.hid HCf
 have HCb := Lib.hid hcb
 clear HCf had hcb
 unfold featVal
 go_enter Tryz.func17, Tryz.ntmps17
 go_upto_region 1 with fail
 unfold featObj at *
 generalize w.alloc (.cells #[.int .i64 f.has, .int .i64 f.sums, .int .i64 f.prec, .int .i64 f.maxName, .int .i64 f.maxPath, .int .i64 f.maxSize, .int .i64 f.page, .int .i64 f.partSize, .string f.forbid] 66) = w1 at *
 obtain ⟨k0, k1, k2, k3, k4, k5, k6, k7, k8, k9⟩ := HB.out
 go_wp2_with (go_at_call 38; refine (HC.out _).mono ?_; rintro e w2 ⟨rfl, hb2⟩)
 have HB2 := Lib.hid (HB.out.under hb2)
 clear k0 k1 k2 k3 k4 k5 k6 k7 k8 k9 HB HC
 have hmk := make14b
 have hmm := @run_makeMap Tryz.prog
 go_cut [9] (fun s9 wx => (∃ b r x c y z, s9 = .pointer (some ⟨b, 0, none⟩) ∧ BoxIs wx b (memArr0 f ad r c y z (.slice none 0 0)) 113 ∧ w2.heap.size ≤ b ∧ Bundle A w2.heap.size wx r x c y z) ∧ Below w2.heap.size w2 wx)
 case first =>
  refine wp_region_inv (NewJ f ad A w.heap.size w2) (by kernel_rfl) (by kernel_rfl) ?_ ?_ ?_
  ·exact ⟨_, _, _, _, _, _, _, _, _, _, _, rfl, NI.start f ad A w2 _⟩
  ·intro i o ho L a' w' hI hd K hK
   rcases i with _ | _ | _ | _ | _ | _ | _ | _ | _ | _ | _ | i
   ·obtain rfl : o = ⟨_, _, _, _, _, _⟩ := (Option.some.inj ho).symm
    obtain ⟨v9, v18, v19, v20, v21, v22, v23, v24, v25, v26, v27, rfl, hN⟩ := hI
    rw [if_pos (by rfl)]
    obtain ⟨k0, k1, k2, k3, k4, k5, k6, k7, k8, k9⟩ := HB2.out.under hN.bel
    have HN := Lib.hid hN
    clear hN hd
    go_wp2_with fail
    exact hK.out _ _ (fun L' hL => ⟨_, _, _, _, _, _, _, _, _, _, _, rfl, HN.out.s0 hL⟩)
   ·obtain rfl : o = ⟨_, _, _, _, _, _⟩ := (Option.some.inj ho).symm
    obtain ⟨v9, v18, v19, v20, v21, v22, v23, v24, v25, v26, v27, rfl, hN⟩ := hI
    rw [if_pos (by rfl)]
    have HN := Lib.hid hN
    clear hN hd
    go_wp2_with fail
    exact hK.out _ _ (fun L' hL => ⟨_, _, _, _, _, _, _, _, _, _, _, rfl, HN.out.s1 hL⟩)
   ·obtain rfl : o = ⟨_, _, _, _, _, _⟩ := (Option.some.inj ho).symm
    obtain ⟨v9, v18, v19, v20, v21, v22, v23, v24, v25, v26, v27, rfl, hN⟩ := hI
    rw [if_pos (by rfl)]
    have HN := Lib.hid hN
    clear hN hd
    go_wp2_with fail
    exact hK.out _ _ (fun L' hL => ⟨_, _, _, _, _, _, _, _, _, _, _, rfl, HN.out.s2 hL⟩)
   ·obtain rfl : o = ⟨_, _, _, _, _, _⟩ := (Option.some.inj ho).symm
    obtain ⟨v9, v18, v19, v20, v21, v22, v23, v24, v25, v26, v27, rfl, hN⟩ := hI
    simp [Region.binds] at hd
    have d2 := hd
    obtain ⟨m, h20, _⟩ := hN.q2 d2
    subst h20
    rw [if_pos (by rfl)]
    have HN := Lib.hid hN
    clear hN hd
    go_wp2_with fail
    exact hK.out _ _ (fun L' hL => ⟨_, _, _, _, _, _, _, _, _, _, _, rfl, HN.out.s3 hL d2 rfl⟩)
   ·obtain rfl : o = ⟨_, _, _, _, _, _⟩ := (Option.some.inj ho).symm
    obtain ⟨v9, v18, v19, v20, v21, v22, v23, v24, v25, v26, v27, rfl, hN⟩ := hI
    simp [Region.binds] at hd
    have d3 := hd
    obtain ⟨m, h21, _⟩ := hN.q3 d3
    subst h21
    rw [if_pos (by rfl)]
    have HN := Lib.hid hN
    clear hN hd
    go_wp2_with fail
    exact hK.out _ _ (fun L' hL => ⟨_, _, _, _, _, _, _, _, _, _, _, rfl, HN.out.s4 hL d3 rfl⟩)
   ·obtain rfl : o = ⟨_, _, _, _, _, _⟩ := (Option.some.inj ho).symm
    obtain ⟨v9, v18, v19, v20, v21, v22, v23, v24, v25, v26, v27, rfl, hN⟩ := hI
    rw [if_pos (by rfl)]
    have HN := Lib.hid hN
    clear hN hd
    go_wp2_with fail
    exact hK.out _ _ (fun L' hL => ⟨_, _, _, _, _, _, _, _, _, _, _, rfl, HN.out.s5 hL⟩)
   ·obtain rfl : o = ⟨_, _, _, _, _, _⟩ := (Option.some.inj ho).symm
    obtain ⟨v9, v18, v19, v20, v21, v22, v23, v24, v25, v26, v27, rfl, hN⟩ := hI
    rw [if_pos (by rfl)]
    have HN := Lib.hid hN
    clear hN hd
    go_wp2_with fail
    exact hK.out _ _ (fun L' hL => ⟨_, _, _, _, _, _, _, _, _, _, _, rfl, HN.out.s6 hL⟩)
   ·obtain rfl : o = ⟨_, _, _, _, _, _⟩ := (Option.some.inj ho).symm
    obtain ⟨v9, v18, v19, v20, v21, v22, v23, v24, v25, v26, v27, rfl, hN⟩ := hI
    rw [if_pos (by rfl)]
    have HN := Lib.hid hN
    clear hN hd
    go_wp2_with fail
    exact hK.out _ _ (fun L' hL => ⟨_, _, _, _, _, _, _, _, _, _, _, rfl, HN.out.s7 hL⟩)
   ·obtain rfl : o = ⟨_, _, _, _, _, _⟩ := (Option.some.inj ho).symm
    obtain ⟨v9, v18, v19, v20, v21, v22, v23, v24, v25, v26, v27, rfl, hN⟩ := hI
    simp [Region.binds] at hd
    obtain ⟨d0, d1, d4, d5, d6, d7⟩ := hd
    obtain rfl := hN.q0 d0
    obtain rfl := hN.q1 d1
    obtain ⟨r, x, h22, _⟩ := hN.q4 d4
    obtain ⟨c, h23, _⟩ := hN.q5 d5
    obtain ⟨y, h24, _⟩ := hN.q6 d6
    obtain ⟨z, h25, _⟩ := hN.q7 d7
    subst h22 h23 h24 h25
    rw [if_pos (by rfl)]
    have HN := Lib.hid hN
    clear hN
    unfold featVal
    go_wp2_with fail
    exact hK.out _ _ (fun L' hL => ⟨_, _, _, _, _, _, _, _, _, _, _, rfl, HN.out.s8 hL d4 d5 d6 d7 rfl rfl rfl rfl⟩)
   ·obtain rfl : o = ⟨_, _, _, _, _, _⟩ := (Option.some.inj ho).symm
    obtain ⟨v9, v18, v19, v20, v21, v22, v23, v24, v25, v26, v27, rfl, hN⟩ := hI
    simp [Region.binds] at hd
    have d8 := hd
    obtain ⟨r, x, c, y, z, h26, _⟩ := hN.q8 d8
    subst h26
    rw [if_pos (by rfl)]
    have HN := Lib.hid hN
    clear hN hd
    go_wp2_with fail
    exact hK.out _ _ (fun L' hL => ⟨_, _, _, _, _, _, _, _, _, _, _, rfl, HN.out.s9 hL d8 rfl⟩)
   ·obtain rfl : o = ⟨_, _, _, _, _, _⟩ := (Option.some.inj ho).symm
    obtain ⟨v9, v18, v19, v20, v21, v22, v23, v24, v25, v26, v27, rfl, hN⟩ := hI
    simp [Region.binds] at hd
    have d9 := hd.1
    rw [if_pos (by rfl)]
    have HN := Lib.hid hN
    clear hN hd
    go_wp2_with fail
    exact hK.out _ _ (fun L' hL => ⟨_, _, _, _, _, _, _, _, _, _, _, rfl, HN.out.s10 hL d9⟩)
   ·simp at ho
  ·rintro L a' w' ⟨v9, v18, v19, v20, v21, v22, v23, v24, v25, v26, v27, rfl, hN⟩ hall
   have h10 := Lib.hid (hN.q10 (hall 10 (by simp)))
   have hbl := Lib.hid hN.bel
   clear hN hall
   dsimp only [featVal]
   go_wp2_with fail
   go_meet
   exact ⟨h10.out, hbl.out⟩
 case rest =>
  obtain ⟨⟨b, r, x, c, y, z, rfl, hbx, hlb, hbu⟩, hb3⟩ := hcut
  have HP := Lib.hid (planA_any f ad r c y z b wc hbx)
  have HBu := Lib.hid hbu
  have HBx := Lib.hid hbx
  have HB3 : Hid (Below w.heap.size w wc) := Lib.hid (bTrans (bTrans hb1 hb2) hb3)
  have hw2 : w.heap.size ≤ w2.heap.size := Nat.le_trans hb1.size hb2.size
  clear hbx hbu hb3 HB2 hb1 hb2
  go_wp2_with (go_at_call 39; refine HP.out.mono ?_; rintro e w5 ⟨rfl, s, hs1, hs2, hs3, hs4⟩)
  go_ret2
  obtain ⟨l1, l2, l3, l4, l5⟩ := HBu.out.lo
  obtain ⟨n1, n2, n3⟩ := HBu.out.ne
  have hbn : b < wc.heap.size := HBx.out.lt
  obtain ⟨ac, hac, _⟩ := HBu.out.hc
  have hcb3 : BoxIs wc cb #[.int .i64 now] 102 := HCb.out.under HB3.out
  have hne : ∀ q, MapOn wc q A none → q ≠ b := fun q h e => HBx.out.ne_map h e.symm
  refine ⟨⟨b, cb, r, x, c, s, y, z, b, none, 0⟩, rfl, ⟨?_, hcb3.kp hs4 (hcb3.ne HBx.out (by decide)), HBu.out.hc.kp hs4 (hac.ne HBx.out (by decide)), hs2, ?_, ?_, ⟨?_, ?_, ?_⟩⟩, rfl, ?_⟩
  ·have h := hs1
   rw [HAd.out] at h
   exact h
  ·show c ≠ s
   have := hac.lt
   omega
  ·exact tree0 (HBu.out.hr.kp hs4 (HBu.out.hr.ne HBx.out (by decide))) (mapF_of_on (HBu.out.hx.kp hs4 (hne _ HBu.out.hx))) (by dsimp only; omega) (by dsimp only; omega)
  all_goals try (dsimp only; omega)
  ·refine HB3.out.trans (hs4.below (fun i hi => ?_) HB3.out.size)
   rw [hi]
   omega
end Go.Proofs.YtchfhojighopkaaGreatDoor
