/-
  The texts Me12, Vk1, Me13, Inv, Me14, Me15, in one.
-/
import Derived.Test.YtmafnjapailliaaGreatDoorMeC
import Derived.Test.YtmafnjapailliaaGreatDoorBase
import Derived.Deep.RegionHeld3
namespace Go.Proofs.YtmafnjapailliaaGreatDoor
open Go.RowKit

abbrev zeros14b : Obj := .cells #[.int .i64 0, .int .i64 0, .int .i64 0, .int .i64 0, .int .i64 0, .int .i64 0, .int .i64 0, .int .i64 0, .int .i64 0, .int .i64 0, .int .i64 0, .int .i64 0, .int .i64 0, .int .i64 0] 3
theorem make14b : ∀ w : World, (Instr.makeSlice 62 (.int .i64 14) (.int .i64 14)).run Tryz.prog w = .ok (.slice (some ⟨w.heap.size, 0, none⟩) 14 14) (w.alloc zeros14b) := fun _ => by kernel_rfl
theorem zeros_ints (w : World) : Ints14 (w.alloc zeros14b) w.heap.size := by
  refine ⟨_, heap_alloc_new w _, rfl, fun i hi => ?_⟩
  match i, hi with
  | 0, _ | 1, _ | 2, _ | 3, _ | 4, _ | 5, _ | 6, _ | 7, _ | 8, _ | 9, _ | 10, _ | 11, _ | 12, _ | 13, _ => exact ⟨0, rfl⟩
set_option maxHeartbeats 1000000 in
theorem cloneF_nil (w : World) : Calls Tryz.prog 128 #[.slice none 0 0] w fun e w' => e = .returned (.slice none 0 0) ∧ w' = w := by
  have hnil := fun W n c => Lib.run_eql_slice_nil (P := Tryz.prog) W 65 83 none n c 0 0 Tryz.underlying65
  go_enter Tryz.func128, Tryz.ntmps128
  go_wp2_with fail
  go_ret
  exact ⟨rfl, rfl⟩

abbrev nodeArr0 (x : Nat) : Array Value := nodeArr ⟨#[]⟩ true none (some x) ⟨#[]⟩ 0 ⟨#[]⟩
abbrev memArr0 (f : Wh.Feat) (ad : Addr) (r ca y z : Nat) (si : Value) : Array Value := #[.int .i64 f.has, .int .i64 f.sums, .int .i64 f.prec, .int .i64 f.maxName, .int .i64 f.maxPath, .int .i64 f.maxSize, .int .i64 f.page, .int .i64 f.partSize, .string f.forbid,
  .pointer (some ad), .pointer (some ⟨r, 0, none⟩), .int .i64 0, .int .i64 0, .slice (some ⟨ca, 0, none⟩) 14 14, si, .slice none 0 0, .int .i64 0, .slice none 0 0, .map (some y), .map (some z)]
structure Kid (A : ByteArray) (B : Nat) (w : World) (x : Nat) (v24 v25 : Value) : Prop where
  m : MapOn w x A none
  lo : B ≤ x
  a : v24 ≠ .map (some x)
  b : v25 ≠ .map (some x)
structure Bundle (A : ByteArray) (B : Nat) (w : World) (r x ca y z : Nat) : Prop where
  hr : BoxIs w r (nodeArr0 x) 174
  hx : MapOn w x A none
  hc : Ints14 w ca
  hy : MapOn w y A none
  hz : MapOn w z A none
  ne : x ≠ y ∧ x ≠ z ∧ y ≠ z
  lo : B ≤ r ∧ B ≤ x ∧ B ≤ ca ∧ B ≤ y ∧ B ≤ z
theorem MapOn.up {w w' : World} {b : Nat} {key : ByteArray} {o : Option Value} (h : MapOn w b key o) (hb : Below w.heap.size w w') : MapOn w' b key o := h.kp (Kp.of (F := fun _ => False) hb) (fun e => e)
theorem Ints14.up {w w' : World} {b : Nat} (h : Ints14 w b) (hb : Below w.heap.size w w') : Ints14 w' b := h.kp (Kp.of (F := fun _ => False) hb) (fun e => e)
theorem Kid.up {A : ByteArray} {B : Nat} {w w' : World} {x : Nat} {v24 v25 : Value} (h : Kid A B w x v24 v25) (hb : Below w.heap.size w w') : Kid A B w' x v24 v25 := ⟨h.m.up hb, h.lo, h.a, h.b⟩
theorem Bundle.up {A : ByteArray} {B : Nat} {w w' : World} {r x ca y z : Nat} (h : Bundle A B w r x ca y z) (hb : Below w.heap.size w w') : Bundle A B w' r x ca y z := ⟨h.hr.under hb, h.hx.up hb, h.hc.up hb, h.hy.up hb, h.hz.up hb, h.ne, h.lo⟩

/-- What holds whatever has come up. -/
structure NI (f : Wh.Feat) (ad : Addr) (A : ByteArray) (w2 : World) (L : Nat → Prop) (w' : World) (v9 v18 v19 v20 v21 v22 v23 v24 v25 v26 v27 : Value) : Prop where
  bel : Below w2.heap.size w2 w'
  u24 : ∀ y, v24 = .map (some y) → y < w'.heap.size
  u25 : ∀ y, v25 = .map (some y) → y < w'.heap.size
  q0 : L 0 → v18 = featVal f
  q1 : L 1 → v19 = .pointer (some ad)
  q2 : L 2 → ∃ x, v20 = .map (some x) ∧ Kid A w2.heap.size w' x v24 v25
  q3 : L 3 → ∃ x, v21 = .agg (nodeArr0 x) ∧ Kid A w2.heap.size w' x v24 v25
  q4 : L 4 → ∃ r x, v22 = .pointer (some ⟨r, 0, none⟩) ∧ BoxIs w' r (nodeArr0 x) 174 ∧ w2.heap.size ≤ r ∧ Kid A w2.heap.size w' x v24 v25
  q5 : L 5 → ∃ c, v23 = .slice (some ⟨c, 0, none⟩) 14 14 ∧ Ints14 w' c ∧ w2.heap.size ≤ c
  q6 : L 6 → ∃ y, v24 = .map (some y) ∧ MapOn w' y A none ∧ w2.heap.size ≤ y ∧ v25 ≠ .map (some y)
  q7 : L 7 → ∃ z, v25 = .map (some z) ∧ MapOn w' z A none ∧ w2.heap.size ≤ z
  q8 : L 8 → ∃ r x c y z, v26 = .agg (memArr0 f ad r c y z (.slice none 0 0)) ∧ Bundle A w2.heap.size w' r x c y z
  q9 : L 9 → ∃ b r x c y z, v27 = .pointer (some ⟨b, 0, none⟩) ∧ BoxIs w' b (memArr0 f ad r c y z (.slice none 0 0)) 89 ∧ w2.heap.size ≤ b ∧ Bundle A w2.heap.size w' r x c y z
  q10 : L 10 → ∃ b r x c y z, v9 = .pointer (some ⟨b, 0, none⟩) ∧ BoxIs w' b (memArr0 f ad r c y z (.slice none 0 0)) 89 ∧ w2.heap.size ≤ b ∧ Bundle A w2.heap.size w' r x c y z
section
variable {f : Wh.Feat} {ad : Addr} {A : ByteArray} {w2 w' : World} {L L' : Nat → Prop} {v9 v18 v19 v20 v21 v22 v23 v24 v25 v26 v27 : Value}
theorem NI.up (h : NI f ad A w2 L w' v9 v18 v19 v20 v21 v22 v23 v24 v25 v26 v27) {w'' : World} (hb : Below w'.heap.size w' w'') : NI f ad A w2 L w'' v9 v18 v19 v20 v21 v22 v23 v24 v25 v26 v27 where
  bel := bTrans h.bel hb
  u24 := fun y e => Nat.lt_of_lt_of_le (h.u24 y e) hb.size
  u25 := fun y e => Nat.lt_of_lt_of_le (h.u25 y e) hb.size
  q0 := h.q0
  q1 := h.q1
  q2 := fun l => by obtain ⟨x, a, b⟩ := h.q2 l; exact ⟨x, a, b.up hb⟩
  q3 := fun l => by obtain ⟨x, a, b⟩ := h.q3 l; exact ⟨x, a, b.up hb⟩
  q4 := fun l => by obtain ⟨r, x, a, b, c, d⟩ := h.q4 l; exact ⟨r, x, a, b.under hb, c, d.up hb⟩
  q5 := fun l => by obtain ⟨c, a, b, d⟩ := h.q5 l; exact ⟨c, a, b.up hb, d⟩
  q6 := fun l => by obtain ⟨y, a, b, c, d⟩ := h.q6 l; exact ⟨y, a, b.up hb, c, d⟩
  q7 := fun l => by obtain ⟨z, a, b, c⟩ := h.q7 l; exact ⟨z, a, b.up hb, c⟩
  q8 := fun l => by obtain ⟨r, x, c, y, z, a, b⟩ := h.q8 l; exact ⟨r, x, c, y, z, a, b.up hb⟩
  q9 := fun l => by obtain ⟨b, r, x, c, y, z, a, d, e, g⟩ := h.q9 l; exact ⟨b, r, x, c, y, z, a, d.under hb, e, g.up hb⟩
  q10 := fun l => by obtain ⟨b, r, x, c, y, z, a, d, e, g⟩ := h.q10 l; exact ⟨b, r, x, c, y, z, a, d.under hb, e, g.up hb⟩
theorem NI.s0 (h : NI f ad A w2 L w' v9 v18 v19 v20 v21 v22 v23 v24 v25 v26 v27) (hL : ∀ j, L' j → j = 0 ∨ L j) : NI f ad A w2 L' w' v9 (featVal f) v19 v20 v21 v22 v23 v24 v25 v26 v27 := by
  have X := h
  refine ⟨X.bel, ?_, ?_, ?_, ?_, ?_, ?_, ?_, ?_, ?_, ?_, ?_, ?_, ?_⟩
  · exact X.u24
  · exact X.u25
  · exact fun _ => rfl
  · exact fun l => X.q1 ((hL 1 l).resolve_left (by decide))
  · exact fun l => X.q2 ((hL 2 l).resolve_left (by decide))
  · exact fun l => X.q3 ((hL 3 l).resolve_left (by decide))
  · exact fun l => X.q4 ((hL 4 l).resolve_left (by decide))
  · exact fun l => X.q5 ((hL 5 l).resolve_left (by decide))
  · exact fun l => X.q6 ((hL 6 l).resolve_left (by decide))
  · exact fun l => X.q7 ((hL 7 l).resolve_left (by decide))
  · exact fun l => X.q8 ((hL 8 l).resolve_left (by decide))
  · exact fun l => X.q9 ((hL 9 l).resolve_left (by decide))
  · exact fun l => X.q10 ((hL 10 l).resolve_left (by decide))
theorem NI.s1 (h : NI f ad A w2 L w' v9 v18 v19 v20 v21 v22 v23 v24 v25 v26 v27) (hL : ∀ j, L' j → j = 1 ∨ L j) : NI f ad A w2 L' w' v9 v18 (.pointer (some ad)) v20 v21 v22 v23 v24 v25 v26 v27 := by
  have X := h
  refine ⟨X.bel, ?_, ?_, ?_, ?_, ?_, ?_, ?_, ?_, ?_, ?_, ?_, ?_, ?_⟩
  · exact X.u24
  · exact X.u25
  · exact fun l => X.q0 ((hL 0 l).resolve_left (by decide))
  · exact fun _ => rfl
  · exact fun l => X.q2 ((hL 2 l).resolve_left (by decide))
  · exact fun l => X.q3 ((hL 3 l).resolve_left (by decide))
  · exact fun l => X.q4 ((hL 4 l).resolve_left (by decide))
  · exact fun l => X.q5 ((hL 5 l).resolve_left (by decide))
  · exact fun l => X.q6 ((hL 6 l).resolve_left (by decide))
  · exact fun l => X.q7 ((hL 7 l).resolve_left (by decide))
  · exact fun l => X.q8 ((hL 8 l).resolve_left (by decide))
  · exact fun l => X.q9 ((hL 9 l).resolve_left (by decide))
  · exact fun l => X.q10 ((hL 10 l).resolve_left (by decide))
theorem NI.s2 (h : NI f ad A w2 L w' v9 v18 v19 v20 v21 v22 v23 v24 v25 v26 v27) (hL : ∀ j, L' j → j = 2 ∨ L j) : NI f ad A w2 L' (w'.alloc (.map #[] 0)) v9 v18 v19 (.map (some w'.heap.size)) v21 v22 v23 v24 v25 v26 v27 := by
  have X := h.up (bAlloc (Below.refl w'.heap.size w') (.map #[] 0))
  have hsz : (w'.alloc (.map #[] 0)).heap.size = w'.heap.size + 1 := by simp
  refine ⟨X.bel, ?_, ?_, ?_, ?_, ?_, ?_, ?_, ?_, ?_, ?_, ?_, ?_, ?_⟩
  · exact X.u24
  · exact X.u25
  · exact fun l => X.q0 ((hL 0 l).resolve_left (by decide))
  · exact fun l => X.q1 ((hL 1 l).resolve_left (by decide))
  · exact fun _ => ⟨_, rfl, MapOn.new w' A, h.bel.size, fun e => Nat.lt_irrefl _ (h.u24 _ e), fun e => Nat.lt_irrefl _ (h.u25 _ e)⟩
  · exact fun l => X.q3 ((hL 3 l).resolve_left (by decide))
  · exact fun l => X.q4 ((hL 4 l).resolve_left (by decide))
  · exact fun l => X.q5 ((hL 5 l).resolve_left (by decide))
  · exact fun l => X.q6 ((hL 6 l).resolve_left (by decide))
  · exact fun l => X.q7 ((hL 7 l).resolve_left (by decide))
  · exact fun l => X.q8 ((hL 8 l).resolve_left (by decide))
  · exact fun l => X.q9 ((hL 9 l).resolve_left (by decide))
  · exact fun l => X.q10 ((hL 10 l).resolve_left (by decide))
theorem NI.s3 (h : NI f ad A w2 L w' v9 v18 v19 v20 v21 v22 v23 v24 v25 v26 v27) (hL : ∀ j, L' j → j = 3 ∨ L j) (d2 : L 2) {m : Nat} (hm : v20 = .map (some m)) : NI f ad A w2 L' w' v9 v18 v19 v20 (.agg (nodeArr0 m)) v22 v23 v24 v25 v26 v27 := by
  have X := h
  refine ⟨X.bel, ?_, ?_, ?_, ?_, ?_, ?_, ?_, ?_, ?_, ?_, ?_, ?_, ?_⟩
  · exact X.u24
  · exact X.u25
  · exact fun l => X.q0 ((hL 0 l).resolve_left (by decide))
  · exact fun l => X.q1 ((hL 1 l).resolve_left (by decide))
  · exact fun l => X.q2 ((hL 2 l).resolve_left (by decide))
  · exact fun _ => by
        obtain ⟨x, a, b⟩ := h.q2 d2
        rw [hm] at a
        injection a with a
        injection a with a
        exact ⟨x, by rw [a], b⟩
  · exact fun l => X.q4 ((hL 4 l).resolve_left (by decide))
  · exact fun l => X.q5 ((hL 5 l).resolve_left (by decide))
  · exact fun l => X.q6 ((hL 6 l).resolve_left (by decide))
  · exact fun l => X.q7 ((hL 7 l).resolve_left (by decide))
  · exact fun l => X.q8 ((hL 8 l).resolve_left (by decide))
  · exact fun l => X.q9 ((hL 9 l).resolve_left (by decide))
  · exact fun l => X.q10 ((hL 10 l).resolve_left (by decide))
theorem NI.s4 (h : NI f ad A w2 L w' v9 v18 v19 v20 v21 v22 v23 v24 v25 v26 v27) (hL : ∀ j, L' j → j = 4 ∨ L j) (d3 : L 3) {m : Nat} (hm : v21 = .agg (nodeArr0 m)) : NI f ad A w2 L' (w'.alloc (.cells (nodeArr0 m) 174)) v9 v18 v19 v20 v21 (.pointer (some ⟨w'.heap.size, 0, none⟩)) v23 v24 v25 v26 v27 := by
  have X := h.up (bAlloc (Below.refl w'.heap.size w') (.cells (nodeArr0 m) 174))
  have hsz : (w'.alloc (.cells (nodeArr0 m) 174)).heap.size = w'.heap.size + 1 := by simp
  refine ⟨X.bel, ?_, ?_, ?_, ?_, ?_, ?_, ?_, ?_, ?_, ?_, ?_, ?_, ?_⟩
  · exact X.u24
  · exact X.u25
  · exact fun l => X.q0 ((hL 0 l).resolve_left (by decide))
  · exact fun l => X.q1 ((hL 1 l).resolve_left (by decide))
  · exact fun l => X.q2 ((hL 2 l).resolve_left (by decide))
  · exact fun l => X.q3 ((hL 3 l).resolve_left (by decide))
  · exact fun _ => by
        obtain ⟨x, a, b⟩ := X.q3 d3
        refine ⟨w'.heap.size, x, rfl, ?_, h.bel.size, b⟩
        rw [hm] at a
        injection a with a
        rw [← a]
        exact heap_alloc_new _ _
  · exact fun l => X.q5 ((hL 5 l).resolve_left (by decide))
  · exact fun l => X.q6 ((hL 6 l).resolve_left (by decide))
  · exact fun l => X.q7 ((hL 7 l).resolve_left (by decide))
  · exact fun l => X.q8 ((hL 8 l).resolve_left (by decide))
  · exact fun l => X.q9 ((hL 9 l).resolve_left (by decide))
  · exact fun l => X.q10 ((hL 10 l).resolve_left (by decide))
theorem NI.s5 (h : NI f ad A w2 L w' v9 v18 v19 v20 v21 v22 v23 v24 v25 v26 v27) (hL : ∀ j, L' j → j = 5 ∨ L j) : NI f ad A w2 L' (w'.alloc zeros14b) v9 v18 v19 v20 v21 v22 (.slice (some ⟨w'.heap.size, 0, none⟩) 14 14) v24 v25 v26 v27 := by
  have X := h.up (bAlloc (Below.refl w'.heap.size w') zeros14b)
  have hsz : (w'.alloc zeros14b).heap.size = w'.heap.size + 1 := by simp
  refine ⟨X.bel, ?_, ?_, ?_, ?_, ?_, ?_, ?_, ?_, ?_, ?_, ?_, ?_, ?_⟩
  · exact X.u24
  · exact X.u25
  · exact fun l => X.q0 ((hL 0 l).resolve_left (by decide))
  · exact fun l => X.q1 ((hL 1 l).resolve_left (by decide))
  · exact fun l => X.q2 ((hL 2 l).resolve_left (by decide))
  · exact fun l => X.q3 ((hL 3 l).resolve_left (by decide))
  · exact fun l => X.q4 ((hL 4 l).resolve_left (by decide))
  · exact fun _ => ⟨_, rfl, zeros_ints w', h.bel.size⟩
  · exact fun l => X.q6 ((hL 6 l).resolve_left (by decide))
  · exact fun l => X.q7 ((hL 7 l).resolve_left (by decide))
  · exact fun l => X.q8 ((hL 8 l).resolve_left (by decide))
  · exact fun l => X.q9 ((hL 9 l).resolve_left (by decide))
  · exact fun l => X.q10 ((hL 10 l).resolve_left (by decide))
theorem NI.s6 (h : NI f ad A w2 L w' v9 v18 v19 v20 v21 v22 v23 v24 v25 v26 v27) (hL : ∀ j, L' j → j = 6 ∨ L j) : NI f ad A w2 L' (w'.alloc (.map #[] 0)) v9 v18 v19 v20 v21 v22 v23 (.map (some w'.heap.size)) v25 v26 v27 := by
  have X := h.up (bAlloc (Below.refl w'.heap.size w') (.map #[] 0))
  have hsz : (w'.alloc (.map #[] 0)).heap.size = w'.heap.size + 1 := by simp
  refine ⟨X.bel, ?_, ?_, ?_, ?_, ?_, ?_, ?_, ?_, ?_, ?_, ?_, ?_, ?_⟩
  · exact fun y e => by injection e with e; injection e with e; rw [hsz]; omega
  · exact X.u25
  · exact fun l => X.q0 ((hL 0 l).resolve_left (by decide))
  · exact fun l => X.q1 ((hL 1 l).resolve_left (by decide))
  · exact fun l => by
      obtain ⟨x, a, k⟩ := h.q2 ((hL 2 l).resolve_left (by decide))
      have hlt := k.m.lt
      have k2 := k.up (bAlloc (Below.refl w'.heap.size w') (.map #[] 0))
      exact ⟨x, a, ⟨k2.m, k2.lo, fun e => by (injection e with e; injection e with e; omega), k2.b⟩⟩
  · exact fun l => by
      obtain ⟨x, a, k⟩ := h.q3 ((hL 3 l).resolve_left (by decide))
      have hlt := k.m.lt
      have k2 := k.up (bAlloc (Below.refl w'.heap.size w') (.map #[] 0))
      exact ⟨x, a, ⟨k2.m, k2.lo, fun e => by (injection e with e; injection e with e; omega), k2.b⟩⟩
  · exact fun l => by
      obtain ⟨r, x, a, b, c, k⟩ := h.q4 ((hL 4 l).resolve_left (by decide))
      have hlt := k.m.lt
      have k2 := k.up (bAlloc (Below.refl w'.heap.size w') (.map #[] 0))
      exact ⟨r, x, a, b.under (bAlloc (Below.refl _ _) _), c, ⟨k2.m, k2.lo, fun e => by (injection e with e; injection e with e; omega), k2.b⟩⟩
  · exact fun l => X.q5 ((hL 5 l).resolve_left (by decide))
  · exact fun _ => ⟨_, rfl, MapOn.new w' A, h.bel.size, fun e => Nat.lt_irrefl _ (h.u25 _ e)⟩
  · exact fun l => X.q7 ((hL 7 l).resolve_left (by decide))
  · exact fun l => X.q8 ((hL 8 l).resolve_left (by decide))
  · exact fun l => X.q9 ((hL 9 l).resolve_left (by decide))
  · exact fun l => X.q10 ((hL 10 l).resolve_left (by decide))
theorem NI.s7 (h : NI f ad A w2 L w' v9 v18 v19 v20 v21 v22 v23 v24 v25 v26 v27) (hL : ∀ j, L' j → j = 7 ∨ L j) : NI f ad A w2 L' (w'.alloc (.map #[] 0)) v9 v18 v19 v20 v21 v22 v23 v24 (.map (some w'.heap.size)) v26 v27 := by
  have X := h.up (bAlloc (Below.refl w'.heap.size w') (.map #[] 0))
  have hsz : (w'.alloc (.map #[] 0)).heap.size = w'.heap.size + 1 := by simp
  refine ⟨X.bel, ?_, ?_, ?_, ?_, ?_, ?_, ?_, ?_, ?_, ?_, ?_, ?_, ?_⟩
  · exact X.u24
  · exact fun y e => by injection e with e; injection e with e; rw [hsz]; omega
  · exact fun l => X.q0 ((hL 0 l).resolve_left (by decide))
  · exact fun l => X.q1 ((hL 1 l).resolve_left (by decide))
  · exact fun l => by
      obtain ⟨x, a, k⟩ := h.q2 ((hL 2 l).resolve_left (by decide))
      have hlt := k.m.lt
      have k2 := k.up (bAlloc (Below.refl w'.heap.size w') (.map #[] 0))
      exact ⟨x, a, ⟨k2.m, k2.lo, k2.a, fun e => by (injection e with e; injection e with e; omega)⟩⟩
  · exact fun l => by
      obtain ⟨x, a, k⟩ := h.q3 ((hL 3 l).resolve_left (by decide))
      have hlt := k.m.lt
      have k2 := k.up (bAlloc (Below.refl w'.heap.size w') (.map #[] 0))
      exact ⟨x, a, ⟨k2.m, k2.lo, k2.a, fun e => by (injection e with e; injection e with e; omega)⟩⟩
  · exact fun l => by
      obtain ⟨r, x, a, b, c, k⟩ := h.q4 ((hL 4 l).resolve_left (by decide))
      have hlt := k.m.lt
      have k2 := k.up (bAlloc (Below.refl w'.heap.size w') (.map #[] 0))
      exact ⟨r, x, a, b.under (bAlloc (Below.refl _ _) _), c, ⟨k2.m, k2.lo, k2.a, fun e => by (injection e with e; injection e with e; omega)⟩⟩
  · exact fun l => X.q5 ((hL 5 l).resolve_left (by decide))
  · exact fun l => by
      obtain ⟨y, a, b, c, d⟩ := h.q6 ((hL 6 l).resolve_left (by decide))
      have hlt := b.lt
      exact ⟨y, a, b.up (bAlloc (Below.refl _ _) _), c, fun e => by (injection e with e; injection e with e; omega)⟩
  · exact fun _ => ⟨_, rfl, MapOn.new w' A, h.bel.size⟩
  · exact fun l => X.q8 ((hL 8 l).resolve_left (by decide))
  · exact fun l => X.q9 ((hL 9 l).resolve_left (by decide))
  · exact fun l => X.q10 ((hL 10 l).resolve_left (by decide))
theorem NI.s8 (h : NI f ad A w2 L w' v9 v18 v19 v20 v21 v22 v23 v24 v25 v26 v27) (hL : ∀ j, L' j → j = 8 ∨ L j) (d4 : L 4) (d5 : L 5) (d6 : L 6) (d7 : L 7) {r c y z : Nat} (h22 : v22 = .pointer (some ⟨r, 0, none⟩)) (h23 : v23 = .slice (some ⟨c, 0, none⟩) 14 14) (h24 : v24 = .map (some y)) (h25 : v25 = .map (some z)) : NI f ad A w2 L' w' v9 v18 v19 v20 v21 v22 v23 v24 v25 (.agg (memArr0 f ad r c y z (.slice none 0 0))) v27 := by
  have X := h
  refine ⟨X.bel, ?_, ?_, ?_, ?_, ?_, ?_, ?_, ?_, ?_, ?_, ?_, ?_, ?_⟩
  · exact X.u24
  · exact X.u25
  · exact fun l => X.q0 ((hL 0 l).resolve_left (by decide))
  · exact fun l => X.q1 ((hL 1 l).resolve_left (by decide))
  · exact fun l => X.q2 ((hL 2 l).resolve_left (by decide))
  · exact fun l => X.q3 ((hL 3 l).resolve_left (by decide))
  · exact fun l => X.q4 ((hL 4 l).resolve_left (by decide))
  · exact fun l => X.q5 ((hL 5 l).resolve_left (by decide))
  · exact fun l => X.q6 ((hL 6 l).resolve_left (by decide))
  · exact fun l => X.q7 ((hL 7 l).resolve_left (by decide))
  · exact fun _ => by
        obtain ⟨r', x, a1, a2, a3, a4⟩ := h.q4 d4
        obtain ⟨c', b1, b2, b3⟩ := h.q5 d5
        obtain ⟨y', c1, c2, c3, c4⟩ := h.q6 d6
        obtain ⟨z', e1, e2, e3⟩ := h.q7 d7
        rw [h22] at a1; rw [h23] at b1; rw [h24] at c1; rw [h25] at e1 c4
        have n1 := a4.a
        have n2 := a4.b
        rw [h24] at n1; rw [h25] at n2
        simp only [Value.pointer.injEq, Option.some.injEq, Addr.mk.injEq, Value.slice.injEq, Value.map.injEq, and_true] at a1 b1 c1 e1
        subst a1 b1 c1 e1
        exact ⟨_, x, _, _, _, rfl, a2, a4.m, b2, c2, e2, ⟨fun e => n1 (by rw [e]), fun e => n2 (by rw [e]), fun e => c4 (by rw [e])⟩, a3, a4.lo, b3, c3, e3⟩
  · exact fun l => X.q9 ((hL 9 l).resolve_left (by decide))
  · exact fun l => X.q10 ((hL 10 l).resolve_left (by decide))
theorem NI.s9 (h : NI f ad A w2 L w' v9 v18 v19 v20 v21 v22 v23 v24 v25 v26 v27) (hL : ∀ j, L' j → j = 9 ∨ L j) (d8 : L 8) {r c y z : Nat} (h26 : v26 = .agg (memArr0 f ad r c y z (.slice none 0 0))) : NI f ad A w2 L' (w'.alloc (.cells (memArr0 f ad r c y z (.slice none 0 0)) 89)) v9 v18 v19 v20 v21 v22 v23 v24 v25 v26 (.pointer (some ⟨w'.heap.size, 0, none⟩)) := by
  have X := h.up (bAlloc (Below.refl w'.heap.size w') (.cells (memArr0 f ad r c y z (.slice none 0 0)) 89))
  have hsz : (w'.alloc (.cells (memArr0 f ad r c y z (.slice none 0 0)) 89)).heap.size = w'.heap.size + 1 := by simp
  refine ⟨X.bel, ?_, ?_, ?_, ?_, ?_, ?_, ?_, ?_, ?_, ?_, ?_, ?_, ?_⟩
  · exact X.u24
  · exact X.u25
  · exact fun l => X.q0 ((hL 0 l).resolve_left (by decide))
  · exact fun l => X.q1 ((hL 1 l).resolve_left (by decide))
  · exact fun l => X.q2 ((hL 2 l).resolve_left (by decide))
  · exact fun l => X.q3 ((hL 3 l).resolve_left (by decide))
  · exact fun l => X.q4 ((hL 4 l).resolve_left (by decide))
  · exact fun l => X.q5 ((hL 5 l).resolve_left (by decide))
  · exact fun l => X.q6 ((hL 6 l).resolve_left (by decide))
  · exact fun l => X.q7 ((hL 7 l).resolve_left (by decide))
  · exact fun l => X.q8 ((hL 8 l).resolve_left (by decide))
  · exact fun _ => by
        obtain ⟨r', x, c', y', z', a, b⟩ := X.q8 d8
        rw [h26] at a
        simp only [Value.agg.injEq, Array.mk.injEq, List.cons.injEq, Value.pointer.injEq, Option.some.injEq, Addr.mk.injEq, Value.slice.injEq, Value.map.injEq, and_true, true_and] at a
        obtain ⟨a1, a2, a3, a4⟩ := a
        subst a1 a2 a3 a4
        exact ⟨w'.heap.size, _, x, _, _, _, rfl, heap_alloc_new _ _, h.bel.size, b⟩
  · exact fun l => X.q10 ((hL 10 l).resolve_left (by decide))
theorem NI.s10 (h : NI f ad A w2 L w' v9 v18 v19 v20 v21 v22 v23 v24 v25 v26 v27) (hL : ∀ j, L' j → j = 10 ∨ L j) (d9 : L 9) : NI f ad A w2 L' w' v27 v18 v19 v20 v21 v22 v23 v24 v25 v26 v27 := by
  have X := h
  refine ⟨X.bel, ?_, ?_, ?_, ?_, ?_, ?_, ?_, ?_, ?_, ?_, ?_, ?_, ?_⟩
  · exact X.u24
  · exact X.u25
  · exact fun l => X.q0 ((hL 0 l).resolve_left (by decide))
  · exact fun l => X.q1 ((hL 1 l).resolve_left (by decide))
  · exact fun l => X.q2 ((hL 2 l).resolve_left (by decide))
  · exact fun l => X.q3 ((hL 3 l).resolve_left (by decide))
  · exact fun l => X.q4 ((hL 4 l).resolve_left (by decide))
  · exact fun l => X.q5 ((hL 5 l).resolve_left (by decide))
  · exact fun l => X.q6 ((hL 6 l).resolve_left (by decide))
  · exact fun l => X.q7 ((hL 7 l).resolve_left (by decide))
  · exact fun l => X.q8 ((hL 8 l).resolve_left (by decide))
  · exact fun l => X.q9 ((hL 9 l).resolve_left (by decide))
  · exact fun _ => h.q9 d9
end
/-- The invariant, as a statement on tmps. -/
def NewJ (f : Wh.Feat) (ad : Addr) (A : ByteArray) (b0 : Nat) (w2 : World) (L : Nat → Prop) (a' : Act) (w' : World) : Prop :=
  ∃ v9 v18 v19 v20 v21 v22 v23 v24 v25 v26 v27, a' = ⟨#[featVal f, .pointer (some ad), .slice none 0 0, .pointer (some ⟨b0, 0, none⟩), undef, undef, .pointer none, .int .i64 0, .int .i64 0, v9, undef, featVal f, .int .i64 0, .int .i64 0, .bool false, undef, .pointer (some ad), .bool false,
      v18, v19, v20, v21, v22, v23, v24, v25, v26, v27, undef, undef, undef, undef, undef, undef, undef], []⟩ ∧ NI f ad A w2 L w' v9 v18 v19 v20 v21 v22 v23 v24 v25 v26 v27
end Go.Proofs.YtmafnjapailliaaGreatDoor
namespace Wh.Vk
variable {S : Type}
/-- A path: what it holds, its versions by number, the last number. -/
structure V (S : Type) where
  cur : Option S
  vers : List (Nat × S)
  num : Nat
def cut (l : List (Nat × S)) : List (Nat × S) := if 20 < l.length then l.drop 1 else l
def V.keep (v : V S) : V S :=
  match v.cur with
  | none => v
  | some c => ⟨v.cur, cut (v.vers ++ [(v.num + 1, c)]), v.num + 1⟩
def V.put (v : V S) (s : S) : V S := ⟨some s, v.keep.vers, v.keep.num⟩
def V.remove (v : V S) : V S := ⟨none, v.keep.vers, v.keep.num⟩
/-- The law's round. -/
def V.round (i : Nat) (v : V S) (s : S) : V S := if i % 5 = 4 then v.remove.put s else v.put s
/-- The first n texts as versions. -/
def allV (l : List S) : List (Nat × S) := (l.zipIdx 1).map fun x => (x.2, x.1)
theorem allV_len (l : List S) : (allV l).length = l.length := by simp [allV]
theorem allV_snoc (l : List S) (c : S) : allV (l ++ [c]) = allV l ++ [(l.length + 1, c)] := by
  unfold allV
  rw [List.zipIdx_append, List.map_append]
  simp [Nat.add_comm]
/-- What a path is behind the texts l and then c. -/
def Is (v : V S) (l : List S) (c : S) : Prop := v.cur = some c ∧ v.num = l.length ∧ v.vers = (allV l).drop (l.length - 20)
theorem cut_next (l : List S) (c : S) : cut ((allV l).drop (l.length - 20) ++ [(l.length + 1, c)]) = (allV (l ++ [c])).drop (l.length + 1 - 20) := by
  have h1 : (allV l).drop (l.length - 20) ++ [(l.length + 1, c)] = (allV (l ++ [c])).drop (l.length - 20) := by
    rw [allV_snoc, List.drop_append_of_le_length (by rw [allV_len]; omega)]
  rw [h1, cut]
  have hl : ((allV (l ++ [c])).drop (l.length - 20)).length = l.length + 1 - (l.length - 20) := by
    rw [List.length_drop, allV_len, List.length_append]
    rfl
  split
  · rename_i h
    rw [hl] at h
    rw [List.drop_drop]
    congr 1
    omega
  · rename_i h
    rw [hl] at h
    congr 1
    omega
theorem Is.keep {v : V S} {l : List S} {c : S} (h : Is v l c) : v.keep.num = (l ++ [c]).length ∧ v.keep.vers = (allV (l ++ [c])).drop ((l ++ [c]).length - 20) := by
  obtain ⟨h1, h2, h3⟩ := h
  unfold V.keep
  rw [h1]
  simp only [h2, h3, List.length_append, List.length_singleton]
  exact ⟨trivial, cut_next l c⟩
theorem Is.round {v : V S} {l : List S} {c : S} (h : Is v l c) (i : Nat) (s : S) : Is (v.round i s) (l ++ [c]) s := by
  have hk := h.keep
  unfold V.round
  split
  · exact ⟨rfl, hk.1, hk.2⟩
  · exact ⟨rfl, hk.1, hk.2⟩
theorem Is.first (s : S) : Is (V.round 0 ⟨none, [], 0⟩ s) [] s := ⟨rfl, rfl, rfl⟩
theorem Is.number {v : V S} {l : List S} {c : S} (h : Is v l c) {i : Nat} (hi : i < v.vers.length) : ∃ s, l[l.length - 20 + i]? = some s ∧ v.vers[i]? = some (l.length - 20 + i + 1, s) := by
  rw [h.2.2] at hi ⊢
  rw [List.length_drop, allV_len] at hi
  have hlt : l.length - 20 + i < l.length := by omega
  refine ⟨_, List.getElem?_eq_getElem hlt, ?_⟩
  rw [List.getElem?_drop]
  simp [allV, List.getElem?_eq_getElem hlt]
  omega
end Wh.Vk
namespace Go.Proofs.YtmafnjapailliaaGreatDoor
open Go.RowKit Wh.Vk

theorem feat_prec {f : Wh.Feat} (h : Wh.featErr f = 0) : 1 ≤ f.prec ∧ f.prec ≤ 9223372036854775807 ∧ f.maxSize ≤ 1048576 ∧ 1 ≤ f.maxName ∧ 1 ≤ f.maxPath := by
  have h3 := (Wh.feat_right h).2.2
  simp only [Wh.rangeOk, Wh.inB, Bool.and_eq_true, decide_eq_true_eq] at h3
  omega
theorem fok_of {f : Wh.Feat} (h : Wh.featErr f = 0) {A : ByteArray} (hA : PathA A) : FOk f A := by
  obtain ⟨p1, p2, p3, p4, p5⟩ := feat_prec h
  have hfp := (Wh.feat_right h).1
  refine ⟨⟨?_, Wh.forbid_ascii hfp, ?_⟩, ⟨p1, p2⟩, p3⟩
  · have := Wh.forbid_len hfp
    rw [Lib.size_eq]
    omega
  · have hn : Wh.namesOf A = [A] := by
      unfold Wh.namesOf
      rw [if_neg (by rw [hA.data]; decide), hA.pieces]
    have h97 : f.forbid.data.toList.contains 97 = false := by
      cases hc : f.forbid.data.toList.contains 97 with
      | false => rfl
      | true =>
        have := Wh.formP_mem hfp 97 (by simpa using hc)
        exact absurd this (by decide)
    unfold fitsB
    rw [hn, hA.size]
    simp only [List.any_cons, List.any_nil, Bool.or_false, unfitN, hA.size, hA.data]
    have q1 : decide (f.maxPath < ((1 : Nat) : Int)) = false := decide_eq_false (by omega)
    have q2 : decide (f.maxName < ((1 : Nat) : Int)) = false := decide_eq_false (by omega)
    have q3 : Lib.containsAny [97] f.forbid.data.toList = false := by
      unfold Lib.containsAny Lib.indexAny
      rw [if_neg (by rw [h97]; decide)]
      rfl
    rw [q1, q2, q3]
    rfl

/-- The store's state, and the path's history. -/
structure LI (f : Wh.Feat) (s : MSt) (v : V ByteArray) (n : Nat) : Prop where
  f : s.f = f
  now : s.now = 1000
  made : s.made ≤ n
  cur : v.cur = s.cur.map FileSt.data
  vers : v.vers = s.vers.map (fun x => (x.num, x.data))
  num : v.num = s.num
  tc : ∀ c, s.cur = some c → 0 ≤ c.time ∧ c.time ≤ 1000000
  tv : ∀ x ∈ s.vers, 0 ≤ x.time ∧ x.time ≤ 1000000
theorem cut_map (l : List Ver) : cut (l.map (fun x => (x.num, x.data))) = (vcut l).map (fun x => (x.num, x.data)) := by
  unfold cut vcut
  rw [List.length_map]
  split
  · rw [List.map_drop]
  · rfl
theorem mem_vcut {l : List Ver} {x : Ver} (h : x ∈ vcut l) : x ∈ l := by
  unfold vcut at h
  split at h
  · exact List.mem_of_mem_drop h
  · exact h
theorem tOf_range {s : MSt} {t : Int} (ht : 0 ≤ t ∧ t ≤ 1000000) (hn : s.now = 1000) (hp : 1 ≤ s.f.prec) : 0 ≤ tOf s t ∧ tOf s t ≤ 1000000 := by
  unfold tOf
  obtain ⟨m, hm⟩ : ∃ m, max (if hasB s.f 4 then t else s.now) 0 = m := ⟨_, rfl⟩
  rw [hm]
  have hm2 : 0 ≤ m ∧ m ≤ 1000000 := by
    rw [hn] at hm
    split at hm <;> omega
  have q1 := Int.emod_nonneg m (show s.f.prec ≠ 0 by omega)
  have q2 : m % s.f.prec ≤ m := by
    rcases Int.lt_or_le m s.f.prec with h | h
    · rw [Int.emod_eq_of_lt hm2.1 h]
      exact Int.le_refl _
    · have := Int.emod_lt_of_pos m (show 0 < s.f.prec by omega)
      omega
  omega
theorem LI.put {f : Wh.Feat} {s : MSt} {v : V ByteArray} {n : Nat} (h : LI f s v n) (d : ByteArray) {t : Int} (ht : 0 ≤ t ∧ t ≤ 1000000) (hp : 1 ≤ f.prec) : LI f (s.put d (tOf s t)) (v.put d) (n + 1) := by
  have htt := tOf_range (s := s) ht h.now (by rw [h.f]; exact hp)
  have hc := h.cur
  unfold MSt.put
  cases hs : s.cur with
  | none =>
    rw [hs] at hc
    have hk : v.keep = v := by unfold V.keep; rw [hc]; rfl
    refine ⟨h.f, h.now, Nat.succ_le_succ h.made, rfl, ?_, ?_, ?_, h.tv⟩
    · show v.keep.vers = _
      rw [hk]
      exact h.vers
    · show v.keep.num = _
      rw [hk]
      exact h.num
    · intro c hc2
      injection hc2 with hc2
      subst hc2
      exact htt
  | some c =>
    rw [hs] at hc
    have hk : v.keep = ⟨v.cur, cut (v.vers ++ [(v.num + 1, c.data)]), v.num + 1⟩ := by unfold V.keep; rw [hc]; rfl
    refine ⟨h.f, h.now, Nat.le_succ_of_le h.made, rfl, ?_, ?_, ?_, ?_⟩
    · show v.keep.vers = _
      rw [hk]
      show cut (v.vers ++ [(v.num + 1, c.data)]) = (vcut (s.vers ++ [⟨s.num + 1, c.data, c.time⟩])).map _
      rw [← cut_map, List.map_append, h.vers, h.num]
      rfl
    · show v.keep.num = _
      rw [hk, h.num]
      rfl
    · intro c2 hc2
      injection hc2 with hc2
      subst hc2
      exact htt
    · intro x hx
      rcases List.mem_append.1 (mem_vcut hx) with hx | hx
      · exact h.tv x hx
      · simp at hx
        subst hx
        exact h.tc c hs
theorem LI.rem {f : Wh.Feat} {s : MSt} {v : V ByteArray} {n : Nat} (h : LI f s v n) {c : FileSt} (hs : s.cur = some c) : LI f (s.rem c) v.remove n := by
  have hc := h.cur
  rw [hs] at hc
  have hk : v.keep = ⟨v.cur, cut (v.vers ++ [(v.num + 1, c.data)]), v.num + 1⟩ := by unfold V.keep; rw [hc]; rfl
  refine ⟨h.f, h.now, h.made, rfl, ?_, ?_, fun c hc => (by cases hc), ?_⟩
  · show v.keep.vers = _
    rw [hk]
    show cut (v.vers ++ [(v.num + 1, c.data)]) = (vcut (s.vers ++ [⟨s.num + 1, c.data, c.time⟩])).map _
    rw [← cut_map, List.map_append, h.vers, h.num]
    rfl
  · show v.keep.num = _
    rw [hk, h.num]
    rfl
  · intro x hx
    rcases List.mem_append.1 (mem_vcut hx) with hx | hx
    · exact h.tv x hx
    · simp at hx
      subst hx
      exact h.tc c hs
theorem LI.ok {f : Wh.Feat} {s : MSt} {v : V ByteArray} {n : Nat} (h : LI f s v n) (hn : n ≤ 1000000) (hv : hasB f 1024 = true) (h1 : v.num ≤ 1000000) (h2 : v.vers.length ≤ 20) : StOk s := by
  refine ⟨Nat.le_trans h.made hn, by rw [← h.num]; exact h1, ?_, fun _ => by rw [h.f]; exact hv⟩
  rw [h.vers, List.length_map] at h2
  exact h2
theorem Is.bounds {v : V ByteArray} {l : List ByteArray} {c : ByteArray} (h : Is v l c) : v.num = l.length ∧ v.vers.length ≤ 20 ∧ v.vers.length = l.length - (l.length - 20) := by
  have := h.2.2
  refine ⟨h.2.1, ?_, ?_⟩ <;> rw [this, List.length_drop, allV_len] <;> omega
/-- What the path is behind the first n texts. -/
def At (l : List ByteArray) (n : Nat) (v : V ByteArray) : Prop := (n = 0 ∧ v = ⟨none, [], 0⟩) ∨ (0 < n ∧ ∃ c, l[n - 1]? = some c ∧ Is v (l.take (n - 1)) c)
theorem At.next {l : List ByteArray} {n : Nat} {v : V ByteArray} (h : At l n v) {x : ByteArray} (hx : l[n]? = some x) : At l (n + 1) (v.round n x) := by
  refine .inr ⟨Nat.succ_pos _, x, hx, ?_⟩
  rcases h with ⟨rfl, rfl⟩ | ⟨h0, c, hc, hi⟩
  · exact Is.first x
  · have := hi.round n x
    have e : l.take (n - 1) ++ [c] = l.take (n + 1 - 1) := by
      obtain ⟨m, rfl⟩ : ∃ m, n = m + 1 := ⟨n - 1, by omega⟩
      rw [Nat.add_sub_cancel, Nat.add_sub_cancel] at *
      rw [List.take_add_one, hc]
      rfl
    rw [e] at this
    exact this
theorem At.bounds {l : List ByteArray} {n : Nat} {v : V ByteArray} (h : At l n v) (hn : n ≤ l.length) : v.num ≤ n ∧ v.vers.length ≤ 20 ∧ (0 < n → ∃ c, v.cur = some c) ∧ v.vers.length = (n - 1) - (n - 1 - 20) := by
  rcases h with ⟨rfl, rfl⟩ | ⟨h0, c, hc, hi⟩
  · exact ⟨Nat.le_refl _, by simp, fun h => absurd h (Nat.lt_irrefl _), rfl⟩
  · obtain ⟨b1, b2, b3⟩ := Is.bounds hi
    have hl : (l.take (n - 1)).length = n - 1 := by rw [List.length_take]; omega
    rw [hl] at b1 b3
    exact ⟨by omega, b2, fun _ => ⟨c, hi.1⟩, b3⟩
end Go.Proofs.YtmafnjapailliaaGreatDoor
namespace Go.Proofs.YtmafnjapailliaaGreatDoor
open Go.RowKit

section
variable {P : Program} {ops : Array Oper} {Q : Exit → Act → World → Prop} {md : Region.Mode}

/-- How many have not come up. -/
def unl (listed : Array Bool) : Nat := listed.toList.countP (!·)

theorem unl_set {listed : Array Bool} {i : Nat} (h : listed.getD i true = false) : unl (listed.setIfInBounds i true) + 1 = unl listed := by
  have hlt : i < listed.size := by
    rcases Nat.lt_or_ge i listed.size with h' | h'
    · exact h'
    · simp [Array.getElem?_eq_none h'] at h
  have hv : listed.toList[i]'(by simpa using hlt) = false := by
    simp [hlt] at h
    simpa using h
  unfold unl
  rw [Array.toList_setIfInBounds, List.countP_set (h := by simpa using hlt), hv]
  have : 0 < listed.toList.countP (!·) := List.countP_pos_iff.2 ⟨false, by rw [← hv]; exact List.getElem_mem _, rfl⟩
  simp only [Bool.not_false, Bool.not_true, if_true, Bool.false_eq_true, if_false]
  omega

theorem unl_none {listed : Array Bool} (h : unl listed = 0) (i : Nat) : listed.getD i true = true := by
  rcases Nat.lt_or_ge i listed.size with h' | h'
  · have hx := List.countP_eq_zero.1 h (listed[i]'h') (by simp)
    simp at hx
    simp [h', hx]
  · simp [Array.getElem?_eq_none h']

/-- Each operation waits for earlier ones alone. -/
def topoOk (ops : Array Oper) : Bool := (List.range ops.size).all fun i => match ops[i]? with | some o => o.after.all (fun e => decide (e.on < i)) | none => true

theorem topoOk_spec (h : topoOk ops = true) {i : Nat} {o : Oper} (ho : ops[i]? = some o) : ∀ e ∈ o.after, e.on < i := by
  intro e he
  have hi := (Array.getElem?_eq_some_iff.1 ho).1
  have h1 := List.all_eq_true.1 h i (List.mem_range.2 hi)
  rw [ho] at h1
  have h2 := Array.all_eq_true_iff_forall_mem.1 h1 e he
  exact of_decide_eq_true h2

theorem all_listed (ht : topoOk ops = true) {listed : Array Bool} (hs : listed.size = ops.size) (hr : Region.ready md ops listed = []) : ∀ i, i < ops.size → listed.getD i false = true := by
  intro i
  induction i using Nat.strongRecOn with
  | _ i ih =>
    intro hi
    have ho : ops[i]? = some ops[i] := Array.getElem?_eq_getElem hi
    cases hl : listed.getD i false with
    | true => rfl
    | false =>
      have hl2 : listed.getD i true = false := by
        have hlt : i < listed.size := by omega
        simp [hlt] at hl ⊢
        exact hl
      have : i ∈ Region.ready md ops listed := mem_ready.2 ⟨hl2, _, ho, fun e he _ => ih e.on (topoOk_spec ht ho e he) (Nat.lt_trans (topoOk_spec ht ho e he) hi)⟩
      rw [hr] at this
      cases this

theorem wpAny_inv {Inv : (Nat → Prop) → Act → World → Prop} (ht : topoOk ops = true)
    (hstep : ∀ i o, ops[i]? = some o → ∀ (L : Nat → Prop) a w, Inv L a w → (∀ e ∈ o.after, Region.binds md e = true → L e.on) →
      ∀ K : Act → World → Prop, Shut (∀ a w, (∀ L' : Nat → Prop, (∀ j, L' j → j = i ∨ L j) → Inv L' a w) → K a w) → if Region.wanted o (yielded ops a.tmps) = true then Oper.wp P o a w K Q else K (a.put o.dst undef) w)
    (hdone : ∀ L a w, Inv L a w → (∀ i, i < ops.size → L i) → Q .normal a w) :
    ∀ (fuel : Nat) (listed : Array Bool) (a : Act) (w : World), listed.size = ops.size → unl listed ≤ fuel → Inv (fun j => listed.getD j false = true) a w → wpAny P md ops Q fuel listed a w := by
  intro fuel
  induction fuel with
  | zero =>
    intro listed a w hs hu hI
    have hr : Region.ready md ops listed = [] := by
      rw [List.eq_nil_iff_forall_not_mem]
      intro i hi
      have := (mem_ready.1 hi).1
      rw [unl_none (by omega) i] at this
      cases this
    exact ⟨hr, hdone _ a w hI (all_listed ht hs hr)⟩
  | succ fuel ih =>
    intro listed a w hs hu hI
    refine ⟨fun hr => hdone _ a w hI (all_listed ht hs hr), fun i hi => ?_⟩
    obtain ⟨hun, o, ho, hall⟩ := mem_ready.1 hi
    refine wpOp_step ho fun K hK => hstep i o ho _ a w hI hall K (fun a' w' h => hK a' w' ?_)
    refine ih _ a' w' (by simpa using hs) (by have := unl_set hun; omega) (h _ fun j hj => ?_)
    by_cases hji : j = i
    · exact .inl hji
    · rw [getD_set_ne false (Ne.symm hji)] at hj
      exact .inr hj

/-- The beginning. -/
theorem wp_region_inv (Inv : (Nat → Prop) → Act → World → Prop) {id : Nat} {a : Act} {w : World} (hm : P.follows .mixedOrders = true) (ht : topoOk ops = true) (h0 : Inv (fun _ => False) a w.drew)
    (hstep : ∀ i o, ops[i]? = some o → ∀ (L : Nat → Prop) a w, Inv L a w → (∀ e ∈ o.after, Region.binds .any e = true → L e.on) →
      ∀ K : Act → World → Prop, Shut (∀ a w, (∀ L' : Nat → Prop, (∀ j, L' j → j = i ∨ L j) → Inv L' a w) → K a w) → if Region.wanted o (yielded ops a.tmps) = true then Oper.wp P o a w K Q else K (a.put o.dst undef) w)
    (hdone : ∀ L a w, Inv L a w → (∀ i, i < ops.size → L i) → Q .normal a w) : (Code.region id ops true).wp P Q a w := by
  refine wp_region_any hm (wpAny_inv ht hstep hdone _ _ _ _ (by simp) (by unfold unl; exact Nat.le_trans List.countP_le_length (by simp)) ?_)
  have e : (fun j => (Array.replicate ops.size false).getD j false = true) = fun _ : Nat => False := by
    funext j
    simp [Array.getElem?_replicate]
    split <;> simp
  rw [e]
  exact h0
end
end Go.Proofs.YtmafnjapailliaaGreatDoor
namespace Go.Proofs.YtmafnjapailliaaGreatDoor
open Go.RowKit

set_option maxHeartbeats 2000000 in
set_option maxRecDepth 100000 in
theorem planA_any (f : Wh.Feat) (ad : Addr) (r ca y z b : Nat) (w : World) (hB : BoxIs w b (memArr0 f ad r ca y z (.slice none 0 0)) 89) :
    Calls Tryz.prog 75 #[.pointer (some ⟨b, 0, none⟩), .slice none 0 0] w fun e w' => e = .returned (.int .i64 0) ∧ ∃ s, BoxIs w' b (memArr0 f ad r ca y z (.slice (some ⟨s, 0, none⟩) 14 14)) 89 ∧ Ints14 w' s ∧ w.heap.size ≤ s ∧ Kp (fun i => i = b) w w' := by
  have HB := Lib.hid hB
  have c15 : w.cell? ⟨b, 15, none⟩ = some (.slice none 0 0) := hB.cell (j := 15) rfl
  have f15 : w.frozen? ⟨b, 15, none⟩ = false := Lib.frozen_of_heap hB 15
  have hlt := hB.lt
  clear hB
  go_enter Tryz.func75, Tryz.ntmps75
  go_wp2_with fail
  go_loopg [12] 0 (fun g i wx => i = .int .i64 0 ∧ wx = w)
  case atStart => exact ⟨rfl, rfl⟩
  case round =>
    obtain ⟨rfl, rfl⟩ := hrel
    have HCl := Lib.hid cloneF_nil
    go_upto_region 16 with (go_at_call 128; refine (HCl.out _).mono ?_; rintro e w' ⟨rfl, hw⟩; (have hw2 := hw.symm; clear hw; subst hw2))
    have hx6 : BoxIs (wr.setCell ⟨b, 15, none⟩ (.slice none 0 0)) b (memArr0 f ad r ca y z (.slice none 0 0)) 89 := BoxIs.putAt HB.out 15 (.slice none 0 0)
    have hk6 : Kp (fun i => i = b) wr (wr.setCell ⟨b, 15, none⟩ (.slice none 0 0)) := (Kp.refl (fun i => i = b) wr).set (b := b) (.inl rfl) 15 _
    have HK6 := Lib.hid hk6
    clear c15 f15 hk6
    generalize wr.setCell ⟨b, 15, none⟩ (.slice none 0 0) = w6 at *
    have hal : Below w6.heap.size w6 (w6.alloc zeros14b) := bAlloc (Below.refl _ _) _
    have hx7 := hx6.under hal
    have m14 : (w6.alloc zeros14b).cell? ⟨b, 14, none⟩ = some (.slice none 0 0) := hx7.cell (j := 14) rfl
    have g14 : (w6.alloc zeros14b).frozen? ⟨b, 14, none⟩ = false := Lib.frozen_of_heap hx7 14
    have HX7 := Lib.hid hx7
    have HZ7 := Lib.hid (zeros_ints w6)
    have hne : w6.heap.size ≠ b := by have := hx6.lt; omega
    have HNe := Lib.hid hne
    have hmk := make14b
    clear hx7 hx6 hne
    go_wp2_with fail
    go_ret
    refine ⟨rfl, w6.heap.size, HX7.out.putAt 14 (.slice (some ⟨w6.heap.size, 0, none⟩) 14 14), HZ7.out.kp ((Kp.refl (fun i => i = b) _).set (b := b) (.inl rfl) 14 _) HNe.out, HK6.out.size, (HK6.out.trans (Kp.of hal)).set (b := b) (.inl rfl) 14 _⟩

/-- A new store's state. -/
def st0 (f : Wh.Feat) (now : Int) : MSt := ⟨f, now, 0, 0, .slice none 0 0, none, 0, []⟩
theorem NI.start (f : Wh.Feat) (ad : Addr) (A : ByteArray) (w2 : World) (v9 : Value) : NI f ad A w2 (fun _ => False) w2.drew v9 undef undef undef undef undef undef undef undef undef undef :=
  ⟨below_drewn (Below.refl _ _), fun y e => (by cases e), fun y e => (by cases e), fun h => h.elim, fun h => h.elim, fun h => h.elim, fun h => h.elim, fun h => h.elim, fun h => h.elim, fun h => h.elim, fun h => h.elim, fun h => h.elim, fun h => h.elim, fun h => h.elim⟩

def NewAPost (B : Nat) (f : Wh.Feat) (A : ByteArray) (cb : Nat) (now : Int) (w : World) (e : Ending) (w' : World) : Prop :=
  ∃ M : MB, e = .returned (.tuple #[.pointer (some ⟨M.b, 0, none⟩), .int .i64 0]) ∧ MemAt w' B A M (st0 f now) ∧ M.nb < w'.heap.size ∧ M.cb = cb ∧ Below w.heap.size w w'
set_option maxHeartbeats 4000000 in
set_option maxRecDepth 100000 in
theorem newA_any (B : Nat) (f : Wh.Feat) (A : ByteArray) (cb : Nat) (now : Int) (w : World) (HCf : ∀ W, Calls Tryz.prog 74 #[featVal f] W fun e w' => e = .returned (.int .i64 0) ∧ Below W.heap.size W w') (hB : B ≤ w.heap.size) (hcb : BoxIs w cb #[.int .i64 now] 72) (hcl : B ≤ cb) :
    Calls Tryz.prog 24 #[featVal f, .pointer (some ⟨cb, 0, none⟩), .slice none 0 0] w (NewAPost B f A cb now w) := by
  obtain ⟨ad, had⟩ : ∃ ad : Addr, ad = ⟨cb, 0, none⟩ := ⟨_, rfl⟩
  rw [← had]
  have HAd := Lib.hid had
  have hb1 : Below w.heap.size w (w.alloc (featObj f)) := bAlloc (Below.refl _ _) _
  have HB := Lib.hid (featBox_new w f)
  have HC := Lib.hid HCf
  have HCb := Lib.hid hcb
  clear HCf had hcb
  unfold featVal
  go_enter Tryz.func24, Tryz.ntmps24
  go_upto_region 1 with fail
  unfold featObj at *
  generalize w.alloc (.cells #[.int .i64 f.has, .int .i64 f.sums, .int .i64 f.prec, .int .i64 f.maxName, .int .i64 f.maxPath, .int .i64 f.maxSize, .int .i64 f.page, .int .i64 f.partSize, .string f.forbid] 23) = w1 at *
  obtain ⟨k0, k1, k2, k3, k4, k5, k6, k7, k8, k9⟩ := HB.out
  go_wp2_with (go_at_call 74; refine (HC.out _).mono ?_; rintro e w2 ⟨rfl, hb2⟩)
  have HB2 := Lib.hid (HB.out.under hb2)
  clear k0 k1 k2 k3 k4 k5 k6 k7 k8 k9 HB HC
  have hmk := make14b
  have hmm := @run_makeMap Tryz.prog
  go_cut [9] (fun s9 wx => (∃ b r x c y z, s9 = .pointer (some ⟨b, 0, none⟩) ∧ BoxIs wx b (memArr0 f ad r c y z (.slice none 0 0)) 89 ∧ w2.heap.size ≤ b ∧ Bundle A w2.heap.size wx r x c y z) ∧ Below w2.heap.size w2 wx)
  case first =>
    refine wp_region_inv (NewJ f ad A w.heap.size w2) (by kernel_rfl) (by kernel_rfl) ?_ ?_ ?_
    · exact ⟨_, _, _, _, _, _, _, _, _, _, _, rfl, NI.start f ad A w2 _⟩
    · intro i o ho L a' w' hI hd K hK
      rcases i with _ | _ | _ | _ | _ | _ | _ | _ | _ | _ | _ | i
      · obtain rfl : o = ⟨_, _, _, _, _, _⟩ := (Option.some.inj ho).symm
        obtain ⟨v9, v18, v19, v20, v21, v22, v23, v24, v25, v26, v27, rfl, hN⟩ := hI
        rw [if_pos (by rfl)]
        obtain ⟨k0, k1, k2, k3, k4, k5, k6, k7, k8, k9⟩ := HB2.out.under hN.bel
        have HN := Lib.hid hN
        clear hN hd
        go_wp2_with fail
        exact hK.out _ _ (fun L' hL => ⟨_, _, _, _, _, _, _, _, _, _, _, rfl, HN.out.s0 hL⟩)
      · obtain rfl : o = ⟨_, _, _, _, _, _⟩ := (Option.some.inj ho).symm
        obtain ⟨v9, v18, v19, v20, v21, v22, v23, v24, v25, v26, v27, rfl, hN⟩ := hI
        rw [if_pos (by rfl)]
        have HN := Lib.hid hN
        clear hN hd
        go_wp2_with fail
        exact hK.out _ _ (fun L' hL => ⟨_, _, _, _, _, _, _, _, _, _, _, rfl, HN.out.s1 hL⟩)
      · obtain rfl : o = ⟨_, _, _, _, _, _⟩ := (Option.some.inj ho).symm
        obtain ⟨v9, v18, v19, v20, v21, v22, v23, v24, v25, v26, v27, rfl, hN⟩ := hI
        rw [if_pos (by rfl)]
        have HN := Lib.hid hN
        clear hN hd
        go_wp2_with fail
        exact hK.out _ _ (fun L' hL => ⟨_, _, _, _, _, _, _, _, _, _, _, rfl, HN.out.s2 hL⟩)
      · obtain rfl : o = ⟨_, _, _, _, _, _⟩ := (Option.some.inj ho).symm
        obtain ⟨v9, v18, v19, v20, v21, v22, v23, v24, v25, v26, v27, rfl, hN⟩ := hI
        simp [Region.binds] at hd
        have d2 := hd
        obtain ⟨m, h20, _⟩ := hN.q2 d2
        subst h20
        rw [if_pos (by rfl)]
        have HN := Lib.hid hN
        clear hN hd
        go_wp2_with fail
        exact hK.out _ _ (fun L' hL => ⟨_, _, _, _, _, _, _, _, _, _, _, rfl, HN.out.s3 hL d2 rfl⟩)
      · obtain rfl : o = ⟨_, _, _, _, _, _⟩ := (Option.some.inj ho).symm
        obtain ⟨v9, v18, v19, v20, v21, v22, v23, v24, v25, v26, v27, rfl, hN⟩ := hI
        simp [Region.binds] at hd
        have d3 := hd
        obtain ⟨m, h21, _⟩ := hN.q3 d3
        subst h21
        rw [if_pos (by rfl)]
        have HN := Lib.hid hN
        clear hN hd
        go_wp2_with fail
        exact hK.out _ _ (fun L' hL => ⟨_, _, _, _, _, _, _, _, _, _, _, rfl, HN.out.s4 hL d3 rfl⟩)
      · obtain rfl : o = ⟨_, _, _, _, _, _⟩ := (Option.some.inj ho).symm
        obtain ⟨v9, v18, v19, v20, v21, v22, v23, v24, v25, v26, v27, rfl, hN⟩ := hI
        rw [if_pos (by rfl)]
        have HN := Lib.hid hN
        clear hN hd
        go_wp2_with fail
        exact hK.out _ _ (fun L' hL => ⟨_, _, _, _, _, _, _, _, _, _, _, rfl, HN.out.s5 hL⟩)
      · obtain rfl : o = ⟨_, _, _, _, _, _⟩ := (Option.some.inj ho).symm
        obtain ⟨v9, v18, v19, v20, v21, v22, v23, v24, v25, v26, v27, rfl, hN⟩ := hI
        rw [if_pos (by rfl)]
        have HN := Lib.hid hN
        clear hN hd
        go_wp2_with fail
        exact hK.out _ _ (fun L' hL => ⟨_, _, _, _, _, _, _, _, _, _, _, rfl, HN.out.s6 hL⟩)
      · obtain rfl : o = ⟨_, _, _, _, _, _⟩ := (Option.some.inj ho).symm
        obtain ⟨v9, v18, v19, v20, v21, v22, v23, v24, v25, v26, v27, rfl, hN⟩ := hI
        rw [if_pos (by rfl)]
        have HN := Lib.hid hN
        clear hN hd
        go_wp2_with fail
        exact hK.out _ _ (fun L' hL => ⟨_, _, _, _, _, _, _, _, _, _, _, rfl, HN.out.s7 hL⟩)
      · obtain rfl : o = ⟨_, _, _, _, _, _⟩ := (Option.some.inj ho).symm
        obtain ⟨v9, v18, v19, v20, v21, v22, v23, v24, v25, v26, v27, rfl, hN⟩ := hI
        simp [Region.binds] at hd
        obtain ⟨d0, d1, d4, d5, d6, d7⟩ := hd
        obtain rfl := hN.q0 d0
        obtain rfl := hN.q1 d1
        obtain ⟨r, x, h22, _⟩ := hN.q4 d4
        obtain ⟨c, h23, _⟩ := hN.q5 d5
        obtain ⟨y, h24, _⟩ := hN.q6 d6
        obtain ⟨z, h25, _⟩ := hN.q7 d7
        subst h22 h23 h24 h25
        rw [if_pos (by rfl)]
        have HN := Lib.hid hN
        clear hN
        unfold featVal
        go_wp2_with fail
        exact hK.out _ _ (fun L' hL => ⟨_, _, _, _, _, _, _, _, _, _, _, rfl, HN.out.s8 hL d4 d5 d6 d7 rfl rfl rfl rfl⟩)
      · obtain rfl : o = ⟨_, _, _, _, _, _⟩ := (Option.some.inj ho).symm
        obtain ⟨v9, v18, v19, v20, v21, v22, v23, v24, v25, v26, v27, rfl, hN⟩ := hI
        simp [Region.binds] at hd
        have d8 := hd
        obtain ⟨r, x, c, y, z, h26, _⟩ := hN.q8 d8
        subst h26
        rw [if_pos (by rfl)]
        have HN := Lib.hid hN
        clear hN hd
        go_wp2_with fail
        exact hK.out _ _ (fun L' hL => ⟨_, _, _, _, _, _, _, _, _, _, _, rfl, HN.out.s9 hL d8 rfl⟩)
      · obtain rfl : o = ⟨_, _, _, _, _, _⟩ := (Option.some.inj ho).symm
        obtain ⟨v9, v18, v19, v20, v21, v22, v23, v24, v25, v26, v27, rfl, hN⟩ := hI
        simp [Region.binds] at hd
        have d9 := hd.1
        rw [if_pos (by rfl)]
        have HN := Lib.hid hN
        clear hN hd
        go_wp2_with fail
        exact hK.out _ _ (fun L' hL => ⟨_, _, _, _, _, _, _, _, _, _, _, rfl, HN.out.s10 hL d9⟩)
      · simp at ho
    · rintro L a' w' ⟨v9, v18, v19, v20, v21, v22, v23, v24, v25, v26, v27, rfl, hN⟩ hall
      have h10 := Lib.hid (hN.q10 (hall 10 (by simp)))
      have hbl := Lib.hid hN.bel
      clear hN hall
      dsimp only [featVal]
      go_wp2_with fail
      go_meet
      exact ⟨h10.out, hbl.out⟩
  case rest =>
    obtain ⟨⟨b, r, x, c, y, z, rfl, hbx, hlb, hbu⟩, hb3⟩ := hcut
    have HP := Lib.hid (planA_any f ad r c y z b wc hbx)
    have HBu := Lib.hid hbu
    have HBx := Lib.hid hbx
    have HB3 : Hid (Below w.heap.size w wc) := Lib.hid (bTrans (bTrans hb1 hb2) hb3)
    have hw2 : w.heap.size ≤ w2.heap.size := Nat.le_trans hb1.size hb2.size
    clear hbx hbu hb3 HB2 hb1 hb2
    go_wp2_with (go_at_call 75; refine HP.out.mono ?_; rintro e w5 ⟨rfl, s, hs1, hs2, hs3, hs4⟩)
    go_ret2
    obtain ⟨l1, l2, l3, l4, l5⟩ := HBu.out.lo
    obtain ⟨n1, n2, n3⟩ := HBu.out.ne
    have hbn : b < wc.heap.size := HBx.out.lt
    obtain ⟨ac, hac, _⟩ := HBu.out.hc
    have hcb3 : BoxIs wc cb #[.int .i64 now] 72 := HCb.out.under HB3.out
    refine ⟨⟨b, cb, r, x, c, s, y, z, b, none, 0⟩, rfl, ⟨?_, hcb3.kp hs4 (hcb3.ne HBx.out (by decide)), HBu.out.hr.kp hs4 (HBu.out.hr.ne HBx.out (by decide)), HBu.out.hx.kp hs4 (fun e => HBx.out.ne_map HBu.out.hx e.symm), HBu.out.hc.kp hs4 (hac.ne HBx.out (by decide)), hs2, fun c hc => (by cases hc), ⟨none, HBu.out.hz.kp hs4 (fun e => HBx.out.ne_map HBu.out.hz e.symm), rfl⟩, ⟨none, HBu.out.hy.kp hs4 (fun e => HBx.out.ne_map HBu.out.hy e.symm), rfl⟩, RowG.nil _ _ _ _, ⟨?_, hcl, ?_, ?_, ?_, ?_, ?_, ?_, ?_⟩, ?_, n1, n2, n3⟩, ?_, rfl, ?_⟩
    · have h := hs1
      rw [HAd.out] at h
      exact h
    any_goals (dsimp only; omega)
    · show c ≠ s
      have := hac.lt
      omega
    · show b < w5.heap.size
      have := hs4.size
      omega
    · refine HB3.out.trans (hs4.below (fun i hi => ?_) HB3.out.size)
      rw [hi]
      omega
end Go.Proofs.YtmafnjapailliaaGreatDoor
namespace Go.Proofs.YtmafnjapailliaaGreatDoor
open Go.RowKit

set_option maxHeartbeats 1000000 in
theorem newClockT_any (w : World) :
    Calls Tryz.prog 10 #[.int .i64 1000] w fun e w' => e = .returned (.pointer (some ⟨w.heap.size, 0, none⟩)) ∧ BoxIs w' w.heap.size #[.int .i64 1000] 72 ∧ Below w.heap.size w w' := by
  go_enter Tryz.func10, Tryz.ntmps10
  go_wp2
  go_ret
  exact ⟨rfl, BoxIs.new _ _ _, bAlloc (Below.refl _ _) _⟩

set_option maxHeartbeats 1000000 in
theorem nowT_any (b : Nat) (t : Int) (w : World) (hc : w.cell? ⟨b, 0, none⟩ = some (.int .i64 t)) :
    Calls Tryz.prog 26 #[.pointer (some ⟨b, 0, none⟩)] w fun e w' => e = .returned (.int .i64 t) ∧ w' = w := by
  go_enter Tryz.func26, Tryz.ntmps26
  go_wp2
  go_ret
  exact ⟨rfl, rfl⟩

def APtr (w : World) (e : Ending) (w' : World) : Prop := ∃ b, e = .returned (.pointer (some ⟨b, 0, none⟩)) ∧ Below w.heap.size w w'
set_option maxHeartbeats 2000000 in
set_option maxRecDepth 100000 in
theorem newDiskT_any (f : Wh.Feat) (t : Int) (w : World) :
    Calls Tryz.prog 25 #[featVal f, .int .i64 t, .slice none 0 0, .func (.func 27) #[] #[]] w (APtr w) := by
  have hb1 : Below w.heap.size w (w.alloc (featObj f)) := bAlloc (Below.refl _ _) _
  have HB := Lib.hid (featBox_new w f)
  have hmm := @run_makeMap Tryz.prog
  unfold featVal
  go_enter Tryz.func25, Tryz.ntmps25
  go_upto_region 1 with fail
  unfold featObj at *
  generalize w.alloc _ = w1 at *
  obtain ⟨k0, k1, k2, k3, k4, k5, k6, k7, k8, k9⟩ := HB.out
  go_wp2_with fail
  go_ret
  exact ⟨_, rfl, bAlloc (bAlloc (bAlloc hb1 _) _) _⟩

/-- A pair whose store is new. -/
def PairT (B : Nat) (f : Wh.Feat) (A : ByteArray) (cb : Nat) (t : Int) (w : World) (e : Ending) (w' : World) : Prop :=
  ∃ (p db : Nat) (M : MB), e = .returned (.pointer (some ⟨p, 0, none⟩)) ∧ BoxIs w' p #[ptr M.b, ptr db, ptr cb] 37 ∧ MemAt w' B A M (st0 f t) ∧ M.nb < p ∧ (∀ i, MF M i → i < p) ∧ Below w.heap.size w w'
theorem MemAt.mfs {w : World} {B : Nat} {A : ByteArray} {M : MB} {s : MSt} (h : MemAt w B A M s) (hn : M.nb < w.heap.size) {i : Nat} (hi : MF M i) : i < w.heap.size := h.mfl hn (.inl hi)

set_option maxHeartbeats 4000000 in
set_option maxRecDepth 100000 in
theorem newPairT_any (B : Nat) (f : Wh.Feat) (A : ByteArray) (cb : Nat) (t : Int) (w : World) (HCf : ∀ W, Calls Tryz.prog 74 #[featVal f] W fun e w' => e = .returned (.int .i64 0) ∧ Below W.heap.size W w') (hB : B ≤ w.heap.size) (hcb : BoxIs w cb #[.int .i64 t] 72) (hcl : B ≤ cb) :
    Calls Tryz.prog 9 #[featVal f, .pointer (some ⟨cb, 0, none⟩), .slice none 0 0] w (PairT B f A cb t w) := by
  have hb1 : Below w.heap.size w (w.alloc (featObj f)) := bAlloc (Below.refl _ _) _
  have HB := Lib.hid (featBox_new w f)
  have HN := Lib.hid (fun W (hb : Below w.heap.size w W) => newA_any B f A cb t W HCf (Nat.le_trans hB hb.size) (hcb.under hb) hcl)
  unfold NewAPost at HN
  have HC := Lib.hid (fun W (hb : Below w.heap.size w W) => nowT_any cb t W ((hcb.under hb).cell (j := 0) rfl))
  have HD := Lib.hid (fun W => newDiskT_any f t W)
  unfold APtr at HD
  clear hB hcb hcl HCf
  unfold featVal featObj at *
  go_enter Tryz.func9, Tryz.ntmps9
  go_upto_region 1 with fail
  generalize w.alloc _ = w1 at *
  have HX := Lib.hid (fun W (hb : Below w1.heap.size w1 W) => HB.out.under hb)
  have HB1 := Lib.hid hb1
  obtain ⟨k0, k1, k2, k3, k4, k5, k6, k7, k8, k9⟩ := HB.out
  go_upto_region 4 with (go_at_call 24; refine (HN.out _ HB1.out).mono ?_; rintro e w2 ⟨M, rfl, hM, hnb, hMc, hb2⟩)
  have HM := Lib.hid (fun W (hb : Below w2.heap.size w2 W) => hM.below hb)
  have HMl := Lib.hid (fun i (hi : MF M i) => hM.mfs hnb hi)
  have HNb := Lib.hid hnb
  obtain ⟨m, hm⟩ : ∃ m, m = M.b := ⟨_, rfl⟩
  rw [← hm]
  have HMb := Lib.hid hm
  have hS : Below w2.heap.size w2 w2 := Below.refl _ _
  have hb12 := bTrans hb1 hb2
  have HX2 := Lib.hid (fun W (hb : Below w2.heap.size w2 W) => HX.out W (bTrans hb2 hb))
  clear k0 k1 k2 k3 k4 k5 k6 k7 k8 k9 HB HX hM hMc hnb hm
  refine wp_region_seq (Below w2.heap.size w2) [(0, true), (1, true), (2, true), (4, true), (6, true), (3, false), (5, false), (7, true), (8, false), (9, true)] (by as_aux_lemma => kernel_rfl) (by as_aux_lemma => kernel_rfl) (by decide) (by as_aux_lemma => kernel_rfl) (below_drewn hS) ?_
  intro OPS HO
  refine seq_take (o := ⟨_, _, _, _, _, _⟩) (v := ?_) (by rw [HO.out]; rfl) (by rfl) ?_ ?_
  rotate_left 1
  · first | ((intro W _; go_simp) <;> with_reducible rfl) | (intro W hW; obtain ⟨k0, k1, k2, k3, k4, k5, k6, k7, k8, k9⟩ := HX2.out _ hW; (go_simp <;> with_reducible rfl))
  try simp only [Act.put, List.setIfInBounds_toArray, List.set_cons_zero, List.set_cons_succ]
  refine seq_take (o := ⟨_, _, _, _, _, _⟩) (v := ?_) (by rw [HO.out]; rfl) (by rfl) ?_ ?_
  rotate_left 1
  · first | ((intro W _; go_simp) <;> with_reducible rfl) | (intro W hW; obtain ⟨k0, k1, k2, k3, k4, k5, k6, k7, k8, k9⟩ := HX2.out _ hW; (go_simp <;> with_reducible rfl))
  try simp only [Act.put, List.setIfInBounds_toArray, List.set_cons_zero, List.set_cons_succ]
  refine seq_take (o := ⟨_, _, _, _, _, _⟩) (v := ?_) (by rw [HO.out]; rfl) (by rfl) ?_ ?_
  rotate_left 1
  · first | ((intro W _; go_simp) <;> with_reducible rfl) | (intro W hW; obtain ⟨k0, k1, k2, k3, k4, k5, k6, k7, k8, k9⟩ := HX2.out _ hW; (go_simp <;> with_reducible rfl))
  try simp only [Act.put, List.setIfInBounds_toArray, List.set_cons_zero, List.set_cons_succ]
  refine seq_take (o := ⟨_, _, _, _, _, _⟩) (v := ?_) (by rw [HO.out]; rfl) (by rfl) ?_ ?_
  rotate_left 1
  · first | ((intro W _; go_simp) <;> with_reducible rfl) | (intro W hW; obtain ⟨k0, k1, k2, k3, k4, k5, k6, k7, k8, k9⟩ := HX2.out _ hW; (go_simp <;> with_reducible rfl))
  try simp only [Act.put, List.setIfInBounds_toArray, List.set_cons_zero, List.set_cons_succ]
  refine seq_take (o := ⟨_, _, _, _, _, _⟩) (v := ?_) (by rw [HO.out]; rfl) (by rfl) ?_ ?_
  rotate_left 1
  · first | ((intro W _; go_simp) <;> with_reducible rfl) | (intro W hW; obtain ⟨k0, k1, k2, k3, k4, k5, k6, k7, k8, k9⟩ := HX2.out _ hW; (go_simp <;> with_reducible rfl))
  try simp only [Act.put, List.setIfInBounds_toArray, List.set_cons_zero, List.set_cons_succ]
  refine seq_do (o := ⟨_, _, _, _, _, _⟩) (by rw [HO.out]; rfl) (by rfl) (fun K hK => ?_)
  replace hS := below_drewn hS
  go_wp2_with (go_at_call 26; refine (HC.out _ (bTrans hb12 hS)).mono ?_; rintro e w3 ⟨rfl, hw3⟩; subst w3)
  refine hK.out _ _ hS (fun _ => ?_)
  clear hK K
  try simp only [Act.put, List.setIfInBounds_toArray, List.set_cons_zero, List.set_cons_succ]
  refine seq_do (o := ⟨_, _, _, _, _, _⟩) (by rw [HO.out]; rfl) (by rfl) (fun K hK => ?_)
  go_wp2_with (go_at_call 25; refine (HD.out _).mono ?_; rintro e w4 ⟨db, rfl, hb4⟩; replace hS := bTrans hS hb4; clear hb4)
  refine hK.out _ _ hS (fun _ => ?_)
  clear hK K
  try simp only [Act.put, List.setIfInBounds_toArray, List.set_cons_zero, List.set_cons_succ]
  refine seq_take (o := ⟨_, _, _, _, _, _⟩) (v := ?_) (by rw [HO.out]; rfl) (by rfl) ?_ ?_
  rotate_left 1
  · first | ((intro W _; go_simp) <;> with_reducible rfl) | (intro W hW; obtain ⟨k0, k1, k2, k3, k4, k5, k6, k7, k8, k9⟩ := HX2.out _ hW; (go_simp <;> with_reducible rfl))
  try simp only [Act.put, List.setIfInBounds_toArray, List.set_cons_zero, List.set_cons_succ]
  refine seq_do (o := ⟨_, _, _, _, _, _⟩) (by rw [HO.out]; rfl) (by rfl) (fun K hK => ?_)
  go_wp2_with fail
  have hS0 := hS
  replace hS := bAlloc hS (.cells #[Value.pointer (some ⟨m, 0, none⟩), Value.pointer (some ⟨db, 0, none⟩), Value.pointer (some ⟨cb, 0, none⟩)] 37)
  refine hK.out _ _ hS (fun _ => ?_)
  clear hK K
  try simp only [Act.put, List.setIfInBounds_toArray, List.set_cons_zero, List.set_cons_succ]
  refine seq_take (o := ⟨_, _, _, _, _, _⟩) (v := ?_) (by rw [HO.out]; rfl) (by rfl) ?_ ?_
  rotate_left 1
  · first | ((intro W _; go_simp) <;> with_reducible rfl) | (intro W hW; obtain ⟨k0, k1, k2, k3, k4, k5, k6, k7, k8, k9⟩ := HX2.out _ hW; (go_simp <;> with_reducible rfl))
  try simp only [Act.put, List.setIfInBounds_toArray, List.set_cons_zero, List.set_cons_succ]
  refine seq_done ?_
  go_wp2_with fail
  go_ret
  refine ⟨w4.heap.size, db, M, rfl, by rw [← HMb.out]; exact BoxIs.new _ _ _, HM.out _ hS, Nat.lt_of_lt_of_le HNb.out hS0.size, fun i hi => Nat.lt_of_lt_of_le (HMl.out i hi) hS0.size, bTrans hb12 hS⟩
end Go.Proofs.YtmafnjapailliaaGreatDoor
