/-
  The texts BoxIs, Kp, Map1, Rows2, in one.
-/
import Derived.Test.YtikegddlbelfaaaGreatDoorBase
import Derived.Maps.OwnSet
import Derived.StringKeys
namespace Go.Proofs.YtikegddlbelfaaaGreatDoor
open Go.RowKit

/-- A block that is known whole. -/
def BoxIs (w : World) (b : Nat) (vs : Array Value) (t : TypeId) : Prop := w.heap[b]? = some (.cells vs t (0, 0))
theorem BoxIs.new (w : World) (vs : Array Value) (t : TypeId) : BoxIs (w.alloc (.cells vs t)) w.heap.size vs t := heap_alloc_new w _
theorem BoxIs.lt {w : World} {b : Nat} {vs : Array Value} {t : TypeId} (h : BoxIs w b vs t) : b < w.heap.size := (Array.getElem?_eq_some_iff.1 h).1
theorem BoxIs.under {w w' : World} {b : Nat} {vs : Array Value} {t : TypeId} (h : BoxIs w b vs t) (hb : Below w.heap.size w w') : BoxIs w' b vs t := (hb.block b h.lt).trans h
theorem BoxIs.kept {w w' : World} {b : Nat} {vs : Array Value} {t e : TypeId} {k : Nat} (h : BoxIs w b vs t) (hk : Lib.OthersKept e (some k) w w') (hne : b ≠ k) (ht : t ≠ e) : BoxIs w' b vs t :=
  hk b _ h (by simpa using hne) (fun _ _ he => ht (by injection he))
theorem BoxIs.cell {w : World} {b : Nat} {vs : Array Value} {t : TypeId} (h : BoxIs w b vs t) {j : Nat} {u : Value} (hj : vs[j]? = some u) : w.cell? ⟨b, j, none⟩ = some u := by
  rw [Lib.cell_of_heap h]
  exact hj
end Go.Proofs.YtikegddlbelfaaaGreatDoor
namespace Go.Proofs.YtikegddlbelfaaaGreatDoor
open Go.RowKit

/-- All blocks but those of F are as they were. -/
structure Kp (F : Nat → Prop) (w w' : World) : Prop where
  os : w'.os = w.os
  tape : w'.tape = w.tape
  output : w'.output = w.output
  size : w.heap.size ≤ w'.heap.size
  block : ∀ k, k < w.heap.size → ¬ F k → w'.heap[k]? = w.heap[k]?
theorem Kp.refl (F : Nat → Prop) (w : World) : Kp F w w := ⟨rfl, rfl, rfl, Nat.le_refl _, fun _ _ _ => rfl⟩
theorem Kp.trans {F : Nat → Prop} {u v w : World} (h : Kp F u v) (k : Kp F v w) : Kp F u w :=
  ⟨k.os.trans h.os, k.tape.trans h.tape, k.output.trans h.output, Nat.le_trans h.size k.size, fun i hi hb => (k.block i (Nat.lt_of_lt_of_le hi h.size) hb).trans (h.block i hi hb)⟩
/-- What the second part changes may also be new. -/
theorem Kp.chain {F G : Nat → Prop} {u v w : World} (h : Kp F u v) (k : Kp G v w) (hG : ∀ i, G i → F i ∨ u.heap.size ≤ i) : Kp F u w :=
  ⟨k.os.trans h.os, k.tape.trans h.tape, k.output.trans h.output, Nat.le_trans h.size k.size, fun i hi hb =>
    (k.block i (Nat.lt_of_lt_of_le hi h.size) (fun e => (hG i e).elim hb (fun e => by omega))).trans (h.block i hi hb)⟩
theorem Kp.mono {F G : Nat → Prop} {w w' : World} (h : Kp F w w') (hG : ∀ i, F i → G i) : Kp G w w' := ⟨h.os, h.tape, h.output, h.size, fun k hk hb => h.block k hk (fun e => hb (hG k e))⟩
theorem Kp.of {F : Nat → Prop} {w w' : World} (h : Below w.heap.size w w') : Kp F w w' := ⟨h.os, h.tape, h.output, h.size, fun k hk _ => h.block k hk⟩
theorem Kp.set {F : Nat → Prop} {w w' : World} (h : Kp F w w') {b : Nat} (hb : F b ∨ w.heap.size ≤ b) (i : Nat) (v : Value) : Kp F w (w'.setCell ⟨b, i, none⟩ v) :=
  ⟨h.os, h.tape, h.output, by simp [World.setCell]; exact h.size, fun k hk hF =>
    (Below.heap_setCell _ _ _ _ (fun e => by subst e; exact hb.elim hF (fun e => by omega))).trans (h.block k hk hF)⟩
theorem Kp.drew {F : Nat → Prop} {w w' : World} (h : Kp F w w') (n : Nat) : Kp F w (w'.drewN n) := ⟨h.os, h.tape, h.output, h.size, h.block⟩
theorem Kp.below {F : Nat → Prop} {z : Nat} {w w' : World} (h : Kp F w w') (hb : ∀ i, F i → z ≤ i) (hz : z ≤ w.heap.size) : Below z w w' :=
  ⟨h.os, h.tape, h.output, h.size, fun k hk => h.block k (by omega) (fun e => by have := hb k e; omega)⟩
theorem Kp.none {w w' : World} (h : Kp (fun _ => False) w w') : Below w.heap.size w w' := h.below (fun _ e => e.elim) (Nat.le_refl _)
theorem BoxIs.kp {F : Nat → Prop} {w w' : World} {k : Nat} {vs : Array Value} {t : TypeId} (h : BoxIs w k vs t) (ha : Kp F w w') (hne : ¬ F k) : BoxIs w' k vs t := (ha.block k h.lt hne).trans h
theorem cell_kp {F : Nat → Prop} {w w' : World} (ha : Kp F w w') {p : Addr} {v : Value} (h : w.cell? p = some v) (hne : ¬ F p.block) : w'.cell? p = some v := by
  have hb := ha.block p.block (cell_lt h) hne
  rw [← h]
  simp only [World.cell?, hb]
end Go.Proofs.YtikegddlbelfaaaGreatDoor
namespace Go.Proofs.YtikegddlbelfaaaGreatDoor
open Go.RowKit

theorem Kp.undrew {F : Nat → Prop} {w w' : World} (h : Kp F w.drew w') : Kp F w w' := ⟨h.os, h.tape, h.output, h.size, h.block⟩
theorem Below.undrew {z : Nat} {w w' : World} (h : Below z w.drew w') : Below z w w' := ⟨h.os, h.tape, h.output, h.size, h.block⟩
/-- Block b is a map that holds v under the key, or nothing at all. -/
def MapIs (w : World) (b : Nat) (key : ByteArray) (o : Option Value) : Prop :=
  ∃ es clock, w.heap[b]? = some (.map es clock) ∧ es.toList.map (fun e => (e.key, e.val)) = o.toList.map (fun v => (Value.string key, v))
theorem MapIs.new (w : World) (key : ByteArray) : MapIs (w.alloc (.map #[] 0)) w.heap.size key none := ⟨#[], 0, heap_alloc_new w _, rfl⟩
theorem MapIs.lt {w : World} {b : Nat} {key : ByteArray} {o : Option Value} (h : MapIs w b key o) : b < w.heap.size := by
  obtain ⟨es, c, hb, _⟩ := h
  exact (Array.getElem?_eq_some_iff.1 hb).1
theorem MapIs.kp {F : Nat → Prop} {w w' : World} {b : Nat} {key : ByteArray} {o : Option Value} (h : MapIs w b key o) (ha : Kp F w w') (hne : ¬ F b) : MapIs w' b key o := by
  have hlt := h.lt
  obtain ⟨es, c, hb, he⟩ := h
  exact ⟨es, c, (ha.block b hlt hne).trans hb, he⟩
theorem kp_setBlock {w : World} {b : Nat} {es : Array MapEntry} {c : Nat} (hb : w.heap[b]? = some (.map es c)) (o : Obj) : Kp (fun i => i = b) w (ChangeMaps.setBlock w b o) :=
  ⟨rfl, rfl, rfl, by simp [ChangeMaps.setBlock], fun i _ hi => ChangeMaps.heap_setBlock_other hb _ hi⟩
section
variable {P : Program} {k e t : TypeId} {w : World} {b : Nat} {key : ByteArray} {o : Option Value}
theorem found_one {es : Array MapEntry} (hk : P.underlying k = some .string) (hs : key.size ≤ maxLen) (he : es.toList.map (fun e => (e.key, e.val)) = o.toList.map (fun v => (Value.string key, v))) (w : World) :
    (Instr.findKey k (.string key) es.toList).run P w = .ok (o.map fun v => (0, v)) w := by
  have K : Maps.Keyed P k := Maps.string_keyed hk
  have hkey := WideMaps.keyOf_string_mk hk hs
  cases o with
  | none =>
    have h0 : es.toList = [] := by simpa using he
    rw [h0]
    rcases K.find w hkey [] (by simp) with ⟨h1, _⟩ | ⟨j, e, _, h2, _⟩
    · exact h1
    · simp at h2
  | some v =>
    obtain ⟨e0, h0, hk0, hv0⟩ : ∃ e0, es.toList = [e0] ∧ e0.key = .string key ∧ e0.val = v := by
      rcases hl : es.toList with _ | ⟨e0, _ | ⟨e1, r⟩⟩
      · rw [hl] at he; simp at he
      · rw [hl] at he
        simp at he
        exact ⟨e0, rfl, he.1, he.2⟩
      · rw [hl] at he; simp at he
    rw [h0]
    rcases K.find w hkey [e0] (by intro x hx; simp at hx; subst hx; exact ⟨_, by rw [hk0]; exact hkey⟩) with ⟨_, h2⟩ | ⟨j, x, h1, h2, _⟩
    · exact absurd hk0 (h2 e0 (by simp))
    · cases j with
      | zero =>
        simp at h2
        subst h2
        rw [h1, ← hv0]
        rfl
      | succ j => simp at h2
theorem MapIs.look (h : MapIs w b key o) (hk : P.underlying k = some .string) (hs : key.size ≤ maxLen) (ht : P.underlying t = some (.map k e)) {z : Value} (hz : (zeroValue e).run P w = .ok z w) :
    (Instr.lookup t (.map (some b)) (.string key) false).run P w = .ok (o.getD z) w := by
  obtain ⟨es, c, hb, he⟩ := h
  have K : Maps.Keyed P k := Maps.string_keyed hk
  have h1 := found_one hk hs he w
  cases o with
  | none => simp [Instr.lookup, run_underlying ht, MapKept.run_getObj_map hb, K.check w _ (WideMaps.keyOf_string_mk hk hs), h1, hz, Result.andThen]
  | some v => simp [Instr.lookup, run_underlying ht, MapKept.run_getObj_map hb, K.check w _ (WideMaps.keyOf_string_mk hk hs), h1, Result.andThen]
theorem MapIs.store (h : MapIs w b key o) (hk : P.underlying k = some .string) (hs : key.size ≤ maxLen) (ht : P.underlying t = some (.map k e)) (v : Value) :
    ∃ w', (Instr.mapUpdate t (.map (some b)) (.string key) v).run P w = .ok () w' ∧ MapIs w' b key (some v) ∧ Kp (fun i => i = b) w w' := by
  obtain ⟨es, c, hb, he⟩ := h
  have K : Maps.Keyed P k := Maps.string_keyed hk
  have h1 := found_one hk hs he w
  cases o with
  | none =>
    have h0 : es.toList = [] := by simpa using he
    refine ⟨ChangeMaps.setBlock w b (.map (es.push ⟨.string key, v, c⟩) (c + 1)), ?_, ⟨_, _, ChangeMaps.heap_setBlock_same hb _, ?_⟩, kp_setBlock hb _⟩
    · simp [Instr.mapUpdate, run_underlying ht, MapKept.run_getObj_map hb, K.check w _ (WideMaps.keyOf_string_mk hk hs), h1, MapKept.run_setObj_map _ hb, Result.andThen, ChangeMaps.setBlock]
    · simp [h0]
  | some v0 =>
    obtain ⟨e0, h0, hk0, hv0⟩ : ∃ e0, es.toList = [e0] ∧ e0.key = .string key ∧ e0.val = v0 := by
      rcases hl : es.toList with _ | ⟨e0, _ | ⟨e1, r⟩⟩
      · rw [hl] at he; simp at he
      · rw [hl] at he
        simp at he
        exact ⟨e0, rfl, he.1, he.2⟩
      · rw [hl] at he; simp at he
    have h00 : es[0]? = some e0 := by rw [← Array.getElem?_toList, h0]; rfl
    obtain ⟨es', hes⟩ : ∃ es' : Array MapEntry, es' = es.modify 0 (fun e => { e with key := .string key, val := v }) := ⟨_, rfl⟩
    refine ⟨ChangeMaps.setBlock w b (.map es' c), ?_, ⟨_, _, ChangeMaps.heap_setBlock_same hb _, ?_⟩, kp_setBlock hb _⟩
    · rw [hes]
      simp [Instr.mapUpdate, run_underlying ht, MapKept.run_getObj_map hb, K.check w _ (WideMaps.keyOf_string_mk hk hs), h1, h00, hk0, K.stays w (WideMaps.keyOf_string_mk hk hs), MapKept.run_setObj_map _ hb, Result.andThen, ChangeMaps.setBlock]
    · rw [hes, Array.toList_modify, h0]
      rfl
theorem MapIs.drop (h : MapIs w b key o) (hk : P.underlying k = some .string) (hs : key.size ≤ maxLen) (ht : P.underlying t = some (.map k e)) (ty : TypeId) :
    ∃ w', (Builtin.delete_ #[t, k] ty #[.map (some b), .string key]).run P w = .ok (.tuple #[]) w' ∧ MapIs w' b key none ∧ Kp (fun i => i = b) w w' := by
  obtain ⟨es, c, hb, he⟩ := h
  have K : Maps.Keyed P k := Maps.string_keyed hk
  have h1 := found_one hk hs he w
  cases o with
  | none =>
    have h0 : es.toList = [] := by simpa using he
    refine ⟨ChangeMaps.setBlock w b (.map es c), ?_, ⟨_, _, ChangeMaps.heap_setBlock_same hb _, by simp [h0]⟩, kp_setBlock hb _⟩
    simp [Builtin.delete_, run_underlying ht, MapKept.run_getObj_map hb, K.check w _ (WideMaps.keyOf_string_mk hk hs), h1, MapKept.run_setObj_map _ hb, Result.andThen, ChangeMaps.setBlock]
  | some v0 =>
    have hl : es.toList.length = 1 := by have := congrArg List.length he; simpa using this
    refine ⟨ChangeMaps.setBlock w b (.map (es.eraseIdxIfInBounds 0) c), ?_, ⟨_, _, ChangeMaps.heap_setBlock_same hb _, ?_⟩, kp_setBlock hb _⟩
    · simp [Builtin.delete_, run_underlying ht, MapKept.run_getObj_map hb, K.check w _ (WideMaps.keyOf_string_mk hk hs), h1, MapKept.run_setObj_map _ hb, Result.andThen, ChangeMaps.setBlock]
    · have e1 : (es.eraseIdxIfInBounds 0).toList = es.toList.eraseIdx 0 := by
        unfold Array.eraseIdxIfInBounds
        rw [dif_pos (by rw [← Array.length_toList, hl]; decide)]
        simp
      rw [e1]
      rcases h9 : es.toList with _ | ⟨e0, _ | ⟨e1, r⟩⟩ <;> rw [h9] at hl <;> simp_all
theorem MapIs.len (h : MapIs w b key o) (ht : P.underlying t = some (.map k e)) (ty : TypeId) : (Builtin.len_ #[t] ty #[.map (some b)]).run P w = .ok (.int .i64 o.toList.length) w := by
  obtain ⟨es, c, hb, he⟩ := h
  have hl : es.size = o.toList.length := by have := congrArg List.length he; simpa using this
  simp [Builtin.len_, run_underlying ht, MapKept.run_getObj_map hb, Result.andThen, hl, goInt]
variable {ops : Array Oper} {rest : List Oper} {op : Oper} {a : Act} {Q : Exit → Act → World → Prop}
theorem wpList_mapUpdate_is (w : World) (h : MapIs w b key o) (hg : op.guard = none) (m x v : Operand) (t : TypeId) (hop : op.op = Op.mapUpdate t m x v) (hk : P.underlying k = some .string) (hs : key.size ≤ maxLen) (ht : P.underlying t = some (.map k e))
    (hm : a.eval m = .map (some b)) (hx : a.eval x = .string key) (val : Value) (hv : a.eval v = val)
    (hK : ∀ w', MapIs w' b key (some val) → Kp (fun i => i = b) w w' → wpList P ops Q rest (a.put op.dst undef) w') : wpList P ops Q (op :: rest) a w := by
  refine wpList_plain hg fun K' hK' => ?_
  obtain ⟨w', hrun, r1, r2⟩ := h.store (P := P) (t := t) hk hs ht val
  unfold Oper.wp
  simp [execOp, hop, hm, hx, hv, hrun, Result.andThen]
  exact hK' _ _ (hK w' r1 r2)
theorem wpList_delete_is (w : World) (h : MapIs w b key o) (hg : op.guard = none) (m x : Operand) (t k : TypeId) (hop : op.op = Op.call { callee := Callee.builtin Builtin.delete, args := #[m, x], argTypes := #[t, k] }) (hk : P.underlying k = some .string) (hs : key.size ≤ maxLen) (ht : P.underlying t = some (.map k e))
    (hm : a.eval m = .map (some b)) (hx : a.eval x = .string key)
    (hK : ∀ w', MapIs w' b key none → Kp (fun i => i = b) w w' → wpList P ops Q rest (a.put op.dst (.tuple #[])) w') : wpList P ops Q (op :: rest) a w := by
  refine wpList_plain hg fun K' hK' => ?_
  obtain ⟨w', hrun, r1, r2⟩ := h.drop (P := P) (t := t) hk hs ht op.type
  unfold Oper.wp
  simp [execOp, hop, resolve, invoke, builtin, hm, hx, hrun, Result.andThen]
  exact hK' _ _ (hK w' r1 r2)
theorem wp_mapUpdate_is {K : Act → World → Prop} (w : World) (h : MapIs w b key o) (m x v : Operand) (t : TypeId) (hop : op.op = Op.mapUpdate t m x v) (hk : P.underlying k = some .string) (hs : key.size ≤ maxLen) (ht : P.underlying t = some (.map k e))
    (hm : a.eval m = .map (some b)) (hx : a.eval x = .string key) (val : Value) (hv : a.eval v = val)
    (hK : ∀ w', MapIs w' b key (some val) → Kp (fun i => i = b) w w' → K (a.put op.dst undef) w') : Oper.wp P op a w K Q := by
  obtain ⟨w', hrun, r1, r2⟩ := h.store (P := P) (t := t) hk hs ht val
  unfold Oper.wp
  simp [execOp, hop, hm, hx, hv, hrun, Result.andThen]
  exact hK w' r1 r2
theorem wp_delete_is {K : Act → World → Prop} (w : World) (h : MapIs w b key o) (m x : Operand) (t k : TypeId) (hop : op.op = Op.call { callee := Callee.builtin Builtin.delete, args := #[m, x], argTypes := #[t, k] }) (hk : P.underlying k = some .string) (hs : key.size ≤ maxLen) (ht : P.underlying t = some (.map k e))
    (hm : a.eval m = .map (some b)) (hx : a.eval x = .string key)
    (hK : ∀ w', MapIs w' b key none → Kp (fun i => i = b) w w' → K (a.put op.dst (.tuple #[])) w') : Oper.wp P op a w K Q := by
  obtain ⟨w', hrun, r1, r2⟩ := h.drop (P := P) (t := t) hk hs ht op.type
  unfold Oper.wp
  simp [execOp, hop, resolve, invoke, builtin, hm, hx, hrun, Result.andThen]
  exact hK w' r1 r2
end
end Go.Proofs.YtikegddlbelfaaaGreatDoor
namespace Go.Proofs.YtikegddlbelfaaaGreatDoor
open Go.RowKit

/-- A slice of rows of 'n' cells each: the address is asked for only where there is a row. -/
def HoldsR (w : World) (a : Option Addr) (n : Nat) (xs : List (List Value)) : Prop :=
  xs = [] ∨ ∃ b off, a = some ⟨b, off, none⟩ ∧ b < w.heap.size ∧ ∀ (k : Nat) (row : List Value), xs[k]? = some row → ∀ (j : Nat) (u : Value), row[j]? = some u → w.cell? ⟨b, off + k * n + j, none⟩ = some u

theorem HoldsR.none (w : World) (a : Option Addr) (n : Nat) : HoldsR w a n [] := .inl rfl

theorem HoldsR.at {w : World} {a : Option Addr} {n : Nat} {xs : List (List Value)} (h : HoldsR w a n xs) {k : Nat} {row : List Value} (hk : xs[k]? = some row) :
    ∃ b off, a = some ⟨b, off, Option.none⟩ ∧ b < w.heap.size ∧ ∀ (j : Nat) (u : Value), row[j]? = some u → w.cell? ⟨b, off + k * n + j, Option.none⟩ = some u := by
  rcases h with rfl | ⟨b, off, ha, hb, hc⟩
  · simp at hk
  · exact ⟨b, off, ha, hb, hc k row hk⟩

theorem HoldsR.keep {w w' : World} {a : Option Addr} {n : Nat} {xs : List (List Value)} {B : Nat} (h : HoldsR w a n xs) (hb : Below B w w') (hB : w.heap.size ≤ B) : HoldsR w' a n xs := by
  rcases h with rfl | ⟨b, off, ha, hlt, hc⟩
  · exact .inl rfl
  · refine .inr ⟨b, off, ha, Nat.lt_of_lt_of_le hlt hb.size, fun k row hk j u hu => ?_⟩
    rw [hb.cell (p := ⟨b, off + k * n + j, Option.none⟩) (Nat.lt_of_lt_of_le hlt hB)]
    exact hc k row hk j u hu

theorem HoldsR.under {w w' : World} {a : Option Addr} {n : Nat} {xs : List (List Value)} (h : HoldsR w a n xs) (hb : Below w.heap.size w w') : HoldsR w' a n xs := h.keep hb (Nat.le_refl _)

theorem HoldsR.take {w : World} {a : Option Addr} {n : Nat} {xs : List (List Value)} (h : HoldsR w a n xs) (i : Nat) : HoldsR w a n (xs.take i) := by
  rcases h with rfl | ⟨b, off, ha, hlt, hc⟩
  · simp; exact .inl rfl
  · refine .inr ⟨b, off, ha, hlt, fun k row hk j u hu => ?_⟩
    refine hc k row ?_ j u hu
    rw [List.getElem?_take] at hk
    split at hk
    · exact hk
    · cases hk

theorem flat_get (n : Nat) (hn : 0 < n) : ∀ (xs : List (List Value)), (∀ r ∈ xs, r.length = n) → ∀ j : Nat, xs.flatten[j]? = (xs[j / n]?).bind (·[j % n]?)
  | [], _, j => by simp
  | r :: xs, h, j => by
    have hr := h r (by simp)
    rw [List.flatten_cons]
    by_cases hj : j < n
    · rw [List.getElem?_append_left (by omega), Nat.div_eq_of_lt hj, Nat.mod_eq_of_lt hj]
      simp
    · rw [List.getElem?_append_right (by omega), hr, flat_get n hn xs (fun x hx => h x (by simp [hx])) (j - n)]
      have e1 : j / n = (j - n) / n + 1 := by rw [← Nat.add_div_right _ hn]; congr 1; omega
      have e2 : j % n = (j - n) % n := by rw [← Nat.add_mod_right (j - n) n]; congr 1; omega
      rw [e1, e2]
      simp

theorem flat_len (n : Nat) : ∀ (xs : List (List Value)), (∀ r ∈ xs, r.length = n) → xs.flatten.length = xs.length * n
  | [], _ => by simp
  | r :: xs, h => by
    rw [List.flatten_cons, List.length_append, h r (by simp), flat_len n xs (fun x hx => h x (by simp [hx])), List.length_cons, Nat.succ_mul]
    omega

/-- The rows' cells, one behind the other. -/
theorem HoldsR.flat {w : World} {ad : Addr} {n : Nat} {xs : List (List Value)} (hn : 0 < n) (hr : ∀ r ∈ xs, r.length = n) (h : HoldsR w (some ad) n xs) :
    ∀ (j : Nat) (u : Value), xs.flatten[j]? = some u → w.cell? (ad.add j) = some u := by
  intro j u hu
  rw [flat_get n hn xs hr j] at hu
  cases hk : xs[j / n]? with
  | none => rw [hk] at hu; simp at hu
  | some row =>
    rw [hk] at hu
    simp at hu
    obtain ⟨b, off, ha, _, hc⟩ := h.at hk
    injection ha with ha
    subst ha
    have := hc _ u hu
    have e : off + j / n * n + j % n = off + j := by
      have := Nat.div_add_mod j n
      rw [Nat.mul_comm] at this
      omega
    rw [e] at this
    have e2 : (⟨b, off, Option.none⟩ : Addr).add j = ⟨b, off + j, Option.none⟩ := by unfold Addr.add; split <;> simp_all
    rw [e2]
    exact this
end Go.Proofs.YtikegddlbelfaaaGreatDoor
