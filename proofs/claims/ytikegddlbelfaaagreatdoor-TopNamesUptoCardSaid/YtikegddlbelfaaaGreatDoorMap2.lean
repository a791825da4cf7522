/-
  Maps with string keys that hold one key at most: looked up, stored into, deleted from; each entry is older than the map's clock.
-/
import Derived.Test.YtikegddlbelfaaaGreatDoorBoxG
namespace Go.Proofs.YtikegddlbelfaaaGreatDoor
open Go.RowKit

/-- Block b is a map that holds v under the key, or nothing at all. -/
def MapOn (w : World) (b : Nat) (key : ByteArray) (o : Option Value) : Prop :=
  ∃ es clock, w.heap[b]? = some (.map es clock) ∧ es.toList.map (fun e => (e.key, e.val)) = o.toList.map (fun v => (Value.string key, v)) ∧ ∀ e ∈ es.toList, e.born < clock
theorem MapOn.new (w : World) (key : ByteArray) : MapOn (w.alloc (.map #[] 0)) w.heap.size key none := ⟨#[], 0, heap_alloc_new w _, rfl, fun e he => by simp at he⟩
theorem MapOn.lt {w : World} {b : Nat} {key : ByteArray} {o : Option Value} (h : MapOn w b key o) : b < w.heap.size := by
  obtain ⟨es, c, hb, _⟩ := h
  exact (Array.getElem?_eq_some_iff.1 hb).1
theorem MapOn.kp {F : Nat → Prop} {w w' : World} {b : Nat} {key : ByteArray} {o : Option Value} (h : MapOn w b key o) (ha : Kp F w w') (hne : ¬ F b) : MapOn w' b key o := by
  have hlt := h.lt
  obtain ⟨es, c, hb, he⟩ := h
  exact ⟨es, c, (ha.block b hlt hne).trans hb, he⟩
section
variable {P : Program} {k e t : TypeId} {w : World} {b : Nat} {key : ByteArray} {o : Option Value}
theorem found_on {es : Array MapEntry} (hk : P.underlying k = some .string) (hs : key.size ≤ maxLen) (he : es.toList.map (fun e => (e.key, e.val)) = o.toList.map (fun v => (Value.string key, v))) (w : World) :
    (Instr.findKey k (.string key) es.toList).run P w = .ok (o.map fun v => (0, v)) w := by
  have K : Maps.Keyed P k := Maps.string_keyed hk
  have hkey := WideMaps.keyOf_string_mk hk hs
  cases o with
  | none =>
    have h0 : es.toList = [] := by simpa using he
    rw [h0]
    rcases K.find w hkey [] (by simp) with ⟨h1, _⟩ | ⟨j, e, _, h2, _⟩
    · exact h1
    · simp at h2
  | some v =>
    obtain ⟨e0, h0, hk0, hv0⟩ : ∃ e0, es.toList = [e0] ∧ e0.key = .string key ∧ e0.val = v := by
      rcases hl : es.toList with _ | ⟨e0, _ | ⟨e1, r⟩⟩
      · rw [hl] at he; simp at he
      · rw [hl] at he
        simp at he
        exact ⟨e0, rfl, he.1, he.2⟩
      · rw [hl] at he; simp at he
    rw [h0]
    rcases K.find w hkey [e0] (by intro x hx; simp at hx; subst hx; exact ⟨_, by rw [hk0]; exact hkey⟩) with ⟨_, h2⟩ | ⟨j, x, h1, h2, _⟩
    · exact absurd hk0 (h2 e0 (by simp))
    · cases j with
      | zero =>
        simp at h2
        subst h2
        rw [h1, ← hv0]
        rfl
      | succ j => simp at h2
theorem MapOn.look (h : MapOn w b key o) (hk : P.underlying k = some .string) (hs : key.size ≤ maxLen) (ht : P.underlying t = some (.map k e)) {z : Value} (hz : (zeroValue e).run P w = .ok z w) :
    (Instr.lookup t (.map (some b)) (.string key) false).run P w = .ok (o.getD z) w := by
  obtain ⟨es, c, hb, he, hbn⟩ := h
  have K : Maps.Keyed P k := Maps.string_keyed hk
  have h1 := found_on hk hs he w
  cases o with
  | none => simp [Instr.lookup, run_underlying ht, MapKept.run_getObj_map hb, K.check w _ (WideMaps.keyOf_string_mk hk hs), h1, hz, Result.andThen]
  | some v => simp [Instr.lookup, run_underlying ht, MapKept.run_getObj_map hb, K.check w _ (WideMaps.keyOf_string_mk hk hs), h1, Result.andThen]
theorem MapOn.store (h : MapOn w b key o) (hk : P.underlying k = some .string) (hs : key.size ≤ maxLen) (ht : P.underlying t = some (.map k e)) (v : Value) :
    ∃ w', (Instr.mapUpdate t (.map (some b)) (.string key) v).run P w = .ok () w' ∧ MapOn w' b key (some v) ∧ Kp (fun i => i = b) w w' := by
  obtain ⟨es, c, hb, he, hbn⟩ := h
  have K : Maps.Keyed P k := Maps.string_keyed hk
  have h1 := found_on hk hs he w
  cases o with
  | none =>
    have h0 : es.toList = [] := by simpa using he
    refine ⟨ChangeMaps.setBlock w b (.map (es.push ⟨.string key, v, c⟩) (c + 1)), ?_, ⟨_, _, ChangeMaps.heap_setBlock_same hb _, ?_, ?_⟩, kp_setBlock hb _⟩
    · simp [Instr.mapUpdate, run_underlying ht, MapKept.run_getObj_map hb, K.check w _ (WideMaps.keyOf_string_mk hk hs), h1, MapKept.run_setObj_map _ hb, Result.andThen, ChangeMaps.setBlock]
    · simp [h0]
    · intro x hx
      rw [Array.toList_push, h0, List.nil_append, List.mem_singleton] at hx
      rw [hx]
      exact Nat.lt_succ_self c
  | some v0 =>
    obtain ⟨e0, h0, hk0, hv0⟩ : ∃ e0, es.toList = [e0] ∧ e0.key = .string key ∧ e0.val = v0 := by
      rcases hl : es.toList with _ | ⟨e0, _ | ⟨e1, r⟩⟩
      · rw [hl] at he; simp at he
      · rw [hl] at he
        simp at he
        exact ⟨e0, rfl, he.1, he.2⟩
      · rw [hl] at he; simp at he
    have h00 : es[0]? = some e0 := by rw [← Array.getElem?_toList, h0]; rfl
    obtain ⟨es', hes⟩ : ∃ es' : Array MapEntry, es' = es.modify 0 (fun e => { e with key := .string key, val := v }) := ⟨_, rfl⟩
    refine ⟨ChangeMaps.setBlock w b (.map es' c), ?_, ⟨_, _, ChangeMaps.heap_setBlock_same hb _, ?_, ?_⟩, kp_setBlock hb _⟩
    · rw [hes]
      simp [Instr.mapUpdate, run_underlying ht, MapKept.run_getObj_map hb, K.check w _ (WideMaps.keyOf_string_mk hk hs), h1, h00, hk0, K.stays w (WideMaps.keyOf_string_mk hk hs), MapKept.run_setObj_map _ hb, Result.andThen, ChangeMaps.setBlock]
    · rw [hes, Array.toList_modify, h0]
      rfl
    · intro x hx
      rw [hes, Array.toList_modify, h0] at hx
      have hx2 : x = { e0 with key := .string key, val := v } := List.mem_singleton.1 hx
      rw [hx2]
      exact hbn e0 (by rw [h0]; exact List.mem_singleton.2 rfl)
theorem MapOn.drop (h : MapOn w b key o) (hk : P.underlying k = some .string) (hs : key.size ≤ maxLen) (ht : P.underlying t = some (.map k e)) (ty : TypeId) :
    ∃ w', (Builtin.delete_ #[t, k] ty #[.map (some b), .string key]).run P w = .ok (.tuple #[]) w' ∧ MapOn w' b key none ∧ Kp (fun i => i = b) w w' := by
  obtain ⟨es, c, hb, he, hbn⟩ := h
  have K : Maps.Keyed P k := Maps.string_keyed hk
  have h1 := found_on hk hs he w
  cases o with
  | none =>
    have h0 : es.toList = [] := by simpa using he
    refine ⟨ChangeMaps.setBlock w b (.map es c), ?_, ⟨_, _, ChangeMaps.heap_setBlock_same hb _, by simp [h0], hbn⟩, kp_setBlock hb _⟩
    simp [Builtin.delete_, run_underlying ht, MapKept.run_getObj_map hb, K.check w _ (WideMaps.keyOf_string_mk hk hs), h1, MapKept.run_setObj_map _ hb, Result.andThen, ChangeMaps.setBlock]
  | some v0 =>
    have hl : es.toList.length = 1 := by have := congrArg List.length he; simpa using this
    refine ⟨ChangeMaps.setBlock w b (.map (es.eraseIdxIfInBounds 0) c), ?_, ⟨_, _, ChangeMaps.heap_setBlock_same hb _, ?_, ?_⟩, kp_setBlock hb _⟩
    · simp [Builtin.delete_, run_underlying ht, MapKept.run_getObj_map hb, K.check w _ (WideMaps.keyOf_string_mk hk hs), h1, MapKept.run_setObj_map _ hb, Result.andThen, ChangeMaps.setBlock]
    · have e1 : (es.eraseIdxIfInBounds 0).toList = es.toList.eraseIdx 0 := by
        unfold Array.eraseIdxIfInBounds
        rw [dif_pos (by rw [← Array.length_toList, hl]; decide)]
        simp
      rw [e1]
      rcases h9 : es.toList with _ | ⟨e0, _ | ⟨e1, r⟩⟩ <;> rw [h9] at hl <;> simp_all
    · intro x hx
      have e1 : (es.eraseIdxIfInBounds 0).toList = es.toList.eraseIdx 0 := by
        unfold Array.eraseIdxIfInBounds
        rw [dif_pos (by rw [← Array.length_toList, hl]; decide)]
        simp
      rw [e1] at hx
      exact hbn x (List.mem_of_mem_eraseIdx hx)
theorem MapOn.len (h : MapOn w b key o) (ht : P.underlying t = some (.map k e)) (ty : TypeId) : (Builtin.len_ #[t] ty #[.map (some b)]).run P w = .ok (.int .i64 o.toList.length) w := by
  obtain ⟨es, c, hb, he, hbn⟩ := h
  have hl : es.size = o.toList.length := by have := congrArg List.length he; simpa using this
  simp [Builtin.len_, run_underlying ht, MapKept.run_getObj_map hb, Result.andThen, hl, goInt]
variable {ops : Array Oper} {rest : List Oper} {op : Oper} {a : Act} {Q : Exit → Act → World → Prop}
theorem wpList_mapUpdate_on (w : World) (h : MapOn w b key o) (hg : op.guard = none) (m x v : Operand) (t : TypeId) (hop : op.op = Op.mapUpdate t m x v) (hk : P.underlying k = some .string) (hs : key.size ≤ maxLen) (ht : P.underlying t = some (.map k e))
    (hm : a.eval m = .map (some b)) (hx : a.eval x = .string key) (val : Value) (hv : a.eval v = val)
    (hK : ∀ w', MapOn w' b key (some val) → Kp (fun i => i = b) w w' → wpList P ops Q rest (a.put op.dst undef) w') : wpList P ops Q (op :: rest) a w := by
  refine wpList_plain hg fun K' hK' => ?_
  obtain ⟨w', hrun, r1, r2⟩ := h.store (P := P) (t := t) hk hs ht val
  unfold Oper.wp
  simp [execOp, hop, hm, hx, hv, hrun, Result.andThen]
  exact hK' _ _ (hK w' r1 r2)
theorem wpList_delete_on (w : World) (h : MapOn w b key o) (hg : op.guard = none) (m x : Operand) (t k : TypeId) (hop : op.op = Op.call { callee := Callee.builtin Builtin.delete, args := #[m, x], argTypes := #[t, k] }) (hk : P.underlying k = some .string) (hs : key.size ≤ maxLen) (ht : P.underlying t = some (.map k e))
    (hm : a.eval m = .map (some b)) (hx : a.eval x = .string key)
    (hK : ∀ w', MapOn w' b key none → Kp (fun i => i = b) w w' → wpList P ops Q rest (a.put op.dst (.tuple #[])) w') : wpList P ops Q (op :: rest) a w := by
  refine wpList_plain hg fun K' hK' => ?_
  obtain ⟨w', hrun, r1, r2⟩ := h.drop (P := P) (t := t) hk hs ht op.type
  unfold Oper.wp
  simp [execOp, hop, resolve, invoke, builtin, hm, hx, hrun, Result.andThen]
  exact hK' _ _ (hK w' r1 r2)
theorem wp_mapUpdate_on {K : Act → World → Prop} (w : World) (h : MapOn w b key o) (m x v : Operand) (t : TypeId) (hop : op.op = Op.mapUpdate t m x v) (hk : P.underlying k = some .string) (hs : key.size ≤ maxLen) (ht : P.underlying t = some (.map k e))
    (hm : a.eval m = .map (some b)) (hx : a.eval x = .string key) (val : Value) (hv : a.eval v = val)
    (hK : ∀ w', MapOn w' b key (some val) → Kp (fun i => i = b) w w' → K (a.put op.dst undef) w') : Oper.wp P op a w K Q := by
  obtain ⟨w', hrun, r1, r2⟩ := h.store (P := P) (t := t) hk hs ht val
  unfold Oper.wp
  simp [execOp, hop, hm, hx, hv, hrun, Result.andThen]
  exact hK w' r1 r2
theorem wp_delete_on {K : Act → World → Prop} (w : World) (h : MapOn w b key o) (m x : Operand) (t k : TypeId) (hop : op.op = Op.call { callee := Callee.builtin Builtin.delete, args := #[m, x], argTypes := #[t, k] }) (hk : P.underlying k = some .string) (hs : key.size ≤ maxLen) (ht : P.underlying t = some (.map k e))
    (hm : a.eval m = .map (some b)) (hx : a.eval x = .string key)
    (hK : ∀ w', MapOn w' b key none → Kp (fun i => i = b) w w' → K (a.put op.dst (.tuple #[])) w') : Oper.wp P op a w K Q := by
  obtain ⟨w', hrun, r1, r2⟩ := h.drop (P := P) (t := t) hk hs ht op.type
  unfold Oper.wp
  simp [execOp, hop, resolve, invoke, builtin, hm, hx, hrun, Result.andThen]
  exact hK w' r1 r2
end
end Go.Proofs.YtikegddlbelfaaaGreatDoor
