/-
  A map from 1, 2, .. to texts: looked up, grown by one.
-/
import Derived.Test.YtmafnjapailliaaGreatDoorBoxG
namespace Go.Proofs.YtmafnjapailliaaGreatDoor
open Go.RowKit

def partE (ps : List ByteArray) : List (Value × Value) := (ps.zipIdx 1).map fun x => (Value.int .i64 (x.2 : Int), Value.string x.1)
theorem partE_snoc (ps : List ByteArray) (p : ByteArray) : partE (ps ++ [p]) = partE ps ++ [(.int .i64 ((ps.length + 1 : Nat) : Int), .string p)] := by
  unfold partE
  rw [List.zipIdx_append, List.map_append]
  simp [Nat.add_comm]
theorem partE_mem {ps : List ByteArray} {x : Value × Value} (h : x ∈ partE ps) : ∃ i p, ps[i]? = some p ∧ x = (.int .i64 ((i + 1 : Nat) : Int), .string p) := by
  unfold partE at h
  obtain ⟨y, hy, rfl⟩ := List.mem_map.1 h
  obtain ⟨⟨i, hi⟩⟩ : Nonempty { i : Nat // (ps.zipIdx 1)[i]? = some y } := by
    obtain ⟨i, hi⟩ := List.getElem?_of_mem hy
    exact ⟨⟨i, hi⟩⟩
  rw [List.getElem?_zipIdx] at hi
  cases hp : ps[i]? with
  | none => rw [hp] at hi; cases hi
  | some p =>
    rw [hp] at hi
    injection hi with hi
    subst hi
    exact ⟨i, p, hp, by rw [Nat.add_comm]⟩
theorem partE_at {ps : List ByteArray} {i : Nat} {p : ByteArray} (h : ps[i]? = some p) : (partE ps)[i]? = some (.int .i64 ((i + 1 : Nat) : Int), .string p) := by
  unfold partE
  rw [List.getElem?_map, List.getElem?_zipIdx, h]
  simp [Nat.add_comm]
/-- Block b is a map of the parts, by their numbers. -/
def PartsIs (w : World) (b : Nat) (ps : List ByteArray) : Prop :=
  ∃ es clock, w.heap[b]? = some (.map es clock) ∧ es.toList.map (fun e => (e.key, e.val)) = partE ps
theorem PartsIs.new (w : World) : PartsIs (w.alloc (.map #[] 0)) w.heap.size [] := ⟨#[], 0, heap_alloc_new w _, rfl⟩
theorem PartsIs.lt {w : World} {b : Nat} {ps : List ByteArray} (h : PartsIs w b ps) : b < w.heap.size := by
  obtain ⟨es, c, hb, _⟩ := h
  exact (Array.getElem?_eq_some_iff.1 hb).1
theorem PartsIs.kp {F : Nat → Prop} {w w' : World} {b : Nat} {ps : List ByteArray} (h : PartsIs w b ps) (ha : Kp F w w') (hne : ¬ F b) : PartsIs w' b ps := by
  have hlt := h.lt
  obtain ⟨es, c, hb, he⟩ := h
  exact ⟨es, c, (ha.block b hlt hne).trans hb, he⟩
section
variable {P : Program} {k e t : TypeId} {w : World} {b : Nat} {ps : List ByteArray}
theorem num_wf {n : Nat} (hn : n ≤ 1000000) : (Lit.int .i64 (n : Int)).wf = true := by
  simp [Lit.wf, IntKind.min, IntKind.max, IntKind.signed, IntKind.bits]
  omega
theorem parts_keys {es : Array MapEntry} (hk : P.underlying k = some (.int .i64)) (hl : ps.length ≤ 100000) (he : es.toList.map (fun e => (e.key, e.val)) = partE ps) : ∀ e ∈ es.toList, ∃ l, keyOf P k e.key = some l := by
  intro x hx
  have h1 : (x.key, x.val) ∈ partE ps := by rw [← he]; exact List.mem_map.2 ⟨x, hx, rfl⟩
  obtain ⟨i, p, hp, h2⟩ := partE_mem h1
  have hi := (List.getElem?_eq_some_iff.1 hp).1
  injection h2 with h2 h3
  exact ⟨_, by rw [h2]; exact Maps.keyOf_int_mk hk (num_wf (by omega))⟩
theorem PartsIs.look (h : PartsIs w b ps) (hk : P.underlying k = some (.int .i64)) (ht : P.underlying t = some (.map k e)) (hl : ps.length ≤ 100000) {i n : Nat} {p : ByteArray} (hp : ps[i]? = some p) (hn : n = i + 1) :
    (Instr.lookup t (.map (some b)) (.int .i64 n) true).run P w = .ok (.tuple #[.string p, .bool true]) w := by
  obtain ⟨es, c, hb, he⟩ := h
  have K : Maps.Keyed P k := Maps.int_keyed hk
  have hi := (List.getElem?_eq_some_iff.1 hp).1
  have hkey : keyOf P k (.int .i64 (n : Int)) = some (.int .i64 (n : Int)) := Maps.keyOf_int_mk hk (num_wf (by omega))
  have hat := partE_at hp
  rcases K.find w hkey es.toList (parts_keys hk hl he) with ⟨_, h2⟩ | ⟨j, x, h1, h2, h3⟩
  · rw [← he] at hat
    rw [List.getElem?_map] at hat
    cases hx : es.toList[i]? with
    | none => rw [hx] at hat; cases hat
    | some x =>
      rw [hx] at hat
      injection hat with hat
      injection hat with e1 e2
      exact absurd (by rw [e1, hn]) (h2 x (List.mem_of_getElem? hx))
  · have h4 : (partE ps)[j]? = some (x.key, x.val) := by rw [← he, List.getElem?_map, h2]; rfl
    obtain ⟨i2, p2, hp2, h5⟩ := partE_mem (List.mem_of_getElem? h4)
    injection h5 with h5 h6
    rw [h3] at h5
    injection h5 with _ h5
    obtain rfl : i2 = i := by omega
    rw [hp] at hp2
    injection hp2 with hp2
    subst hp2
    rw [h6] at h1
    simp [Instr.lookup, run_underlying ht, MapKept.run_getObj_map hb, K.check w _ hkey, h1, Result.andThen]
theorem PartsIs.grow (h : PartsIs w b ps) (hk : P.underlying k = some (.int .i64)) (ht : P.underlying t = some (.map k e)) (hl : ps.length ≤ 100000) (p : ByteArray) {n : Nat} (hn : n = ps.length + 1) :
    ∃ w', (Instr.mapUpdate t (.map (some b)) (.int .i64 n) (.string p)).run P w = .ok () w' ∧ PartsIs w' b (ps ++ [p]) ∧ Kp (fun i => i = b) w w' := by
  obtain ⟨es, c, hb, he⟩ := h
  have K : Maps.Keyed P k := Maps.int_keyed hk
  have hkey : keyOf P k (.int .i64 (n : Int)) = some (.int .i64 (n : Int)) := Maps.keyOf_int_mk hk (num_wf (by omega))
  rcases K.find w hkey es.toList (parts_keys hk hl he) with ⟨h1, _⟩ | ⟨j, x, _, h2, h3⟩
  · refine ⟨ChangeMaps.setBlock w b (.map (es.push ⟨.int .i64 n, .string p, c⟩) (c + 1)), ?_, ⟨_, _, ChangeMaps.heap_setBlock_same hb _, ?_⟩, kp_setBlock hb _⟩
    · simp [Instr.mapUpdate, run_underlying ht, MapKept.run_getObj_map hb, K.check w _ hkey, h1, MapKept.run_setObj_map _ hb, Result.andThen, ChangeMaps.setBlock]
    · rw [Array.toList_push, List.map_append, he, partE_snoc, hn]
      rfl
  · have h4 : (partE ps)[j]? = some (x.key, x.val) := by rw [← he, List.getElem?_map, h2]; rfl
    obtain ⟨i2, p2, hp2, h5⟩ := partE_mem (List.mem_of_getElem? h4)
    have hi2 := (List.getElem?_eq_some_iff.1 hp2).1
    injection h5 with h5 h6
    rw [h3] at h5
    injection h5 with _ h5
    omega
variable {ops : Array Oper} {rest : List Oper} {op : Oper} {a : Act} {Q : Exit → Act → World → Prop}
theorem wpList_mapGrow (w : World) (h : PartsIs w b ps) (hg : op.guard = none) (m x v : Operand) (t : TypeId) (hop : op.op = Op.mapUpdate t m x v) (hk : P.underlying k = some (.int .i64)) (hl : ps.length ≤ 100000) (ht : P.underlying t = some (.map k e))
    (p : ByteArray) {n : Nat} (hn : n = ps.length + 1) (hm : a.eval m = .map (some b)) (hx : a.eval x = .int .i64 n) (hv : a.eval v = .string p)
    (hK : ∀ w', PartsIs w' b (ps ++ [p]) → Kp (fun i => i = b) w w' → wpList P ops Q rest (a.put op.dst undef) w') : wpList P ops Q (op :: rest) a w := by
  refine wpList_plain hg fun K' hK' => ?_
  obtain ⟨w', hrun, r1, r2⟩ := h.grow (P := P) (t := t) hk ht hl p hn
  unfold Oper.wp
  simp [execOp, hop, hm, hx, hv, hrun, Result.andThen]
  exact hK' _ _ (hK w' r1 r2)
end
end Go.Proofs.YtmafnjapailliaaGreatDoor
