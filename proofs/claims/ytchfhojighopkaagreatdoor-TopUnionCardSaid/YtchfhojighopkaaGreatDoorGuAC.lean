/-
  Parts of the proof: BoxG, IndexAny, Paths, RefPaths, Parts.
-/
import Derived.Maps.OwnSet
import Derived.StringKeys
import Derived.Test.YtchfhojighopkaaGreatDoorGuAA
import Derived.Test.YtchfhojighopkaaGreatDoorGuAB
namespace Go.Proofs.YtchfhojighopkaaGreatDoor
open Go.RowKit

/-- A block that is known whole. -/
def BoxIs (w : World) (b : Nat) (vs : Array Value) (t : TypeId) : Prop := w.heap[b]? = some (.cells vs t (0, 0))
theorem BoxIs.new (w : World) (vs : Array Value) (t : TypeId) : BoxIs (w.alloc (.cells vs t)) w.heap.size vs t := heap_alloc_new w _
theorem BoxIs.lt {w : World} {b : Nat} {vs : Array Value} {t : TypeId} (h : BoxIs w b vs t) : b < w.heap.size := (Array.getElem?_eq_some_iff.1 h).1
theorem BoxIs.under {w w' : World} {b : Nat} {vs : Array Value} {t : TypeId} (h : BoxIs w b vs t) (hb : Below w.heap.size w w') : BoxIs w' b vs t := (hb.block b h.lt).trans h
theorem BoxIs.cell {w : World} {b : Nat} {vs : Array Value} {t : TypeId} (h : BoxIs w b vs t) {j : Nat} {u : Value} (hj : vs[j]? = some u) : w.cell? ⟨b, j, none⟩ = some u := by
 rw [Lib.cell_of_heap h]
 exact hj
end Go.Proofs.YtchfhojighopkaaGreatDoor
namespace Go.Proofs.YtchfhojighopkaaGreatDoor
open Go.RowKit

/-- All blocks but those of F are as they were. -/
structure Kp (F : Nat → Prop) (w w' : World) : Prop where
 os : w'.os = w.os
 tape : w'.tape = w.tape
 output : w'.output = w.output
 size : w.heap.size ≤ w'.heap.size
 block : ∀ k, k < w.heap.size → ¬ F k → w'.heap[k]? = w.heap[k]?
theorem Kp.refl (F : Nat → Prop) (w : World) : Kp F w w := ⟨rfl, rfl, rfl, Nat.le_refl _, fun _ _ _ => rfl⟩
theorem Kp.trans {F : Nat → Prop} {u v w : World} (h : Kp F u v) (k : Kp F v w) : Kp F u w :=
 ⟨k.os.trans h.os, k.tape.trans h.tape, k.output.trans h.output, Nat.le_trans h.size k.size, fun i hi hb => (k.block i (Nat.lt_of_lt_of_le hi h.size) hb).trans (h.block i hi hb)⟩
/-- What the second part changes may also be new. -/
theorem Kp.chain {F G : Nat → Prop} {u v w : World} (h : Kp F u v) (k : Kp G v w) (hG : ∀ i, G i → F i ∨ u.heap.size ≤ i) : Kp F u w :=
 ⟨k.os.trans h.os, k.tape.trans h.tape, k.output.trans h.output, Nat.le_trans h.size k.size, fun i hi hb =>
  (k.block i (Nat.lt_of_lt_of_le hi h.size) (fun e => (hG i e).elim hb (fun e => by omega))).trans (h.block i hi hb)⟩
theorem Kp.mono {F G : Nat → Prop} {w w' : World} (h : Kp F w w') (hG : ∀ i, F i → G i) : Kp G w w' := ⟨h.os, h.tape, h.output, h.size, fun k hk hb => h.block k hk (fun e => hb (hG k e))⟩
theorem Kp.of {F : Nat → Prop} {w w' : World} (h : Below w.heap.size w w') : Kp F w w' := ⟨h.os, h.tape, h.output, h.size, fun k hk _ => h.block k hk⟩
theorem Kp.set {F : Nat → Prop} {w w' : World} (h : Kp F w w') {b : Nat} (hb : F b ∨ w.heap.size ≤ b) (i : Nat) (v : Value) : Kp F w (w'.setCell ⟨b, i, none⟩ v) :=
 ⟨h.os, h.tape, h.output, by simp [World.setCell]; exact h.size, fun k hk hF =>
  (Below.heap_setCell _ _ _ _ (fun e => by subst e; exact hb.elim hF (fun e => by omega))).trans (h.block k hk hF)⟩
theorem Kp.drew {F : Nat → Prop} {w w' : World} (h : Kp F w w') (n : Nat) : Kp F w (w'.drewN n) := ⟨h.os, h.tape, h.output, h.size, h.block⟩
theorem Kp.below {F : Nat → Prop} {z : Nat} {w w' : World} (h : Kp F w w') (hb : ∀ i, F i → z ≤ i) (hz : z ≤ w.heap.size) : Below z w w' :=
 ⟨h.os, h.tape, h.output, h.size, fun k hk => h.block k (by omega) (fun e => by have := hb k e; omega)⟩
theorem Kp.none {w w' : World} (h : Kp (fun _ => False) w w') : Below w.heap.size w w' := h.below (fun _ e => e.elim) (Nat.le_refl _)
theorem BoxIs.kp {F : Nat → Prop} {w w' : World} {k : Nat} {vs : Array Value} {t : TypeId} (h : BoxIs w k vs t) (ha : Kp F w w') (hne : ¬ F k) : BoxIs w' k vs t := (ha.block k h.lt hne).trans h
theorem cell_kp {F : Nat → Prop} {w w' : World} (ha : Kp F w w') {p : Addr} {v : Value} (h : w.cell? p = some v) (hne : ¬ F p.block) : w'.cell? p = some v := by
 have hb := ha.block p.block (cell_lt h) hne
 rw [← h]
 simp only [World.cell?, hb]
end Go.Proofs.YtchfhojighopkaaGreatDoor
namespace Go.Proofs.YtchfhojighopkaaGreatDoor
open Go.RowKit

theorem Kp.undrew {F : Nat → Prop} {w w' : World} (h : Kp F w.drew w') : Kp F w w' := ⟨h.os, h.tape, h.output, h.size, h.block⟩
theorem Below.undrew {z : Nat} {w w' : World} (h : Below z w.drew w') : Below z w w' := ⟨h.os, h.tape, h.output, h.size, h.block⟩
/-- Block b is a map that holds v under the key, or nothing at all. -/
def MapIs (w : World) (b : Nat) (key : ByteArray) (o : Option Value) : Prop :=
 ∃ es clock, w.heap[b]? = some (.map es clock) ∧ es.toList.map (fun e => (e.key, e.val)) = o.toList.map (fun v => (Value.string key, v))
theorem MapIs.new (w : World) (key : ByteArray) : MapIs (w.alloc (.map #[] 0)) w.heap.size key none := ⟨#[], 0, heap_alloc_new w _, rfl⟩
theorem MapIs.lt {w : World} {b : Nat} {key : ByteArray} {o : Option Value} (h : MapIs w b key o) : b < w.heap.size := by
 obtain ⟨es, c, hb, _⟩ := h
 exact (Array.getElem?_eq_some_iff.1 hb).1
theorem MapIs.kp {F : Nat → Prop} {w w' : World} {b : Nat} {key : ByteArray} {o : Option Value} (h : MapIs w b key o) (ha : Kp F w w') (hne : ¬ F b) : MapIs w' b key o := by
 have hlt := h.lt
 obtain ⟨es, c, hb, he⟩ := h
 exact ⟨es, c, (ha.block b hlt hne).trans hb, he⟩
theorem kp_setBlock {w : World} {b : Nat} {es : Array MapEntry} {c : Nat} (hb : w.heap[b]? = some (.map es c)) (o : Obj) : Kp (fun i => i = b) w (ChangeMaps.setBlock w b o) :=
 ⟨rfl, rfl, rfl, by simp [ChangeMaps.setBlock], fun i _ hi => ChangeMaps.heap_setBlock_other hb _ hi⟩
section
variable {P : Program} {k e t : TypeId} {w : World} {b : Nat} {key : ByteArray} {o : Option Value}
theorem found_one {es : Array MapEntry} (hk : P.underlying k = some .string) (hs : key.size ≤ maxLen) (he : es.toList.map (fun e => (e.key, e.val)) = o.toList.map (fun v => (Value.string key, v))) (w : World) :
  (Instr.findKey k (.string key) es.toList).run P w = .ok (o.map fun v => (0, v)) w := by
 have K : Maps.Keyed P k := Maps.string_keyed hk
 have hkey := WideMaps.keyOf_string_mk hk hs
 cases o with
 | none =>
  have h0 : es.toList = [] := by simpa using he
  rw [h0]
  rcases K.find w hkey [] (by simp) with ⟨h1, _⟩ | ⟨j, e, _, h2, _⟩
  ·exact h1
  ·simp at h2
 | some v =>
  obtain ⟨e0, h0, hk0, hv0⟩ : ∃ e0, es.toList = [e0] ∧ e0.key = .string key ∧ e0.val = v := by
   rcases hl : es.toList with _ | ⟨e0, _ | ⟨e1, r⟩⟩
   ·rw [hl] at he; simp at he
   ·rw [hl] at he
    simp at he
    exact ⟨e0, rfl, he.1, he.2⟩
   ·rw [hl] at he; simp at he
  rw [h0]
  rcases K.find w hkey [e0] (by intro x hx; simp at hx; subst hx; exact ⟨_, by rw [hk0]; exact hkey⟩) with ⟨_, h2⟩ | ⟨j, x, h1, h2, _⟩
  ·exact absurd hk0 (h2 e0 (by simp))
  ·cases j with
   | zero =>
    simp at h2
    subst h2
    rw [h1, ← hv0]
    rfl
   | succ j => simp at h2
theorem MapIs.look (h : MapIs w b key o) (hk : P.underlying k = some .string) (hs : key.size ≤ maxLen) (ht : P.underlying t = some (.map k e)) {z : Value} (hz : (zeroValue e).run P w = .ok z w) :
  (Instr.lookup t (.map (some b)) (.string key) false).run P w = .ok (o.getD z) w := by
 obtain ⟨es, c, hb, he⟩ := h
 have K : Maps.Keyed P k := Maps.string_keyed hk
 have h1 := found_one hk hs he w
 cases o with
 | none => simp [Instr.lookup, run_underlying ht, MapKept.run_getObj_map hb, K.check w _ (WideMaps.keyOf_string_mk hk hs), h1, hz, Result.andThen]
 | some v => simp [Instr.lookup, run_underlying ht, MapKept.run_getObj_map hb, K.check w _ (WideMaps.keyOf_string_mk hk hs), h1, Result.andThen]
theorem MapIs.store (h : MapIs w b key o) (hk : P.underlying k = some .string) (hs : key.size ≤ maxLen) (ht : P.underlying t = some (.map k e)) (v : Value) :
  ∃ w', (Instr.mapUpdate t (.map (some b)) (.string key) v).run P w = .ok () w' ∧ MapIs w' b key (some v) ∧ Kp (fun i => i = b) w w' := by
 obtain ⟨es, c, hb, he⟩ := h
 have K : Maps.Keyed P k := Maps.string_keyed hk
 have h1 := found_one hk hs he w
 cases o with
 | none =>
  have h0 : es.toList = [] := by simpa using he
  refine ⟨ChangeMaps.setBlock w b (.map (es.push ⟨.string key, v, c⟩) (c + 1)), ?_, ⟨_, _, ChangeMaps.heap_setBlock_same hb _, ?_⟩, kp_setBlock hb _⟩
  ·simp [Instr.mapUpdate, run_underlying ht, MapKept.run_getObj_map hb, K.check w _ (WideMaps.keyOf_string_mk hk hs), h1, MapKept.run_setObj_map _ hb, Result.andThen, ChangeMaps.setBlock]
  ·simp [h0]
 | some v0 =>
  obtain ⟨e0, h0, hk0, hv0⟩ : ∃ e0, es.toList = [e0] ∧ e0.key = .string key ∧ e0.val = v0 := by
   rcases hl : es.toList with _ | ⟨e0, _ | ⟨e1, r⟩⟩
   ·rw [hl] at he; simp at he
   ·rw [hl] at he
    simp at he
    exact ⟨e0, rfl, he.1, he.2⟩
   ·rw [hl] at he; simp at he
  have h00 : es[0]? = some e0 := by rw [← Array.getElem?_toList, h0]; rfl
  obtain ⟨es', hes⟩ : ∃ es' : Array MapEntry, es' = es.modify 0 (fun e => { e with key := .string key, val := v }) := ⟨_, rfl⟩
  refine ⟨ChangeMaps.setBlock w b (.map es' c), ?_, ⟨_, _, ChangeMaps.heap_setBlock_same hb _, ?_⟩, kp_setBlock hb _⟩
  ·rw [hes]
   simp [Instr.mapUpdate, run_underlying ht, MapKept.run_getObj_map hb, K.check w _ (WideMaps.keyOf_string_mk hk hs), h1, h00, hk0, K.stays w (WideMaps.keyOf_string_mk hk hs), MapKept.run_setObj_map _ hb, Result.andThen, ChangeMaps.setBlock]
  ·rw [hes, Array.toList_modify, h0]
   rfl
theorem MapIs.drop (h : MapIs w b key o) (hk : P.underlying k = some .string) (hs : key.size ≤ maxLen) (ht : P.underlying t = some (.map k e)) (ty : TypeId) :
  ∃ w', (Builtin.delete_ #[t, k] ty #[.map (some b), .string key]).run P w = .ok (.tuple #[]) w' ∧ MapIs w' b key none ∧ Kp (fun i => i = b) w w' := by
 obtain ⟨es, c, hb, he⟩ := h
 have K : Maps.Keyed P k := Maps.string_keyed hk
 have h1 := found_one hk hs he w
 cases o with
 | none =>
  have h0 : es.toList = [] := by simpa using he
  refine ⟨ChangeMaps.setBlock w b (.map es c), ?_, ⟨_, _, ChangeMaps.heap_setBlock_same hb _, by simp [h0]⟩, kp_setBlock hb _⟩
  simp [Builtin.delete_, run_underlying ht, MapKept.run_getObj_map hb, K.check w _ (WideMaps.keyOf_string_mk hk hs), h1, MapKept.run_setObj_map _ hb, Result.andThen, ChangeMaps.setBlock]
 | some v0 =>
  have hl : es.toList.length = 1 := by have := congrArg List.length he; simpa using this
  refine ⟨ChangeMaps.setBlock w b (.map (es.eraseIdxIfInBounds 0) c), ?_, ⟨_, _, ChangeMaps.heap_setBlock_same hb _, ?_⟩, kp_setBlock hb _⟩
  ·simp [Builtin.delete_, run_underlying ht, MapKept.run_getObj_map hb, K.check w _ (WideMaps.keyOf_string_mk hk hs), h1, MapKept.run_setObj_map _ hb, Result.andThen, ChangeMaps.setBlock]
  ·have e1 : (es.eraseIdxIfInBounds 0).toList = es.toList.eraseIdx 0 := by
    unfold Array.eraseIdxIfInBounds
    rw [dif_pos (by rw [← Array.length_toList, hl]; decide)]
    simp
   rw [e1]
   rcases h9 : es.toList with _ | ⟨e0, _ | ⟨e1, r⟩⟩ <;> rw [h9] at hl <;> simp_all
theorem MapIs.len (h : MapIs w b key o) (ht : P.underlying t = some (.map k e)) (ty : TypeId) : (Builtin.len_ #[t] ty #[.map (some b)]).run P w = .ok (.int .i64 o.toList.length) w := by
 obtain ⟨es, c, hb, he⟩ := h
 have hl : es.size = o.toList.length := by have := congrArg List.length he; simpa using this
 simp [Builtin.len_, run_underlying ht, MapKept.run_getObj_map hb, Result.andThen, hl, goInt]
variable {ops : Array Oper} {rest : List Oper} {op : Oper} {a : Act} {Q : Exit → Act → World → Prop}
end
end Go.Proofs.YtchfhojighopkaaGreatDoor
namespace Go.Proofs.YtchfhojighopkaaGreatDoor
open Go.RowKit

/-- A slice of rows of 'n' cells each: the address is asked for only where there is a row. -/
def HoldsR (w : World) (a : Option Addr) (n : Nat) (xs : List (List Value)) : Prop :=
 xs = [] ∨ ∃ b off, a = some ⟨b, off, none⟩ ∧ b < w.heap.size ∧ ∀ (k : Nat) (row : List Value), xs[k]? = some row → ∀ (j : Nat) (u : Value), row[j]? = some u → w.cell? ⟨b, off + k * n + j, none⟩ = some u

theorem HoldsR.none (w : World) (a : Option Addr) (n : Nat) : HoldsR w a n [] := .inl rfl

theorem HoldsR.at {w : World} {a : Option Addr} {n : Nat} {xs : List (List Value)} (h : HoldsR w a n xs) {k : Nat} {row : List Value} (hk : xs[k]? = some row) :
  ∃ b off, a = some ⟨b, off, Option.none⟩ ∧ b < w.heap.size ∧ ∀ (j : Nat) (u : Value), row[j]? = some u → w.cell? ⟨b, off + k * n + j, Option.none⟩ = some u := by
 rcases h with rfl | ⟨b, off, ha, hb, hc⟩
 ·simp at hk
 ·exact ⟨b, off, ha, hb, hc k row hk⟩

theorem HoldsR.keep {w w' : World} {a : Option Addr} {n : Nat} {xs : List (List Value)} {B : Nat} (h : HoldsR w a n xs) (hb : Below B w w') (hB : w.heap.size ≤ B) : HoldsR w' a n xs := by
 rcases h with rfl | ⟨b, off, ha, hlt, hc⟩
 ·exact .inl rfl
 ·refine .inr ⟨b, off, ha, Nat.lt_of_lt_of_le hlt hb.size, fun k row hk j u hu => ?_⟩
  rw [hb.cell (p := ⟨b, off + k * n + j, Option.none⟩) (Nat.lt_of_lt_of_le hlt hB)]
  exact hc k row hk j u hu

theorem HoldsR.under {w w' : World} {a : Option Addr} {n : Nat} {xs : List (List Value)} (h : HoldsR w a n xs) (hb : Below w.heap.size w w') : HoldsR w' a n xs := h.keep hb (Nat.le_refl _)

theorem HoldsR.take {w : World} {a : Option Addr} {n : Nat} {xs : List (List Value)} (h : HoldsR w a n xs) (i : Nat) : HoldsR w a n (xs.take i) := by
 rcases h with rfl | ⟨b, off, ha, hlt, hc⟩
 ·simp; exact .inl rfl
 ·refine .inr ⟨b, off, ha, hlt, fun k row hk j u hu => ?_⟩
  refine hc k row ?_ j u hu
  rw [List.getElem?_take] at hk
  split at hk
  ·exact hk
  ·cases hk

theorem flat_get (n : Nat) (hn : 0 < n) : ∀ (xs : List (List Value)), (∀ r ∈ xs, r.length = n) → ∀ j : Nat, xs.flatten[j]? = (xs[j / n]?).bind (·[j % n]?)
 | [], _, j => by simp
 | r :: xs, h, j => by
  have hr := h r (by simp)
  rw [List.flatten_cons]
  by_cases hj : j < n
  ·rw [List.getElem?_append_left (by omega), Nat.div_eq_of_lt hj, Nat.mod_eq_of_lt hj]
   simp
  ·rw [List.getElem?_append_right (by omega), hr, flat_get n hn xs (fun x hx => h x (by simp [hx])) (j - n)]
   have e1 : j / n = (j - n) / n + 1 := by rw [← Nat.add_div_right _ hn]; congr 1; omega
   have e2 : j % n = (j - n) % n := by rw [← Nat.add_mod_right (j - n) n]; congr 1; omega
   rw [e1, e2]
   simp

theorem flat_len (n : Nat) : ∀ (xs : List (List Value)), (∀ r ∈ xs, r.length = n) → xs.flatten.length = xs.length * n
 | [], _ => by simp
 | r :: xs, h => by
  rw [List.flatten_cons, List.length_append, h r (by simp), flat_len n xs (fun x hx => h x (by simp [hx])), List.length_cons, Nat.succ_mul]
  omega

/-- The rows' cells, one behind the other. -/
theorem HoldsR.flat {w : World} {ad : Addr} {n : Nat} {xs : List (List Value)} (hn : 0 < n) (hr : ∀ r ∈ xs, r.length = n) (h : HoldsR w (some ad) n xs) :
  ∀ (j : Nat) (u : Value), xs.flatten[j]? = some u → w.cell? (ad.add j) = some u := by
 intro j u hu
 rw [flat_get n hn xs hr j] at hu
 cases hk : xs[j / n]? with
 | none => rw [hk] at hu; simp at hu
 | some row =>
  rw [hk] at hu
  simp at hu
  obtain ⟨b, off, ha, _, hc⟩ := h.at hk
  injection ha with ha
  subst ha
  have := hc _ u hu
  have e : off + j / n * n + j % n = off + j := by
   have := Nat.div_add_mod j n
   rw [Nat.mul_comm] at this
   omega
  rw [e] at this
  have e2 : (⟨b, off, Option.none⟩ : Addr).add j = ⟨b, off + j, Option.none⟩ := by unfold Addr.add; split <;> simp_all
  rw [e2]
  exact this
end Go.Proofs.YtchfhojighopkaaGreatDoor
namespace Go.Proofs.YtchfhojighopkaaGreatDoor
open Go.RowKit

theorem decode_high (s : ByteArray) (i : Nat) (hi : i < s.size) (h : 128 ≤ (s[i]'hi).toNat) :
  128 ≤ (Utf8.decode s i).1 ∧ 1 ≤ (Utf8.decode s i).2 ∧ ∀ k, k < (Utf8.decode s i).2 → ∃ hk : i + k < s.size, 128 ≤ (s[i + k]'hk).toNat := by
 have hg : (s.get! (i + 0)).toNat = (s[i]'hi).toNat := by
  have : s.get! (i + 0) = s[i]'hi := by
   show s.data[i]! = s.data[i]
   exact getElem!_pos s.data i hi
  rw [this]
 have hone : ∀ k, k < 1 → ∃ hk : i + k < s.size, 128 ≤ (s[i + k]'hk).toNat := by
  intro k hk
  obtain rfl : k = 0 := by omega
  exact ⟨hi, h⟩
 have hcont : ∀ k, (decide (i + k < s.size) && (s.get! (i + k)).toNat / 64 == 2) = true → ∃ hk : i + k < s.size, 128 ≤ (s[i + k]'hk).toNat := by
  intro k hk
  simp only [Bool.and_eq_true, decide_eq_true_eq, beq_iff_eq] at hk
  obtain ⟨h1, h2⟩ := hk
  refine ⟨h1, ?_⟩
  have : s.get! (i + k) = s[i + k]'h1 := by
   show s.data[i + k]! = s.data[i + k]
   exact getElem!_pos s.data (i + k) h1
  rw [this] at h2
  omega
 unfold Utf8.decode
 simp only [hg]
 rw [if_neg (by omega)]
 have hE : (128 : Nat) ≤ Utf8.runeError := by decide
 by_cases c2 : ((s[i]'hi).toNat / 32 == 6 && (decide (i + 1 < s.size) && (s.get! (i + 1)).toNat / 64 == 2)) = true
 ·rw [if_pos c2]
  rw [Bool.and_eq_true] at c2
  split
  ·rename_i hc
   refine ⟨hc, by show 1 ≤ 2; omega, fun k hk => ?_⟩
   have hk' : k < 2 := hk
   rcases (by omega : k = 0 ∨ k = 1) with rfl | rfl
   ·exact ⟨hi, h⟩
   ·exact hcont 1 c2.2
  ·exact ⟨hE, Nat.le_refl _, hone⟩
 ·rw [if_neg c2]
  by_cases c3 : ((s[i]'hi).toNat / 16 == 14 && (decide (i + 1 < s.size) && (s.get! (i + 1)).toNat / 64 == 2) && (decide (i + 2 < s.size) && (s.get! (i + 2)).toNat / 64 == 2)) = true
  ·rw [if_pos c3]
   simp only [Bool.and_eq_true] at c3
   split
   ·rename_i hc
    simp only [Bool.and_eq_true, decide_eq_true_eq] at hc
    refine ⟨by omega, by show 1 ≤ 3; omega, fun k hk => ?_⟩
    have hk' : k < 3 := hk
    rcases (by omega : k = 0 ∨ k = 1 ∨ k = 2) with rfl | rfl | rfl
    ·exact ⟨hi, h⟩
    ·exact hcont 1 (by simp only [Bool.and_eq_true]; exact c3.1.2)
    ·exact hcont 2 (by simp only [Bool.and_eq_true]; exact c3.2)
   ·exact ⟨hE, Nat.le_refl _, hone⟩
  ·rw [if_neg c3]
   by_cases c4 : ((s[i]'hi).toNat / 8 == 30 && (decide (i + 1 < s.size) && (s.get! (i + 1)).toNat / 64 == 2) && (decide (i + 2 < s.size) && (s.get! (i + 2)).toNat / 64 == 2) && (decide (i + 3 < s.size) && (s.get! (i + 3)).toNat / 64 == 2)) = true
   ·rw [if_pos c4]
    simp only [Bool.and_eq_true] at c4
    split
    ·rename_i hc
     simp only [Bool.and_eq_true, decide_eq_true_eq] at hc
     refine ⟨by omega, by show 1 ≤ 4; omega, fun k hk => ?_⟩
     have hk' : k < 4 := hk
     rcases (by omega : k = 0 ∨ k = 1 ∨ k = 2 ∨ k = 3) with rfl | rfl | rfl | rfl
     ·exact ⟨hi, h⟩
     ·exact hcont 1 (by simp only [Bool.and_eq_true]; exact c4.1.1.2)
     ·exact hcont 2 (by simp only [Bool.and_eq_true]; exact c4.1.2)
     ·exact hcont 3 (by simp only [Bool.and_eq_true]; exact c4.2)
    ·exact ⟨hE, Nat.le_refl _, hone⟩
   ·rw [if_neg c4]
    exact ⟨hE, Nat.le_refl _, hone⟩

set_option maxHeartbeats 1000000 in
set_option maxRecDepth 100000 in
theorem indexRune_error (s : ByteArray) (w : World) (hs : ∀ b ∈ s.data.toList, b.toNat < 128) :
  Calls Tryz.prog 118 #[.string s, .int .i32 65533] w fun e w' => e = .returned (.int .i64 (-1)) ∧ Below w.heap.size w w' := by
 have HS := Lib.hid hs
 clear hs
 go_enter Tryz.func118, Tryz.ntmps118
 go_wp2
 go_loopg [5, 6] s.size (fun g _ _ wx => ∃ i : Nat, i + g = s.size ∧ wx = w.iter s i)
 case atStart => exact ⟨0, by omega, rfl⟩
 case round =>
  obtain ⟨i, hig, rfl⟩ := hrel
  cases gk with
  | zero =>
   obtain rfl : i = s.size := by omega
   have hnx := run_next_end (P := Tryz.prog) w s s.size
   go_wp2
   go_ret
   exact ⟨rfl, (Below.refl _ _).alloc (Nat.le_refl _) _⟩
  | succ g =>
   have hi : i < s.size := by omega
   obtain ⟨x, hx⟩ : ∃ x : UInt8, s[i]'hi = x := ⟨_, rfl⟩
   have hxl : s.data.toList[i]? = some x := by rw [← hx]; exact Lib.data_getElem? s i hi
   have hx128 : x.toNat < 128 := HS.out x (List.mem_of_getElem? hxl)
   have hnx := fun ty => run_next_ascii (P := Tryz.prog) w s i ty hi (by rw [hx]; exact hx128)
   rw [hx] at hnx
   clear hxl hx
   have hne : ((x.toNat : Int) == 65533) = false := beq_eq_false_iff_ne.2 (by omega)
   go_wp2
   go_roundg g
   case measure => omega
   case rel => exact ⟨i + 1, by omega, rfl⟩

set_option maxHeartbeats 1000000 in
set_option maxRecDepth 100000 in
theorem indexRune_bad (s : ByteArray) (r : Int) (w : World) (h0 : 128 ≤ r) (hne : r ≠ 65533) (hv : Lib.validRune r = false) :
  Calls Tryz.prog 118 #[.string s, .int .i32 r] w fun e w' => e = .returned (.int .i64 (-1)) ∧ Below w.heap.size w w' := by
 have hr : (r == 65533) = false := beq_eq_false_iff_ne.2 hne
 clear hne
 go_enter Tryz.func118, Tryz.ntmps118
 go_wp2_with (go_at_call 136; refine (Tryz.utf8_ValidRune _ _).mono ?_; rw [hv]; rintro e w' ⟨rfl, rfl⟩)
 go_ret
 exact ⟨rfl, Below.refl _ _⟩

set_option maxHeartbeats 1000000 in
set_option maxRecDepth 100000 in
theorem indexRune_good (s : ByteArray) (r : Int) (w : World) (h0 : 128 ≤ r) (hne : r ≠ 65533) (hv : Lib.validRune r = true) (hs : ∀ b ∈ s.data.toList, b.toNat < 128) (hsz : s.size < 4294967281) :
  Calls Tryz.prog 118 #[.string s, .int .i32 r] w fun e w' => e = .returned (.int .i64 (-1)) ∧ Below w.heap.size w w' := by
 have hr : (r == 65533) = false := beq_eq_false_iff_ne.2 hne
 have h128 : decide (r < 128) = false := decide_eq_false (by omega)
 have HS := Lib.hid hs
 obtain ⟨f1, f2, f3⟩ := encode_facts r (by rw [validRune_eq]; exact hv) h0
 clear hne hs
 go_enter Tryz.func118, Tryz.ntmps118
 go_wp2_with (go_at_call 136; refine (Tryz.utf8_ValidRune _ _).mono ?_; rw [hv]; rintro e w' ⟨rfl, rfl⟩)
 go_step3
 go_wp2_with fail
 generalize Utf8.encode r = rs at *
 obtain ⟨n, hn⟩ : ∃ n, n = rs.size - 1 := ⟨_, rfl⟩
 have e1 : ((rs.size : Int) - 1) = (n : Int) := by omega
 simp only [e1]
 have hnr : n < rs.size := by omega
 have hy : 128 ≤ (rs[n]'hnr).toNat := by
  have := f3 (by omega)
  simpa [hn] using this
 obtain ⟨y, hyy⟩ : ∃ y, rs[n]'hnr = y := ⟨_, rfl⟩
 rw [hyy] at hy
 clear f1 f2 f3 e1 hn
 refine wp_loop_rounds 1 ?_
 rw [rounds_succ]
 by_cases hlt : n < s.size
 ·obtain ⟨x, hxx⟩ : ∃ x, s[n]'hlt = x := ⟨_, rfl⟩
  have hx : x.toNat < 128 := HS.out x (by rw [← hxx]; exact Array.getElem_mem_toList (xs := s.data) hlt)
  have hne : (x != y) = true := by rw [bne_iff_ne]; rintro rfl; omega
  have hib : ∀ W, Calls Tryz.prog 97 #[.string (s.extract (n + 1) s.size), .int .u8 (y.toNat : Int)] W fun e w' => e = .returned (.int .i64 (-1)) ∧ w' = W := fun W => by
   refine (Tryz.strings_IndexByte _ _ _).mono ?_
   rintro e w' ⟨rfl, rfl⟩
   refine ⟨ret_int ?_, rfl⟩
   rw [indexByte_miss]
   intro b hb
   have := HS.out b (mem_extract hb)
   intro hh
   subst hh
   simp at this
   omega
  have HI := Lib.hid hib
  clear hib
  go_wp2_with fail
  go_step3
  go_wp2_with fail
  go_quiet (fail)
  go_wp2_with fail
  go_quiet ((go_at_call 97; exact quietAfter (HI.out _)))
  go_wp2_with fail
  rw [Exit.noGoto_ret]
  go_wp2_with fail
  rw [Exit.noGoto_ret]
  go_ret
  exact ⟨rfl, bDrewN (Below.refl _ _) _⟩
 ·go_wp2_with fail
  rw [Exit.noGoto_ret]
  go_ret
  exact ⟨rfl, Below.refl _ _⟩

/-- A rune beyond ASCII stands nowhere in an ASCII text. -/
theorem indexRune_high (s : ByteArray) (r : Int) (w : World) (h0 : 128 ≤ r) (hs : ∀ b ∈ s.data.toList, b.toNat < 128) (hsz : s.size < 4294967281) :
  Calls Tryz.prog 118 #[.string s, .int .i32 r] w fun e w' => e = .returned (.int .i64 (-1)) ∧ Below w.heap.size w w' := by
 by_cases hr : r = 65533
 ·subst hr; exact indexRune_error s w hs
 ·cases hv : Lib.validRune r
  ·exact indexRune_bad s r w h0 hr hv
  ·exact indexRune_good s r w h0 hr hv hs hsz

theorem noAny_high {s : ByteArray} {chars : List UInt8} {i n : Nat} (h : Lib.NoAny s.data.toList chars i) (hc : ∀ b ∈ chars, b.toNat < 128)
  (hh : ∀ k, k < n → ∃ hk : i + k < s.size, 128 ≤ (s[i + k]'hk).toNat) : Lib.NoAny s.data.toList chars (i + n) := by
 induction n with
 | zero => exact h
 | succ n ih =>
  have ih := ih (fun k hk => hh k (by omega))
  obtain ⟨hk, hx⟩ := hh n (by omega)
  refine ih.succ (x := s[i + n]'hk) (Lib.data_getElem? s _ hk) ?_
  cases hcc : chars.contains (s[i + n]'hk) with
  | false => rfl
  | true =>
   have := hc _ (List.contains_iff_mem.1 hcc)
   omega

set_option maxHeartbeats 1000000 in
set_option maxRecDepth 100000 in
theorem indexAny_short (s chars : ByteArray) (w : World) (h2 : 2 ≤ chars.size) (h8 : s.size ≤ 8) (hcz : chars.size < 4294967281) (hc : ∀ b ∈ chars.data.toList, b.toNat < 128) :
  Calls Tryz.prog 96 #[.string s, .string chars] w fun e w' => e = .returned (.int .i64 (Lib.indexAny s.data.toList chars.data.toList)) ∧ Below w.heap.size w w' := by
 have HC := Lib.hid hc
 clear hc
 have hemp : chars.toList.isEmpty = false := by
  rw [Lib.toList_data]
  cases h : chars.data.toList with
  | nil => have := Lib.size_eq chars; rw [h, List.length_nil] at this; omega
  | cons _ _ => rfl
 have hn1 : ((chars.size : Int) == 1) = false := beq_eq_false_iff_ne.2 (by omega)
 have h8z : decide ((8 : Int) < (s.size : Int)) = false := decide_eq_false (by omega)
 go_enter Tryz.func96, Tryz.ntmps96
 go_wp2_with (go_at_call 119; refine (Tryz.strings_shouldUseASCIISet _ _).mono ?_; rintro e w' ⟨rfl, hw⟩; rw [hw, h8z])
 go_loopg [9, 10] s.size (fun g _ _ wx => ∃ pos : Nat, wx.heap[w.heap.size]? = some (.stringIter s pos) ∧ Below w.heap.size w wx ∧ pos ≤ s.size ∧ s.size ≤ pos + g ∧ Hid (Lib.NoAny s.data.toList chars.data.toList pos))
 case atStart => exact ⟨0, World.iter_heap w s 0, (Below.refl _ w).alloc (Nat.le_refl _) _, by omega, by omega, Lib.hid (Lib.NoAny.zero _ _)⟩
 case round =>
  obtain ⟨pos, hit, hbw, hps, hpg, HN⟩ := hrel
  have hsz : w.heap.size < wr.heap.size := (Array.getElem?_eq_some_iff.1 hit).1
  by_cases hp : pos < s.size
  ·obtain ⟨g, rfl⟩ : ∃ g, gk = g + 1 := ⟨gk - 1, by omega⟩
   have hnx : ∀ ty, (Instr.next (.pointer (some ⟨w.heap.size, 0, none⟩)) true ty).run Tryz.prog wr = _ := fun ty => Lib.run_next_any_at wr w.heap.size s pos ty hit hp
   obtain ⟨x, hx⟩ : ∃ x : UInt8, s[pos]'hp = x := ⟨_, rfl⟩
   have hxl : s.data.toList[pos]? = some x := by rw [← hx]; exact Lib.data_getElem? s pos hp
   have Hx := Lib.hid hxl
   clear hxl
   by_cases h128 : x.toNat < 128
   ·rw [decode_ascii s pos hp (by rw [hx]; exact h128), hx] at hnx
    have hit2 := Lib.iterAt_heap wr w.heap.size s pos (pos + 1) hit
    have hbw2 := Lib.below_iterAt hbw (k := w.heap.size) (Nat.le_refl _) s (pos + 1)
    obtain ⟨W, hWd⟩ : ∃ W, wr.iterAt w.heap.size s (pos + 1) = W := ⟨_, rfl⟩
    simp only [hWd] at hnx hit2 hbw2
    have hcon := Lib.contains_iff_indexByte chars.data.toList x
    have hback : ((x.toNat : Int)).toNat.toUInt8 = x := by simp
    clear hx hWd
    cases hin : chars.data.toList.contains x
    ·rw [hin] at hcon
     have hlt : ¬ ((0 : Int) ≤ Lib.indexByte chars.data.toList x) := of_decide_eq_false hcon.symm
     clear hcon
     go_wp2_with (go_at_call 118; refine (Tryz.strings_IndexRune_ascii _ _ _ (by omega) (by omega)).mono ?_; rintro e w' ⟨rfl, hw⟩; rw [hw, hback])
     go_roundg g
     case measure => omega
     case rel => exact ⟨pos + 1, hit2, hbw2, by omega, by omega, Lib.hid (HN.out.succ Hx.out hin)⟩
    ·rw [hin] at hcon
     have hge : (0 : Int) ≤ Lib.indexByte chars.data.toList x := of_decide_eq_true hcon.symm
     clear hcon
     go_wp2_with (go_at_call 118; refine (Tryz.strings_IndexRune_ascii _ _ _ (by omega) (by omega)).mono ?_; rintro e w' ⟨rfl, hw⟩; rw [hw, hback])
     go_ret
     exact ⟨by rw [Lib.indexAny_hit HN.out Hx.out hin]; rfl, hbw2⟩
   ·obtain ⟨d1, d2, d3⟩ := decode_high s pos hp (by rw [hx]; omega)
    have hno := noAny_high HN.out HC.out d3
    have hle : pos + (Utf8.decode s pos).2 ≤ s.size := by
     obtain ⟨hk, _⟩ := d3 ((Utf8.decode s pos).2 - 1) (by omega)
     omega
    clear d3
    have HN2 := Lib.hid hno
    clear hno
    generalize (Utf8.decode s pos).1 = R at *
    generalize (Utf8.decode s pos).2 = K at *
    have hit2 := Lib.iterAt_heap wr w.heap.size s pos (pos + K) hit
    have hbw2 := Lib.below_iterAt hbw (k := w.heap.size) (Nat.le_refl _) s (pos + K)
    obtain ⟨W, hWd⟩ : ∃ W, wr.iterAt w.heap.size s (pos + K) = W := ⟨_, rfl⟩
    simp only [hWd] at hnx hit2 hbw2
    clear hx hWd
    have hWs : w.heap.size < W.heap.size := (Array.getElem?_eq_some_iff.1 hit2).1
    go_wp2_with (go_at_call 118; refine (indexRune_high chars (R : Int) _ (by omega) HC.out hcz).mono ?_; rintro e w' ⟨rfl, hb⟩)
    go_roundg g
    case measure => omega
    case rel => exact ⟨pos + K, (hb.block w.heap.size hWs).trans hit2, hbw2.trans (hb.mono (by omega)), by omega, by omega, HN2⟩
  ·have hnx : ∀ ty, (Instr.next (.pointer (some ⟨w.heap.size, 0, none⟩)) true ty).run Tryz.prog wr = _ := fun ty => Lib.run_next_end_at wr w.heap.size s pos ty hit hp
   obtain rfl : pos = s.size := by omega
   go_wp2
   go_ret
   exact ⟨by rw [Lib.indexAny_none (by rw [← Lib.size_eq]; exact HN.out)]; rfl, hbw⟩

theorem ascii_at {l : List UInt8} (h : ∀ b ∈ l, b.toNat < 128) (j : Nat) (b : UInt8) (hj : l[j]? = some b) : b.toNat < 128 := h b (List.mem_of_getElem? hj)

theorem zero256 : ∀ w, (zeroValue 201).run Tryz.prog w = .ok (.agg (Array.replicate 256 (.bool false))) w := fun w => by kernel_rfl

/-- strings.IndexAny at every text and an ASCII set of bytes. -/
theorem indexAny_any (s chars : ByteArray) (w : World) (hs : s.size < 4294967281) (hcs : chars.size < 4294967281) (hc : ∀ b ∈ chars.data.toList, b.toNat < 128) :
  Calls Tryz.prog 96 #[.string s, .string chars] w fun e w' => e = .returned (.int .i64 (Lib.indexAny s.data.toList chars.data.toList)) ∧ Below w.heap.size w w' := by
 by_cases h0 : chars.size = 0
 ·exact (Tryz.strings_IndexAny_none s chars w h0).mono fun e w' ⟨h1, h2⟩ => ⟨h1, h2 ▸ Below.refl _ _⟩
 by_cases h1 : chars.size = 1
 ·exact (Tryz.strings_IndexAny_one s chars w h1 (ascii_at hc)).mono fun e w' ⟨h1, h2⟩ => ⟨h1, h2 ▸ Below.refl _ _⟩
 by_cases h8 : s.size ≤ 8
 ·exact indexAny_short s chars w (by omega) h8 hcs hc
 ·refine (Tryz.strings_IndexAny_long zero256 s chars w (by omega) (by omega) hs hcs (ascii_at hc)).mono fun e w' ⟨h1, h2⟩ => ⟨h1, ?_⟩
  rw [h2]
  exact bAlloc (bAlloc (Below.refl _ _) _) _

set_option maxHeartbeats 1000000 in
/-- strings.ContainsAny at every text and an ASCII set of bytes. -/
theorem containsAny_any (s chars : ByteArray) (w : World) (hs : s.size < 4294967281) (hcs : chars.size < 4294967281) (hc : ∀ b ∈ chars.data.toList, b.toNat < 128) :
  Calls Tryz.prog 64 #[.string s, .string chars] w fun e w' => e = .returned (.bool (Lib.containsAny s.data.toList chars.data.toList)) ∧ Below w.heap.size w w' := by
 have HC := Lib.hid hc
 clear hc
 go_enter Tryz.func64, Tryz.ntmps64
 go_wp2_with (go_at_call 96; refine (indexAny_any s chars _ hs hcs HC.out).mono ?_; rintro e w' ⟨rfl, hw⟩)
 go_ret
 exact ⟨rfl, hw⟩
end Go.Proofs.YtchfhojighopkaaGreatDoor
namespace Go.Proofs.YtchfhojighopkaaGreatDoor
open Go.RowKit

set_option maxHeartbeats 1000000 in
theorem isName_any (s : ByteArray) (w : World) (hs : s.size ≤ 9223372036854775807) :
  Calls Tryz.prog 37 #[.string s] w fun e w' => e = .returned (.bool (Wh.isName s.data.toList)) ∧ Below w.heap.size w w' := by
 go_enter Tryz.func37, Tryz.ntmps37
 go_wp2_with (go_at_call 64; refine (containsAny_any s ⟨#[0, 47]⟩ _ (by omega) (by decide) (by decide)).mono ?_; rintro e w' ⟨rfl, hb⟩)
 all_goals go_ret
 all_goals refine ⟨ret_bool ?_, by first | exact Below.refl _ _ | assumption⟩
 all_goals simp only [Wh.isName, ← Lib.toList_data]
 all_goals simp_all [Lib.toList_data]
 ·rename_i h2 _ _
  have h3 : decide (s.size ≤ 255) = true := by simp; omega
  rw [h3]
  simp [bne]
 ·intro h3
  omega

/-- strings.Split at one byte. -/
theorem split_one (c : UInt8) (s : ByteArray) (w : World) (hE : Env w) (hs : s.size < 4294967281) :
  Calls Tryz.prog 36 #[.string s, .string ⟨#[c]⟩] w fun e w' =>
   e = .returned (.slice (some ⟨w.heap.size, 0, none⟩) (Wh.pieces c s).length (Wh.pieces c s).length) ∧ w' = w.alloc (.cells ((Wh.pieces c s).map Value.string).toArray 9) := by
 obtain ⟨m, hm⟩ := hE
 rw [Wh.pieces_length]
 exact Tryz.strings_Split s ⟨#[c]⟩ m w hs hm (Wh.one_le c)

theorem cell_of_new (w : World) (t : TypeId) (xs : List ByteArray) (k : Nat) (x : ByteArray) (hx : xs[k]? = some x) :
  (w.alloc (.cells (xs.map Value.string).toArray t)).cell? ⟨w.heap.size, k, none⟩ = some (.string x) := by
 rw [World.cell?_alloc_at _ _ _ _ rfl]
 simp [hx]

set_option maxHeartbeats 1000000 in
theorem check_any (s : ByteArray) (w : World) (hE : Env w) (hs : s.size ≤ 9223372036854775807) :
  Calls Tryz.prog 15 #[.string s] w fun e w' => e = .returned (.int .i64 (Wh.pathErr s.data.toList)) ∧ Below w.heap.size w w' := by
 have HE := Lib.hid hE
 clear hE
 cases h0 : s.toList.isEmpty
 case true =>
  go_enter Tryz.func15, Tryz.ntmps15
  go_wp2_with fail
  go_ret
  exact ⟨ret_int (by rw [Lib.toList_data] at h0; simp [Wh.pathErr, Wh.isPath, h0]), Below.refl _ _⟩
 by_cases h1 : (1024 : Int) < s.size
 ·go_enter Tryz.func15, Tryz.ntmps15
  go_wp2_with fail
  go_ret
  exact ⟨ret_int (by rw [Lib.toList_data] at h0; rw [Wh.pathErr_long h0 (by rw [← Lib.size_eq]; omega)]), Below.refl _ _⟩
 have h2 : ¬ (1024 < s.size) := by omega
 have hP := Lib.hid (Wh.pathErr_split (by rw [← Lib.toList_data]; exact h0) h2)
 have hpl := Wh.pieces_le 47 s
 have HZ := Lib.hid (fun x (hx : x ∈ Wh.pieces 47 s) => Wh.pieces_size hx)
 go_enter Tryz.func15, Tryz.ntmps15
 go_wp2_with (go_at_call 36; refine (split_one 47 s _ HE.out (by omega)).mono ?_; rintro e w' ⟨rfl, rfl⟩)
 generalize Wh.pieces 47 s = xs at *
 go_loopg [13] xs.length (fun g i wx => ∃ k : Nat, k + g = xs.length ∧ i = .int .i64 k ∧ Below (w.heap.size + 1) (w.alloc (.cells (xs.map Value.string).toArray 9)) wx ∧ Hid ((xs.take k).all (fun x => Wh.isName x.data.toList) = true))
 case atStart => exact ⟨0, by omega, rfl, Below.refl _ _, Lib.hid rfl⟩
 case round =>
  obtain ⟨k, hk, rfl, hb, HN⟩ := hrel
  by_cases hlt : k < xs.length
  ·obtain ⟨g, rfl⟩ : ∃ g, gk = g + 1 := ⟨gk - 1, by omega⟩
   obtain ⟨x, hx⟩ : ∃ x, xs[k]? = some x := ⟨_, List.getElem?_eq_getElem hlt⟩
   have hcell : wr.cell? ⟨w.heap.size, k, none⟩ = some (.string x) := by
    rw [hb.cell (p := ⟨w.heap.size, k, none⟩) (Nat.lt_succ_self _)]
    exact cell_of_new w _ xs k x hx
   have hxs := HZ.out x (List.mem_of_getElem? hx)
   have Hx := Lib.hid hx
   clear hx
   cases hn : Wh.isName x.data.toList
   ·go_wp2_with (go_at_call 37; refine (isName_any x _ (by omega)).mono ?_; rw [hn]; rintro e w' ⟨rfl, hb2⟩)
    go_ret
    refine ⟨ret_int ?_, ?_⟩
    ·rw [hP.out, if_neg]
     rw [Bool.not_eq_true, List.all_eq_false]
     exact ⟨x, List.mem_of_getElem? Hx.out, by simp [hn]⟩
    ·have hz := hb.size
     simp at hz
     exact ((bAlloc (Below.refl _ w) _).trans (hb.mono (by omega))).trans (hb2.mono (by omega))
   ·go_wp2_with (go_at_call 37; refine (isName_any x _ (by omega)).mono ?_; rw [hn]; rintro e w' ⟨rfl, hb2⟩)
    go_roundg g
    case measure => omega
    case rel =>
     have hz := hb.size
     simp at hz
     exact ⟨k + 1, by omega, by go_num, hb.trans (hb2.mono (by omega)), Lib.hid (by rw [List.take_add_one, Hx.out, List.all_append, HN.out]; simp [hn])⟩
  ·go_wp2_with fail
   go_ret
   have hz := hb.size
   simp at hz
   refine ⟨ret_int ?_, (bAlloc (Below.refl _ w) _).trans (hb.mono (by omega))⟩
   have := HN.out
   rw [List.take_of_length_le (by omega)] at this
   rw [hP.out, if_pos this]

end Go.Proofs.YtchfhojighopkaaGreatDoor
namespace Go.Proofs.YtchfhojighopkaaGreatDoor
open Go.RowKit

theorem holds_new (w : World) (t : TypeId) (xs : List ByteArray) : Holds (w.alloc (.cells (xs.map Value.string).toArray t)) (some ⟨w.heap.size, 0, none⟩) (xs.map Value.string) := by
 refine .inr ⟨w.heap.size, 0, rfl, by simp, fun j u hu => ?_⟩
 rw [List.getElem?_map] at hu
 cases hj : xs[j]? with
 | none => rw [hj] at hu; simp at hu
 | some x =>
  rw [hj] at hu
  simp at hu
  subst hu
  rw [Nat.zero_add]
  exact cell_of_new w t xs j x hj

end Go.Proofs.YtchfhojighopkaaGreatDoor
namespace Go.Proofs.YtchfhojighopkaaGreatDoor
open Go.RowKit

/-- A slice of texts comes back. -/
def StrsPost (xs : List ByteArray) (w : World) (e : Ending) (w' : World) : Prop :=
 ∃ a c, e = .returned (.slice a xs.length c) ∧ xs.length ≤ c ∧ Holds w' a (xs.map Value.string) ∧ Below w.heap.size w w'

set_option maxHeartbeats 1000000 in
theorem split_any (s : ByteArray) (w : World) (hE : Env w) (hs : s.size < 4294967281) :
  Calls Tryz.prog 99 #[.string s] w (StrsPost (Wh.namesOf s) w) := by
 have HE := Lib.hid hE
 clear hE
 cases h0 : s.toList.isEmpty
 ·have e1 : Wh.namesOf s = Wh.pieces 47 s := Wh.namesOf_some (by rw [← Lib.toList_data]; exact h0)
  rw [e1]
  clear e1
  go_enter Tryz.func99, Tryz.ntmps99
  go_wp2_with fail
  refine (split_one 47 s _ HE.out hs).mono ?_
  rintro e w' ⟨rfl, rfl⟩
  have hh := Lib.hid (holds_new w 9 (Wh.pieces 47 s))
  go_wp2_with fail
  go_ret
  exact ⟨_, _, rfl, Nat.le_refl _, hh.out, bAlloc (Below.refl _ _) _⟩
 ·have e1 : Wh.namesOf s = [] := Wh.namesOf_none (by rw [← Lib.toList_data]; exact h0)
  rw [e1]
  clear e1
  go_enter Tryz.func99, Tryz.ntmps99
  go_wp2_with fail
  go_ret
  exact ⟨none, 0, rfl, Nat.le_refl _, .inl rfl, Below.refl _ _⟩

/-- A slice of texts comes back, and no error. -/
def PartsPost (xs : List ByteArray) (w : World) (e : Ending) (w' : World) : Prop :=
 ∃ a c, e = .returned (.tuple #[.slice a xs.length c, .int .i64 0]) ∧ xs.length ≤ c ∧ Holds w' a (xs.map Value.string) ∧ Below w.heap.size w w'

set_option maxHeartbeats 1000000 in
theorem parts_good (s : ByteArray) (w : World) (hE : Env w) (hs : s.size ≤ 1024) (hp : Wh.pathErr s.data.toList = 0) :
  Calls Tryz.prog 72 #[.string s] w (PartsPost (Wh.namesOf s) w) := by
 have HC := check_any s w hE (by omega)
 rw [hp] at HC
 have HC := Lib.hid HC
 have HE := Lib.hid hE
 clear hE hp
 go_enter Tryz.func72, Tryz.ntmps72
 go_wp2_with fail
 refine HC.out.mono ?_
 rintro e w1 ⟨rfl, hb1⟩
 go_wp2_with fail
 refine (split_any s _ (HE.out.under hb1) (by omega)).mono ?_
 rintro e w2 ⟨a, c, rfl, hc, hH, hb2⟩
 have HH := Lib.hid hH
 clear hH
 go_wp2_with fail
 go_ret2
 exact ⟨_, _, rfl, hc, HH.out, bTrans hb1 hb2⟩

end Go.Proofs.YtchfhojighopkaaGreatDoor
