/-
  Parts of the proof: Ut1, Map2.
-/
import Derived.Test.YtchfhojighopkaaGreatDoorGuBH
import Derived.Test.YtchfhojighopkaaGreatDoorGuAC
namespace Go.Proofs.YtchfhojighopkaaGreatDoor
open Go.RowKit

theorem u64_nat (n : Int) : ∃ U : Nat, IntKind.u64.wrap n = (U : Int) ∧ U < 18446744073709551616 := by
 have h : 0 ≤ IntKind.u64.wrap n ∧ IntKind.u64.wrap n < 18446744073709551616 := by
  simp [IntKind.wrap, IntKind.bits, IntKind.signed]
  omega
 exact ⟨(IntKind.u64.wrap n).toNat, by omega, by omega⟩
theorem u64_same (q : Nat) (h : q < 18446744073709551616) : IntKind.u64.wrap (q : Int) = (q : Int) := by
 simp [IntKind.wrap, IntKind.bits, IntKind.signed]
 omega
theorem w64_same (k : Nat) (h : k < 1000) : wrap64 (k : Int) = (k : Int) := by
 simp [wrap64]
 omega
theorem rep_any (s : ByteArray) (k : Nat) (w : World) (hs : 0 < s.size ∧ s.size ≤ 10) (hk : k ≤ 100) :
  Calls Tryz.prog 24 #[.string s, .int .i64 k] w fun e w' => ∃ r : ByteArray, e = .returned (.string r) ∧ r.size = k * s.size ∧ Below w.heap.size w w' := by
 match k with
 | 0 =>
  refine (Tryz.strings_Repeat_zero s w).mono ?_
  rintro e w' ⟨rfl, rfl⟩
  exact ⟨_, rfl, by rw [Nat.zero_mul]; rfl, Below.refl _ _⟩
 | 1 =>
  refine (Tryz.strings_Repeat_one s w).mono ?_
  rintro e w' ⟨rfl, rfl⟩
  exact ⟨_, rfl, by rw [Nat.one_mul], Below.refl _ _⟩
 | k + 2 =>
  refine (Tryz.strings_Repeat_main s (k + 2) w (by omega) (by omega) ?_ hs.1).mono ?_
  ·have : s.size * (k + 2) ≤ 10 * 102 := Nat.mul_le_mul hs.2 (by omega)
   omega
  ·rintro e w' ⟨rfl, hb⟩
   exact ⟨_, rfl, by rw [Lib.size_eq, Lib.repeatL_length, ← Lib.size_eq], hb⟩
set_option maxHeartbeats 4000000 in
set_option maxRecDepth 100000 in
theorem dataOf_any (n : Int) (w : World) (hT : EnvT w) (hn : -9223372036854775808 ≤ n ∧ n ≤ 9223372036854775807) :
  Calls Tryz.prog 7 #[.int .i64 n] w fun e w' => (∃ d : ByteArray, e = .returned (.string d) ∧ d.size ≤ 1000) ∧ Below w.heap.size w w' := by
 obtain ⟨U, hU, hU2⟩ := u64_nat n
 obtain ⟨k, hk⟩ : ∃ k, U / 4 % 70 = k := ⟨_, rfl⟩
 obtain ⟨j, hj0⟩ : ∃ j, U % 4 = j := ⟨_, rfl⟩
 have hk70 : k < 70 := by omega
 have hj : j < 4 := by omega
 have hkk : wrap64 ((IntKind.u64.wrap ((U : Int) / 4)).tmod 70) = (k : Int) := by
  have e1 : (U : Int) / 4 = ((U / 4 : Nat) : Int) := by omega
  rw [e1, u64_same (U / 4) (by omega)]
  have e2 : (((U / 4 : Nat) : Int)).tmod 70 = ((U / 4 % 70 : Nat) : Int) := rfl
  rw [e2, hk]
  exact w64_same k (by omega)
 have h4 : ((U : Int)).tmod 4 = (j : Int) := by
  have e2 : ((U : Int)).tmod 4 = ((U % 4 : Nat) : Int) := rfl
  rw [e2, hj0]
 have h4' : (U : Int) % 4 = (j : Int) := by omega
 have HR1 := Lib.hid (fun W => rep_any ⟨#[97, 98]⟩ k W (by decide) (by omega))
 have HR2 := Lib.hid (fun W => rep_any ⟨#[97, 32, 102, 111, 120, 32]⟩ k W (by decide) (by omega))
 rw [show (⟨#[97, 98]⟩ : ByteArray).size = 2 by decide] at HR1
 rw [show (⟨#[97, 32, 102, 111, 120, 32]⟩ : ByteArray).size = 6 by decide] at HR2
 have HI := Lib.hid (fun W (hb : Below w.heap.size w W) => itoa_any n W (hT.under hb) hn.1 hn.2)
 have HNs := Lib.hid (numS_size n hn.1 hn.2)
 clear hT hn hk hj0 hU2
 go_enter Tryz.func7, Tryz.ntmps7
 go_upto_region 2 with fail
 rw [hkk]
 clear hkk
 generalize (IntKind.u64.wrap ((U : Int) / 4)).tmod 70 = v1
 generalize IntKind.u64.wrap ((U : Int) / 4) = v2
 have hjz : (j : Int) < 4 := by omega
 have hS : Below w.heap.size w w.drew := ⟨rfl, rfl, rfl, Nat.le_refl _, fun _ _ => rfl⟩
 refine wp_region_seq (fun W => Below w.heap.size w W) [(0, true), (2, true), (4, true), (6, true), (9, true), (10, true), (11, true), (1, false), (3, false), (5, true), (7, false), (8, false), (12, true), (13, false), (14, true)] (by as_aux_lemma => kernel_rfl) (by as_aux_lemma => kernel_rfl) (by decide) (by as_aux_lemma => kernel_rfl) hS ?_
 intro OPS HO
 iterate 7
  refine seq_take (o := ⟨_, _, _, _, _, _⟩) (v := ?_) (by rw [HO.out]; rfl) (by rfl) ?_ ?_
  rotate_left 1
  ·first | ((intro W _; go_simp) <;> with_reducible rfl) | (intro W hW; skip; (go_simp <;> with_reducible rfl))
  try simp only [Act.put, List.setIfInBounds_toArray, List.set_cons_zero, List.set_cons_succ]
 refine seq_do (o := ⟨_, _, _, _, _, _⟩) (by rw [HO.out]; rfl) (by rfl) (fun K hK => ?_)
 go_wp2_with (go_at_call 24; refine (HR1.out _).mono ?_; rintro e w5 ⟨r1, rfl, hz1, hb5⟩; replace hS : Below w.heap.size w w5 := bTrans hS hb5; clear hb5)
 refine hK.out _ _ hS (fun _ => ?_)
 clear hK K
 try simp only [Act.put, List.setIfInBounds_toArray, List.set_cons_zero, List.set_cons_succ]
 refine seq_do (o := ⟨_, _, _, _, _, _⟩) (by rw [HO.out]; rfl) (by rfl) (fun K hK => ?_)
 go_wp2_with (go_at_call 24; refine (HR2.out _).mono ?_; rintro e w6 ⟨r2, rfl, hz2, hb6⟩; replace hS : Below w.heap.size w w6 := bTrans hS hb6; clear hb6)
 have hkr : k ≤ r2.size := by omega
 have hkz : (k : Int) ≤ (k : Int) * 6 := by omega
 have hkn : k ≤ k * 6 := by omega
 refine hK.out _ _ hS (fun _ => ?_)
 clear hK K
 try simp only [Act.put, List.setIfInBounds_toArray, List.set_cons_zero, List.set_cons_succ]
 refine seq_take (o := ⟨_, _, _, _, _, _⟩) (v := ?_) (by rw [HO.out]; rfl) (by rfl) ?_ ?_
 rotate_left 1
 ·first | ((intro W _; go_simp) <;> with_reducible rfl) | (intro W hW; skip; (go_simp <;> with_reducible rfl))
 try simp only [Act.put, List.setIfInBounds_toArray, List.set_cons_zero, List.set_cons_succ]
 refine seq_do (o := ⟨_, _, _, _, _, _⟩) (by rw [HO.out]; rfl) (by rfl) (fun K hK => ?_)
 go_wp2_with (go_at_call 25; refine (HI.out _ hS).mono ?_; rintro e w7 ⟨rfl, hb7⟩; replace hS : Below w.heap.size w w7 := bTrans hS hb7; clear hb7)
 refine hK.out _ _ hS (fun _ => ?_)
 clear hK K
 try simp only [Act.put, List.setIfInBounds_toArray, List.set_cons_zero, List.set_cons_succ]
 refine seq_do (o := ⟨_, _, _, _, _, _⟩) (by rw [HO.out]; rfl) (by rfl) (fun K hK => ?_)
 go_wp2_with fail
 have hb8 : Below w7.heap.size w7 (w7.alloc (.cells #[.string ⟨#[]⟩, .string r1, .string (r2.extract 0 k), .string (numS n)] 9)) := bAlloc (Below.refl _ _) _
 have hx8 : BoxIs (w7.alloc (.cells #[.string ⟨#[]⟩, .string r1, .string (r2.extract 0 k), .string (numS n)] 9)) w7.heap.size #[.string ⟨#[]⟩, .string r1, .string (r2.extract 0 k), .string (numS n)] 9 := heap_alloc_new _ _
 replace hS : Below w.heap.size w (w7.alloc (.cells #[.string ⟨#[]⟩, .string r1, .string (r2.extract 0 k), .string (numS n)] 9)) := bTrans hS hb8
 obtain ⟨d, hd, hdz⟩ : ∃ d : ByteArray, (#[.string ⟨#[]⟩, .string r1, .string (r2.extract 0 k), .string (numS n)] : Array Value)[j]? = some (.string d) ∧ d.size ≤ 1000 := by
  have hns := HNs.out
  have hex : (r2.extract 0 k).size ≤ 1000 := by rw [ByteArray.size_extract]; omega
  match j, hj with
  | 0, _ => exact ⟨_, rfl, by decide⟩
  | 1, _ => exact ⟨_, rfl, by omega⟩
  | 2, _ => exact ⟨_, rfl, hex⟩
  | 3, _ => exact ⟨_, rfl, by omega⟩
 have hcd := hx8.cell hd
 have HDz := Lib.hid hdz
 clear hb8 hx8 hd hdz
 refine hK.out _ _ hS (fun _ => ?_)
 clear hK K
 try simp only [Act.put, List.setIfInBounds_toArray, List.set_cons_zero, List.set_cons_succ]
 refine seq_take (o := ⟨_, _, _, _, _, _⟩) (v := ?_) (by rw [HO.out]; rfl) (by rfl) ?_ ?_
 rotate_left 1
 ·first | ((intro W _; go_simp) <;> with_reducible rfl) | (intro W hW; skip; (go_simp <;> with_reducible rfl))
 try simp only [Act.put, List.setIfInBounds_toArray, List.set_cons_zero, List.set_cons_succ]
 refine seq_do (o := ⟨_, _, _, _, _, _⟩) (by rw [HO.out]; rfl) (by rfl) (fun K hK => ?_)
 go_wp2_with fail
 refine hK.out _ _ hS (fun _ => ?_)
 clear hK K
 try simp only [Act.put, List.setIfInBounds_toArray, List.set_cons_zero, List.set_cons_succ]
 refine seq_take (o := ⟨_, _, _, _, _, _⟩) (v := ?_) (by rw [HO.out]; rfl) (by rfl) ?_ ?_
 rotate_left 1
 ·first | ((intro W _; go_simp) <;> with_reducible rfl) | (intro W hW; skip; (go_simp <;> with_reducible rfl))
 try simp only [Act.put, List.setIfInBounds_toArray, List.set_cons_zero, List.set_cons_succ]
 refine seq_done ?_
 go_wp2_with fail
 go_ret
 exact ⟨⟨d, rfl, HDz.out⟩, hS⟩
end Go.Proofs.YtchfhojighopkaaGreatDoor
namespace Go.Proofs.YtchfhojighopkaaGreatDoor
open Go.RowKit

/-- Block b is a map that holds v under the key, or nothing at all. -/
def MapOn (w : World) (b : Nat) (key : ByteArray) (o : Option Value) : Prop :=
 ∃ es clock, w.heap[b]? = some (.map es clock) ∧ es.toList.map (fun e => (e.key, e.val)) = o.toList.map (fun v => (Value.string key, v)) ∧ ∀ e ∈ es.toList, e.born < clock
theorem MapOn.new (w : World) (key : ByteArray) : MapOn (w.alloc (.map #[] 0)) w.heap.size key none := ⟨#[], 0, heap_alloc_new w _, rfl, fun e he => by simp at he⟩
theorem MapOn.lt {w : World} {b : Nat} {key : ByteArray} {o : Option Value} (h : MapOn w b key o) : b < w.heap.size := by
 obtain ⟨es, c, hb, _⟩ := h
 exact (Array.getElem?_eq_some_iff.1 hb).1
theorem MapOn.kp {F : Nat → Prop} {w w' : World} {b : Nat} {key : ByteArray} {o : Option Value} (h : MapOn w b key o) (ha : Kp F w w') (hne : ¬ F b) : MapOn w' b key o := by
 have hlt := h.lt
 obtain ⟨es, c, hb, he⟩ := h
 exact ⟨es, c, (ha.block b hlt hne).trans hb, he⟩
section
variable {P : Program} {k e t : TypeId} {w : World} {b : Nat} {key : ByteArray} {o : Option Value}
theorem found_on {es : Array MapEntry} (hk : P.underlying k = some .string) (hs : key.size ≤ maxLen) (he : es.toList.map (fun e => (e.key, e.val)) = o.toList.map (fun v => (Value.string key, v))) (w : World) :
  (Instr.findKey k (.string key) es.toList).run P w = .ok (o.map fun v => (0, v)) w := by
 have K : Maps.Keyed P k := Maps.string_keyed hk
 have hkey := WideMaps.keyOf_string_mk hk hs
 cases o with
 | none =>
  have h0 : es.toList = [] := by simpa using he
  rw [h0]
  rcases K.find w hkey [] (by simp) with ⟨h1, _⟩ | ⟨j, e, _, h2, _⟩
  ·exact h1
  ·simp at h2
 | some v =>
  obtain ⟨e0, h0, hk0, hv0⟩ : ∃ e0, es.toList = [e0] ∧ e0.key = .string key ∧ e0.val = v := by
   rcases hl : es.toList with _ | ⟨e0, _ | ⟨e1, r⟩⟩
   ·rw [hl] at he; simp at he
   ·rw [hl] at he
    simp at he
    exact ⟨e0, rfl, he.1, he.2⟩
   ·rw [hl] at he; simp at he
  rw [h0]
  rcases K.find w hkey [e0] (by intro x hx; simp at hx; subst hx; exact ⟨_, by rw [hk0]; exact hkey⟩) with ⟨_, h2⟩ | ⟨j, x, h1, h2, _⟩
  ·exact absurd hk0 (h2 e0 (by simp))
  ·cases j with
   | zero =>
    simp at h2
    subst h2
    rw [h1, ← hv0]
    rfl
   | succ j => simp at h2
theorem MapOn.look (h : MapOn w b key o) (hk : P.underlying k = some .string) (hs : key.size ≤ maxLen) (ht : P.underlying t = some (.map k e)) {z : Value} (hz : (zeroValue e).run P w = .ok z w) :
  (Instr.lookup t (.map (some b)) (.string key) false).run P w = .ok (o.getD z) w := by
 obtain ⟨es, c, hb, he, hbn⟩ := h
 have K : Maps.Keyed P k := Maps.string_keyed hk
 have h1 := found_on hk hs he w
 cases o with
 | none => simp [Instr.lookup, run_underlying ht, MapKept.run_getObj_map hb, K.check w _ (WideMaps.keyOf_string_mk hk hs), h1, hz, Result.andThen]
 | some v => simp [Instr.lookup, run_underlying ht, MapKept.run_getObj_map hb, K.check w _ (WideMaps.keyOf_string_mk hk hs), h1, Result.andThen]
theorem MapOn.store (h : MapOn w b key o) (hk : P.underlying k = some .string) (hs : key.size ≤ maxLen) (ht : P.underlying t = some (.map k e)) (v : Value) :
  ∃ w', (Instr.mapUpdate t (.map (some b)) (.string key) v).run P w = .ok () w' ∧ MapOn w' b key (some v) ∧ Kp (fun i => i = b) w w' := by
 obtain ⟨es, c, hb, he, hbn⟩ := h
 have K : Maps.Keyed P k := Maps.string_keyed hk
 have h1 := found_on hk hs he w
 cases o with
 | none =>
  have h0 : es.toList = [] := by simpa using he
  refine ⟨ChangeMaps.setBlock w b (.map (es.push ⟨.string key, v, c⟩) (c + 1)), ?_, ⟨_, _, ChangeMaps.heap_setBlock_same hb _, ?_, ?_⟩, kp_setBlock hb _⟩
  ·simp [Instr.mapUpdate, run_underlying ht, MapKept.run_getObj_map hb, K.check w _ (WideMaps.keyOf_string_mk hk hs), h1, MapKept.run_setObj_map _ hb, Result.andThen, ChangeMaps.setBlock]
  ·simp [h0]
  ·intro x hx
   rw [Array.toList_push, h0, List.nil_append, List.mem_singleton] at hx
   rw [hx]
   exact Nat.lt_succ_self c
 | some v0 =>
  obtain ⟨e0, h0, hk0, hv0⟩ : ∃ e0, es.toList = [e0] ∧ e0.key = .string key ∧ e0.val = v0 := by
   rcases hl : es.toList with _ | ⟨e0, _ | ⟨e1, r⟩⟩
   ·rw [hl] at he; simp at he
   ·rw [hl] at he
    simp at he
    exact ⟨e0, rfl, he.1, he.2⟩
   ·rw [hl] at he; simp at he
  have h00 : es[0]? = some e0 := by rw [← Array.getElem?_toList, h0]; rfl
  obtain ⟨es', hes⟩ : ∃ es' : Array MapEntry, es' = es.modify 0 (fun e => { e with key := .string key, val := v }) := ⟨_, rfl⟩
  refine ⟨ChangeMaps.setBlock w b (.map es' c), ?_, ⟨_, _, ChangeMaps.heap_setBlock_same hb _, ?_, ?_⟩, kp_setBlock hb _⟩
  ·rw [hes]
   simp [Instr.mapUpdate, run_underlying ht, MapKept.run_getObj_map hb, K.check w _ (WideMaps.keyOf_string_mk hk hs), h1, h00, hk0, K.stays w (WideMaps.keyOf_string_mk hk hs), MapKept.run_setObj_map _ hb, Result.andThen, ChangeMaps.setBlock]
  ·rw [hes, Array.toList_modify, h0]
   rfl
  ·intro x hx
   rw [hes, Array.toList_modify, h0] at hx
   have hx2 : x = { e0 with key := .string key, val := v } := List.mem_singleton.1 hx
   rw [hx2]
   exact hbn e0 (by rw [h0]; exact List.mem_singleton.2 rfl)
theorem MapOn.drop (h : MapOn w b key o) (hk : P.underlying k = some .string) (hs : key.size ≤ maxLen) (ht : P.underlying t = some (.map k e)) (ty : TypeId) :
  ∃ w', (Builtin.delete_ #[t, k] ty #[.map (some b), .string key]).run P w = .ok (.tuple #[]) w' ∧ MapOn w' b key none ∧ Kp (fun i => i = b) w w' := by
 obtain ⟨es, c, hb, he, hbn⟩ := h
 have K : Maps.Keyed P k := Maps.string_keyed hk
 have h1 := found_on hk hs he w
 cases o with
 | none =>
  have h0 : es.toList = [] := by simpa using he
  refine ⟨ChangeMaps.setBlock w b (.map es c), ?_, ⟨_, _, ChangeMaps.heap_setBlock_same hb _, by simp [h0], hbn⟩, kp_setBlock hb _⟩
  simp [Builtin.delete_, run_underlying ht, MapKept.run_getObj_map hb, K.check w _ (WideMaps.keyOf_string_mk hk hs), h1, MapKept.run_setObj_map _ hb, Result.andThen, ChangeMaps.setBlock]
 | some v0 =>
  have hl : es.toList.length = 1 := by have := congrArg List.length he; simpa using this
  refine ⟨ChangeMaps.setBlock w b (.map (es.eraseIdxIfInBounds 0) c), ?_, ⟨_, _, ChangeMaps.heap_setBlock_same hb _, ?_, ?_⟩, kp_setBlock hb _⟩
  ·simp [Builtin.delete_, run_underlying ht, MapKept.run_getObj_map hb, K.check w _ (WideMaps.keyOf_string_mk hk hs), h1, MapKept.run_setObj_map _ hb, Result.andThen, ChangeMaps.setBlock]
  ·have e1 : (es.eraseIdxIfInBounds 0).toList = es.toList.eraseIdx 0 := by
    unfold Array.eraseIdxIfInBounds
    rw [dif_pos (by rw [← Array.length_toList, hl]; decide)]
    simp
   rw [e1]
   rcases h9 : es.toList with _ | ⟨e0, _ | ⟨e1, r⟩⟩ <;> rw [h9] at hl <;> simp_all
  ·intro x hx
   have e1 : (es.eraseIdxIfInBounds 0).toList = es.toList.eraseIdx 0 := by
    unfold Array.eraseIdxIfInBounds
    rw [dif_pos (by rw [← Array.length_toList, hl]; decide)]
    simp
   rw [e1] at hx
   exact hbn x (List.mem_of_mem_eraseIdx hx)
theorem MapOn.len (h : MapOn w b key o) (ht : P.underlying t = some (.map k e)) (ty : TypeId) : (Builtin.len_ #[t] ty #[.map (some b)]).run P w = .ok (.int .i64 o.toList.length) w := by
 obtain ⟨es, c, hb, he, hbn⟩ := h
 have hl : es.size = o.toList.length := by have := congrArg List.length he; simpa using this
 simp [Builtin.len_, run_underlying ht, MapKept.run_getObj_map hb, Result.andThen, hl, goInt]
variable {ops : Array Oper} {rest : List Oper} {op : Oper} {a : Act} {Q : Exit → Act → World → Prop}
end
end Go.Proofs.YtchfhojighopkaaGreatDoor
