/-
  Parts of the proof: TmL.
-/
import Derived.Maps.RangeRun
import Derived.Deep.AppendLies
import Derived.Test.YtchfhojighopkaaGreatDoorGuAC
import Derived.Test.YtchfhojighopkaaGreatDoorGuAK
import Derived.Test.YtchfhojighopkaaGreatDoorGuAE
namespace Go.Proofs.YtchfhojighopkaaGreatDoor
open Go.RowKit

theorem BoxIs.putAt {w : World} {b : Nat} {vs : Array Value} {t : TypeId} (h : BoxIs w b vs t) (j : Nat) (x : Value) : BoxIs (w.setCell ⟨b, j, none⟩ x) b (vs.setIfInBounds j x) t := by
 unfold BoxIs at h ⊢
 simp [World.setCell, Array.getElem?_modify, h]
/-- Its blocks. -/
structure MB where
 b : Nat
 cb : Nat
 rb : Nat
 kb : Nat
 ca : Nat
 si : Nat
 vb : Nat
 mb : Nat
 nb : Nat
 ra : Option Addr
 cap : Nat
abbrev ptr (b : Nat) : Value := .pointer (some ⟨b, 0, none⟩)
abbrev memArr (f : Wh.Feat) (M : MB) (cnt made begun : Int) (ups : Value) : Array Value := #[.int .i64 f.has, .int .i64 f.sums, .int .i64 f.prec, .int .i64 f.maxName, .int .i64 f.maxPath, .int .i64 f.maxSize, .int .i64 f.page, .int .i64 f.partSize, .string f.forbid,
 ptr M.cb, ptr M.rb, .int .i64 cnt, .int .i64 made, .slice (some ⟨M.ca, 0, none⟩) 14 14, .slice (some ⟨M.si, 0, none⟩) 14 14, .slice none 0 0, .int .i64 begun, ups, .map (some M.vb), .map (some M.mb)]
abbrev nodeArr (name : ByteArray) (dir : Bool) (up : Option Addr) (kids : Option Nat) (data : ByteArray) (time : Int) (id : ByteArray) : Array Value := #[.string name, .bool dir, .pointer up, .map kids, .string data, .int .i64 time, .slice none 0 0, .string id]
/-- Fourteen numbers. -/
def Ints14 (w : World) (b : Nat) : Prop := ∃ arr : Array Value, BoxIs w b arr 3 ∧ arr.size = 14 ∧ ∀ i, i < 14 → ∃ z : Int, arr[i]? = some (.int .i64 z)
theorem Ints14.kp {F : Nat → Prop} {w w' : World} {b : Nat} (h : Ints14 w b) (hk : Kp F w w') (hF : ¬ F b) : Ints14 w' b := by
 obtain ⟨arr, h1, h2⟩ := h
 exact ⟨arr, h1.kp hk hF, h2⟩
theorem BoxIs.ne {w : World} {b c : Nat} {vs us : Array Value} {t u : TypeId} (h : BoxIs w b vs t) (k : BoxIs w c us u) (hn : t ≠ u) : b ≠ c := by
 rintro rfl
 have := h.symm.trans k
 simp only [Option.some.injEq, Obj.cells.injEq] at this
 exact hn this.2.1
/-- A bit of the features. -/
def hasB (f : Wh.Feat) (k : Int) : Bool := !(bits BinOp.and IntKind.i64 f.has k == 0)

theorem has_any (b : Nat) (f : Wh.Feat) (k : Int) (w : World) (hc : w.cell? ⟨b, 0, none⟩ = some (.int .i64 f.has)) :
  Calls Tryz.prog 22 #[ptr b, .int .i64 k] w fun e w' => e = .returned (.bool (hasB f k)) ∧ w' = w := by
 go_enter Tryz.func22, Tryz.ntmps22
 go_wp2_with fail
 go_ret
 exact ⟨ret_bool (by simp [hasB, bne]), rfl⟩

theorem nowM_any (b : Nat) (t : Int) (w : World) (hc : w.cell? ⟨b, 0, none⟩ = some (.int .i64 t)) :
  Calls Tryz.prog 81 #[ptr b] w fun e w' => e = .returned (.int .i64 t) ∧ w' = w := by
 go_enter Tryz.func81, Tryz.ntmps81
 go_wp2_with fail
 go_ret
 exact ⟨rfl, rfl⟩

theorem Ints14.set {w : World} {b : Nat} (h : Ints14 w b) (i : Nat) (z : Int) : Ints14 (w.setCell ⟨b, i, none⟩ (.int .i64 z)) b := by
 obtain ⟨arr, h1, h2, h3⟩ := h
 refine ⟨arr.setIfInBounds i (.int .i64 z), BoxIs.putAt h1 i _, by simp [h2], fun j hj => ?_⟩
 rw [Array.getElem?_setIfInBounds]
 by_cases e : i = j
 ·subst e
  rw [if_pos rfl, if_pos (by omega)]
  exact ⟨z, rfl⟩
 ·rw [if_neg e]
  exact h3 j hj
theorem Ints14.at {w : World} {b : Nat} (h : Ints14 w b) {i : Nat} (hi : i < 14) : (∃ z, w.cell? ⟨b, i, none⟩ = some (.int .i64 z)) ∧ w.frozen? ⟨b, i, none⟩ = false := by
 obtain ⟨arr, h1, h2, h3⟩ := h
 obtain ⟨z, hz⟩ := h3 i hi
 exact ⟨⟨z, h1.cell hz⟩, Lib.frozen_of_heap h1 i⟩
theorem zeroNode (w : World) : (zeroValue 105).run Tryz.prog w = .ok (.pointer none) w := by kernel_rfl
end Go.Proofs.YtchfhojighopkaaGreatDoor
namespace Go.Proofs.YtchfhojighopkaaGreatDoor
open Go.RowKit

/-- A function turned at one place. -/
def upd {α : Type} (g : ByteArray → Option α) (key : ByteArray) (o : Option α) (k : ByteArray) : Option α := if k = key then o else g k
theorem upd_same {α : Type} (g : ByteArray → Option α) (key : ByteArray) (o : Option α) : upd g key o key = o := by simp [upd]
theorem upd_other {α : Type} (g : ByteArray → Option α) {key k : ByteArray} (o : Option α) (h : k ≠ key) : upd g key o k = g k := by simp [upd, h]
/-- Block b is a map that holds g k under each key k. -/
def MapF (w : World) (b : Nat) (g : ByteArray → Option Value) : Prop :=
 ∃ (es : Array MapEntry) (clock : Nat), w.heap[b]? = some (.map es clock) ∧ (∀ x ∈ es.toList, ∃ k, x.key = .string k ∧ k.size ≤ maxLen ∧ g k = some x.val ∧ x.born < clock) ∧ ((es.toList.map (fun x => x.key)).Nodup ∧ (es.toList.map (fun x => x.born)).Nodup) ∧ ∀ k v, g k = some v → ∃ x ∈ es.toList, x.key = .string k
theorem MapF.new (w : World) : MapF (w.alloc (.map #[] 0)) w.heap.size (fun _ => none) := ⟨#[], 0, heap_alloc_new w _, fun x hx => by simp at hx, ⟨by simp, by simp⟩, fun k v h => by cases h⟩
theorem MapF.lt {w : World} {b : Nat} {g : ByteArray → Option Value} (h : MapF w b g) : b < w.heap.size := by
 obtain ⟨es, c, hb, _⟩ := h
 exact (Array.getElem?_eq_some_iff.1 hb).1
theorem MapF.kp {F : Nat → Prop} {w w' : World} {b : Nat} {g : ByteArray → Option Value} (h : MapF w b g) (ha : Kp F w w') (hne : ¬ F b) : MapF w' b g := by
 have hlt := h.lt
 obtain ⟨es, c, hb, he⟩ := h
 exact ⟨es, c, (ha.block b hlt hne).trans hb, he⟩
section
variable {P : Program} {k e t : TypeId} {w : World} {b : Nat} {key : ByteArray} {g : ByteArray → Option Value}
theorem MapF.found {es : Array MapEntry} {c : Nat} (hk : P.underlying k = some .string) (hs : key.size ≤ maxLen) (he : ∀ x ∈ es.toList, ∃ k, x.key = .string k ∧ k.size ≤ maxLen ∧ g k = some x.val ∧ x.born < c) (hr : ∀ k v, g k = some v → ∃ x ∈ es.toList, x.key = .string k) (w : World) :
  ((Instr.findKey k (.string key) es.toList).run P w = .ok none w ∧ g key = none ∧ ∀ x ∈ es.toList, x.key ≠ .string key) ∨ ∃ j x, (Instr.findKey k (.string key) es.toList).run P w = .ok (some (j, x.val)) w ∧ es.toList[j]? = some x ∧ x.key = .string key ∧ g key = some x.val := by
 have K : Maps.Keyed P k := Maps.string_keyed hk
 have hkey := WideMaps.keyOf_string_mk hk hs
 rcases K.find w hkey es.toList (fun x hx => by obtain ⟨q, h1, h2, _⟩ := he x hx; exact ⟨_, by rw [h1]; exact WideMaps.keyOf_string_mk hk h2⟩) with ⟨h1, h2⟩ | ⟨j, x, h1, h2, h3⟩
 ·refine .inl ⟨h1, ?_, h2⟩
  cases hg : g key with
  | none => rfl
  | some v =>
   obtain ⟨x, hx, hxk⟩ := hr key v hg
   exact absurd hxk (h2 x hx)
 ·obtain ⟨q, h4, _, h5, _⟩ := he x (List.mem_of_getElem? h2)
  rw [h3] at h4
  injection h4 with h4
  subst h4
  exact .inr ⟨j, x, h1, h2, h3, h5⟩
theorem MapF.look (h : MapF w b g) (hk : P.underlying k = some .string) (hs : key.size ≤ maxLen) (ht : P.underlying t = some (.map k e)) {z : Value} (hz : (zeroValue e).run P w = .ok z w) :
  (Instr.lookup t (.map (some b)) (.string key) false).run P w = .ok ((g key).getD z) w := by
 obtain ⟨es, c, hb, he, ⟨hd, hdb⟩, hr⟩ := h
 have K : Maps.Keyed P k := Maps.string_keyed hk
 rcases MapF.found hk hs he hr w with ⟨h1, h2, _⟩ | ⟨j, x, h1, _, _, h2⟩
 ·rw [h2]
  simp [Instr.lookup, run_underlying ht, MapKept.run_getObj_map hb, K.check w _ (WideMaps.keyOf_string_mk hk hs), h1, hz, Result.andThen]
 ·rw [h2]
  simp [Instr.lookup, run_underlying ht, MapKept.run_getObj_map hb, K.check w _ (WideMaps.keyOf_string_mk hk hs), h1, Result.andThen]
theorem look_nilMap (hk : P.underlying k = some .string) (hs : key.size ≤ maxLen) (ht : P.underlying t = some (.map k e)) {z : Value} (hz : (zeroValue e).run P w = .ok z w) :
  (Instr.lookup t (.map none) (.string key) false).run P w = .ok z w := by
 have K : Maps.Keyed P k := Maps.string_keyed hk
 have h0 : (Instr.findKey k (.string key) []).run P w = .ok none w := by
  rcases K.find w (WideMaps.keyOf_string_mk hk hs) [] (by simp) with ⟨h1, _⟩ | ⟨j, x, _, h2, _⟩
  ·exact h1
  ·simp at h2
 simp [Instr.lookup, run_underlying ht, K.check w _ (WideMaps.keyOf_string_mk hk hs), h0, hz, Result.andThen]
theorem keys_modify (l : List MapEntry) (j : Nat) (x : MapEntry) (v : Value) (hj : l[j]? = some x) (hx : x.key = .string key) :
  (l.modify j (fun e => { e with key := .string key, val := v })).map (fun x => x.key) = l.map (fun x => x.key) := by
 apply List.ext_getElem?
 intro i
 rw [List.getElem?_map, List.getElem?_map, List.getElem?_modify]
 by_cases hij : j = i
 ·subst hij
  rw [hj]
  simp [hx]
 ·cases l[i]? <;> simp [hij]
theorem borns_modify (l : List MapEntry) (j : Nat) (v : Value) :
  (l.modify j (fun e => { e with key := .string key, val := v })).map (fun x => x.born) = l.map (fun x => x.born) := by
 apply List.ext_getElem?
 intro i
 rw [List.getElem?_map, List.getElem?_map, List.getElem?_modify]
 by_cases hij : j = i
 ·subst hij
  cases l[j]? <;> simp
 ·cases l[i]? <;> simp [hij]
theorem MapF.store (h : MapF w b g) (hk : P.underlying k = some .string) (hs : key.size ≤ maxLen) (ht : P.underlying t = some (.map k e)) (v : Value) :
  ∃ w', (Instr.mapUpdate t (.map (some b)) (.string key) v).run P w = .ok () w' ∧ MapF w' b (upd g key (some v)) ∧ Kp (fun i => i = b) w w' := by
 obtain ⟨es, c, hb, he, ⟨hd, hdb⟩, hr⟩ := h
 have K : Maps.Keyed P k := Maps.string_keyed hk
 rcases MapF.found hk hs he hr w with ⟨h1, h2, h3⟩ | ⟨j, x, h1, hj, hx, h2⟩
 ·refine ⟨ChangeMaps.setBlock w b (.map (es.push ⟨.string key, v, c⟩) (c + 1)), ?_, ⟨_, _, ChangeMaps.heap_setBlock_same hb _, ?_, ?_, ?_⟩, kp_setBlock hb _⟩
  ·simp [Instr.mapUpdate, run_underlying ht, MapKept.run_getObj_map hb, K.check w _ (WideMaps.keyOf_string_mk hk hs), h1, MapKept.run_setObj_map _ hb, Result.andThen, ChangeMaps.setBlock]
  ·intro y hy
   rw [Array.toList_push, List.mem_append, List.mem_singleton] at hy
   rcases hy with hy | rfl
   ·obtain ⟨q, q1, q2, q3, q4⟩ := he y hy
    exact ⟨q, q1, q2, by rw [upd_other g _ (fun e => h3 y hy (by rw [q1, e]))]; exact q3, Nat.lt_succ_of_lt q4⟩
   ·exact ⟨key, rfl, hs, upd_same g key _, Nat.lt_succ_self c⟩
  ·rw [Array.toList_push, List.map_append, List.nodup_append, List.map_append, List.nodup_append]
   refine ⟨⟨hd, by simp, ?_⟩, ⟨hdb, by simp, ?_⟩⟩
   ·intro a ha b' hb' e
    obtain ⟨y, hy, rfl⟩ := List.mem_map.1 ha
    rw [List.map_cons, List.map_nil, List.mem_singleton] at hb'
    exact h3 y hy (e.trans hb')
   ·intro a ha b' hb' e
    obtain ⟨y, hy, rfl⟩ := List.mem_map.1 ha
    rw [List.map_cons, List.map_nil, List.mem_singleton] at hb'
    obtain ⟨_, _, _, _, q4⟩ := he y hy
    have h5 : y.born = c := e.trans hb'
    omega
  ·intro q u hq
   rw [Array.toList_push]
   by_cases e : q = key
   ·exact ⟨_, List.mem_append.2 (.inr (List.mem_singleton.2 rfl)), by rw [e]⟩
   ·rw [upd_other g _ e] at hq
    obtain ⟨y, hy, hyk⟩ := hr q u hq
    exact ⟨y, List.mem_append.2 (.inl hy), hyk⟩
 ·have h00 : es[j]? = some x := by rw [← Array.getElem?_toList]; exact hj
  obtain ⟨es', hes⟩ : ∃ es' : Array MapEntry, es' = es.modify j (fun e => { e with key := .string key, val := v }) := ⟨_, rfl⟩
  have hl : es'.toList = es.toList.modify j (fun e => { e with key := .string key, val := v }) := by rw [hes, Array.toList_modify]
  have hkeys := keys_modify (key := key) es.toList j x v hj hx
  rw [← hl] at hkeys
  have hborns := borns_modify (key := key) es.toList j v
  rw [← hl] at hborns
  refine ⟨ChangeMaps.setBlock w b (.map es' c), ?_, ⟨_, _, ChangeMaps.heap_setBlock_same hb _, ?_, ⟨by rw [hkeys]; exact hd, by rw [hborns]; exact hdb⟩, ?_⟩, kp_setBlock hb _⟩
  ·rw [hes]
   simp [Instr.mapUpdate, run_underlying ht, MapKept.run_getObj_map hb, K.check w _ (WideMaps.keyOf_string_mk hk hs), h1, h00, hx, K.stays w (WideMaps.keyOf_string_mk hk hs), MapKept.run_setObj_map _ hb, Result.andThen, ChangeMaps.setBlock]
  ·intro y hy
   obtain ⟨i, hi⟩ := List.getElem?_of_mem hy
   rw [hl, List.getElem?_modify] at hi
   by_cases hij : j = i
   ·subst hij
    rw [hj] at hi
    simp at hi
    subst hi
    obtain ⟨q, _, _, _, q4⟩ := he x (List.mem_of_getElem? hj)
    exact ⟨key, rfl, hs, upd_same g key _, q4⟩
   ·have hi' : es.toList[i]? = some y := by cases hq : es.toList[i]? <;> rw [hq] at hi <;> simp [hij] at hi <;> simp [hi]
    obtain ⟨q, q1, q2, q3, q4⟩ := he y (List.mem_of_getElem? hi')
    refine ⟨q, q1, q2, ?_, q4⟩
    rw [upd_other g _ (fun e => hij ?_)]
    ·exact q3
    ·have n1 : (es.toList.map (fun x => x.key))[j]? = some (.string key) := by rw [List.getElem?_map, hj]; simp [hx]
     have n2 : (es.toList.map (fun x => x.key))[i]? = some (.string key) := by rw [List.getElem?_map, hi']; simp [q1, e]
     exact (List.getElem?_inj (List.getElem?_eq_some_iff.1 n1).1 hd).1 (n1.trans n2.symm)
  ·intro q u hq
   have hm : (.string q : Value) ∈ es'.toList.map (fun x => x.key) := by
    rw [hkeys]
    by_cases e : q = key
    ·exact List.mem_map.2 ⟨x, List.mem_of_getElem? hj, by rw [hx, e]⟩
    ·rw [upd_other g _ e] at hq
     obtain ⟨y, hy, hyk⟩ := hr q u hq
     exact List.mem_map.2 ⟨y, hy, hyk⟩
   obtain ⟨y, hy, hyk⟩ := List.mem_map.1 hm
   exact ⟨y, hy, hyk⟩
theorem MapF.drop (h : MapF w b g) (hk : P.underlying k = some .string) (hs : key.size ≤ maxLen) (ht : P.underlying t = some (.map k e)) (ty : TypeId) :
  ∃ w', (Builtin.delete_ #[t, k] ty #[.map (some b), .string key]).run P w = .ok (.tuple #[]) w' ∧ MapF w' b (upd g key none) ∧ Kp (fun i => i = b) w w' := by
 obtain ⟨es, c, hb, he, ⟨hd, hdb⟩, hr⟩ := h
 have K : Maps.Keyed P k := Maps.string_keyed hk
 rcases MapF.found hk hs he hr w with ⟨h1, h2, h3⟩ | ⟨j, x, h1, hj, hx, h2⟩
 ·refine ⟨ChangeMaps.setBlock w b (.map es c), ?_, ⟨_, _, ChangeMaps.heap_setBlock_same hb _, ?_, ⟨hd, hdb⟩, ?_⟩, kp_setBlock hb _⟩
  ·simp [Builtin.delete_, run_underlying ht, MapKept.run_getObj_map hb, K.check w _ (WideMaps.keyOf_string_mk hk hs), h1, MapKept.run_setObj_map _ hb, Result.andThen, ChangeMaps.setBlock]
  ·intro y hy
   obtain ⟨q, q1, q2, q3, q4⟩ := he y hy
   exact ⟨q, q1, q2, by rw [upd_other g _ (fun e => h3 y hy (by rw [q1, e]))]; exact q3, q4⟩
  ·intro q u hq
   by_cases e : q = key
   ·rw [e, upd_same] at hq; cases hq
   ·rw [upd_other g _ e] at hq
    exact hr q u hq
 ·have hjl : j < es.size := by rw [← Array.length_toList]; exact (List.getElem?_eq_some_iff.1 hj).1
  have e1 : (es.eraseIdxIfInBounds j).toList = es.toList.eraseIdx j := by
   unfold Array.eraseIdxIfInBounds
   rw [dif_pos hjl]
   simp
  have hne : ∀ i y, i ≠ j → es.toList[i]? = some y → y.key ≠ .string key := fun i y hij hi e => by
   have n1 : (es.toList.map (fun x => x.key))[j]? = some (.string key) := by rw [List.getElem?_map, hj]; simp [hx]
   have n2 : (es.toList.map (fun x => x.key))[i]? = some (.string key) := by rw [List.getElem?_map, hi]; simp [e]
   exact hij ((List.getElem?_inj (List.getElem?_eq_some_iff.1 n2).1 hd).1 (n2.trans n1.symm))
  refine ⟨ChangeMaps.setBlock w b (.map (es.eraseIdxIfInBounds j) c), ?_, ⟨_, _, ChangeMaps.heap_setBlock_same hb _, ?_, ?_, ?_⟩, kp_setBlock hb _⟩
  ·simp [Builtin.delete_, run_underlying ht, MapKept.run_getObj_map hb, K.check w _ (WideMaps.keyOf_string_mk hk hs), h1, MapKept.run_setObj_map _ hb, Result.andThen, ChangeMaps.setBlock]
  ·intro y hy
   rw [e1] at hy
   obtain ⟨i, hij, hi⟩ := List.mem_eraseIdx_iff_getElem?.1 hy
   obtain ⟨q, q1, q2, q3, q4⟩ := he y (List.mem_of_getElem? hi)
   exact ⟨q, q1, q2, by rw [upd_other g _ (fun e => hne i y hij hi (by rw [q1, e]))]; exact q3, q4⟩
  ·rw [e1]
   exact ⟨hd.sublist ((List.eraseIdx_sublist _ _).map _), hdb.sublist ((List.eraseIdx_sublist _ _).map _)⟩
  ·intro q u hq
   by_cases e : q = key
   ·rw [e, upd_same] at hq; cases hq
   ·rw [upd_other g _ e] at hq
    obtain ⟨y, hy, hyk⟩ := hr q u hq
    obtain ⟨i, hi⟩ := List.getElem?_of_mem hy
    refine ⟨y, ?_, hyk⟩
    rw [e1]
    refine List.mem_eraseIdx_iff_getElem?.2 ⟨i, fun hij => e ?_, hi⟩
    rw [hij, hj] at hi
    injection hi with hi
    rw [← hi, hx] at hyk
    injection hyk with hyk
    exact hyk.symm
theorem MapF.len (h : MapF w b g) (ht : P.underlying t = some (.map k e)) (ty : TypeId) : ∃ n : Nat, (Builtin.len_ #[t] ty #[.map (some b)]).run P w = .ok (.int .i64 n) w ∧ (n = 0 ↔ ∀ q, g q = none) := by
 obtain ⟨es, c, hb, he, ⟨hd, hdb⟩, hr⟩ := h
 refine ⟨es.size, by simp [Builtin.len_, run_underlying ht, MapKept.run_getObj_map hb, Result.andThen, goInt], ?_⟩
 constructor
 ·intro h0 q
  cases hg : g q with
  | none => rfl
  | some v =>
   obtain ⟨x, hx, _⟩ := hr q v hg
   have := List.length_pos_of_mem hx
   rw [Array.length_toList] at this
   omega
 ·intro h0
  rcases hl : es.toList with _ | ⟨x, r⟩
  ·have := congrArg List.length hl
   simpa using this
  ·obtain ⟨q, _, _, q3, _⟩ := he x (by rw [hl]; exact List.mem_cons_self ..)
   rw [h0 q] at q3
   cases q3
variable {ops : Array Oper} {rest : List Oper} {op : Oper} {a : Act} {Q : Exit → Act → World → Prop}
theorem wp_mapUpdate_f {K : Act → World → Prop} (w : World) (h : MapF w b g) (m x v : Operand) (t : TypeId) (hop : op.op = Op.mapUpdate t m x v) (hk : P.underlying k = some .string) (hs : key.size ≤ maxLen) (ht : P.underlying t = some (.map k e))
  (hm : a.eval m = .map (some b)) (hx : a.eval x = .string key) (val : Value) (hv : a.eval v = val)
  (hK : ∀ w', MapF w' b (upd g key (some val)) → Kp (fun i => i = b) w w' → K (a.put op.dst undef) w') : Oper.wp P op a w K Q := by
 obtain ⟨w', hrun, r1, r2⟩ := h.store (P := P) (t := t) hk hs ht val
 unfold Oper.wp
 simp [execOp, hop, hm, hx, hv, hrun, Result.andThen]
 exact hK w' r1 r2
theorem wp_delete_f {K : Act → World → Prop} (w : World) (h : MapF w b g) (m x : Operand) (t k : TypeId) (hop : op.op = Op.call { callee := Callee.builtin Builtin.delete, args := #[m, x], argTypes := #[t, k] }) (hk : P.underlying k = some .string) (hs : key.size ≤ maxLen) (ht : P.underlying t = some (.map k e))
  (hm : a.eval m = .map (some b)) (hx : a.eval x = .string key)
  (hK : ∀ w', MapF w' b (upd g key none) → Kp (fun i => i = b) w w' → K (a.put op.dst (.tuple #[])) w') : Oper.wp P op a w K Q := by
 obtain ⟨w', hrun, r1, r2⟩ := h.drop (P := P) (t := t) hk hs ht op.type
 unfold Oper.wp
 simp [execOp, hop, resolve, invoke, builtin, hm, hx, hrun, Result.andThen]
 exact hK w' r1 r2
end
end Go.Proofs.YtchfhojighopkaaGreatDoor
namespace Go.Proofs.YtchfhojighopkaaGreatDoor
open Go.RowKit

/-- Block r goes over the map b; left: what has not come yet. -/
def ItN (w : World) (b r : Nat) (left : List (ByteArray × Value)) : Prop :=
 ∃ (es : Array MapEntry) (clock since c0 : Nat) (sn : Array Nat), w.heap[b]? = some (.map es clock) ∧ (∀ x ∈ es.toList, x.born < since) ∧ since ≤ c0 ∧ since ≤ clock ∧ (es.toList.map (fun x => x.born)).Nodup ∧ w.heap[r]? = some (.mapIter (some b) since sn c0) ∧
  List.Perm ((leftOf es sn).toList.map (fun x => (x.key, x.val))) (left.map (fun kv => (Value.string kv.1, kv.2)))
section
variable {P : Program} {k e t : TypeId} {w w' : World} {b r : Nat} {g : ByteArray → Option Value} {left : List (ByteArray × Value)}
theorem ItN.ne (h : ItN w b r left) : r ≠ b := by
 obtain ⟨es, cl, since, c0, sn, hb, _, _, _, _, hr, _⟩ := h
 rintro rfl
 rw [hb] at hr
 cases hr
theorem ItN.kp {F : Nat → Prop} (h : ItN w b r left) (hk : Kp F w w') (h1 : ¬ F b) (h2 : ¬ F r) : ItN w' b r left := by
 obtain ⟨es, cl, since, c0, sn, hb, p1, p2, p3, p4, hr, p5⟩ := h
 exact ⟨es, cl, since, c0, sn, (hk.block b (Array.getElem?_eq_some_iff.1 hb).1 h1).trans hb, p1, p2, p3, p4, (hk.block r (Array.getElem?_eq_some_iff.1 hr).1 h2).trans hr, p5⟩
/-- What a map holds, as a list. -/
theorem MapF.list (h : MapF w b g) : ∃ (es : Array MapEntry) (clock : Nat) (l : List (ByteArray × Value)), w.heap[b]? = some (.map es clock) ∧ (∀ x ∈ es.toList, x.born < clock) ∧ (es.toList.map (fun x => x.born)).Nodup ∧ es.toList.map (fun x => (x.key, x.val)) = l.map (fun kv => (Value.string kv.1, kv.2)) ∧ (l.map (fun kv => kv.1)).Nodup ∧ ∀ q v, (q, v) ∈ l ↔ g q = some v := by
 obtain ⟨es, c, hb, he, ⟨hd, hdb⟩, hr⟩ := h
 obtain ⟨l, hl⟩ : ∃ l : List (ByteArray × Value), es.toList.map (fun x => (x.key, x.val)) = l.map (fun kv => (Value.string kv.1, kv.2)) := by
  clear hb hd hdb hr
  generalize es.toList = xs at he
  induction xs with
  | nil => exact ⟨[], rfl⟩
  | cons x xs ih =>
   obtain ⟨l, hl⟩ := ih (fun y hy => he y (List.mem_cons_of_mem _ hy))
   obtain ⟨q, hq, _⟩ := he x (List.mem_cons_self)
   exact ⟨(q, x.val) :: l, by rw [List.map_cons, List.map_cons, hl, hq]⟩
 have hk : es.toList.map (fun x => x.key) = (l.map (fun kv => kv.1)).map Value.string := by
  have := congrArg (List.map Prod.fst) hl
  simpa [List.map_map, Function.comp_def] using this
 refine ⟨es, c, l, hb, fun x hx => by obtain ⟨_, _, _, _, q⟩ := he x hx; exact q, hdb, hl, ?_, fun q v => ⟨fun hq => ?_, fun hq => ?_⟩⟩
 ·rw [hk] at hd
  exact (List.pairwise_map.1 hd).imp (fun h e => h (by rw [e]))
 ·have h1 : (Value.string q, v) ∈ l.map (fun kv => (Value.string kv.1, kv.2)) := List.mem_map.2 ⟨(q, v), hq, rfl⟩
  rw [← hl] at h1
  obtain ⟨x, hx, hxe⟩ := List.mem_map.1 h1
  obtain ⟨q', h2, _, h3, _⟩ := he x hx
  injection hxe with e1 e2
  rw [h2] at e1
  injection e1 with e1
  rw [← e1, h3, e2]
 ·obtain ⟨x, hx, hxk⟩ := hr q v hq
  obtain ⟨q', h2, _, h3, _⟩ := he x hx
  rw [hxk] at h2
  injection h2 with h2
  rw [← h2, hq] at h3
  injection h3 with h3
  have h1 : (Value.string q, v) ∈ es.toList.map (fun x => (x.key, x.val)) := List.mem_map.2 ⟨x, hx, by rw [hxk, h3]⟩
  rw [hl] at h1
  obtain ⟨⟨q2, v2⟩, h4, h5⟩ := List.mem_map.1 h1
  injection h5 with h6 h7
  injection h6 with h6
  simp only at h6 h7
  rw [← h6, ← h7]
  exact h4
theorem MapF.rangeN (h : MapF w b g) (ht : P.underlying t = some (.map k e)) :
  ∃ o l, (Instr.range t (.map (some b))).run P w = .ok (.pointer (some ⟨w.heap.size, 0, none⟩)) (w.alloc o) ∧ ItN (w.alloc o) b w.heap.size l ∧ (l.map (fun kv => kv.1)).Nodup ∧ ∀ q v, (q, v) ∈ l ↔ g q = some v := by
 have hlt := h.lt
 obtain ⟨es, c, l, hb, h1, h2, h3, h4, h5⟩ := h.list
 refine ⟨_, l, run_range_map w t k e b es c ht hb, ⟨es, c, c, c, #[], (heap_alloc_old w _ (h := hlt)).trans hb, h1, Nat.le_refl _, Nat.le_refl _, h2, heap_alloc_new w _, ?_⟩, h4, h5⟩
 rw [← h3]
 have h6 : (leftOf es #[]).toList = es.toList := by
  simp only [leftOf, Array.toList_filter]
  exact List.filter_eq_self.2 (fun y _ => by simp)
 rw [h6]
theorem left_push (es : Array MapEntry) (sn : Array Nat) (x : MapEntry) (hd : (es.toList.map (fun x => x.born)).Nodup) (hx : x ∈ (leftOf es sn).toList) :
  List.Perm (leftOf es sn).toList (x :: (leftOf es (sn.push x.born)).toList) := by
 have h1 : (leftOf es (sn.push x.born)).toList = (leftOf es sn).toList.filter (fun y => !(y.born == x.born)) := by
  simp only [leftOf, Array.toList_filter, List.filter_filter]
  congr 1
  funext y
  rw [Array.contains_push]
  by_cases h : y.born = x.born <;> simp [h, Bool.and_comm]
 have h2 : ((leftOf es sn).toList.map (fun x => x.born)).Nodup := by
  simp only [leftOf, Array.toList_filter]
  exact hd.sublist (List.filter_sublist.map _)
 rw [h1]
 generalize (leftOf es sn).toList = L at *
 obtain ⟨a, c, rfl⟩ := List.append_of_mem hx
 rw [List.map_append, List.map_cons, List.nodup_append, List.nodup_cons] at h2
 obtain ⟨_, ⟨h3, _⟩, h4⟩ := h2
 have ha : a.filter (fun y => !(y.born == x.born)) = a := List.filter_eq_self.2 (fun y hy => by
  have := h4 y.born (List.mem_map.2 ⟨y, hy, rfl⟩) x.born (List.mem_cons_self)
  simp [this])
 have hc : c.filter (fun y => !(y.born == x.born)) = c := List.filter_eq_self.2 (fun y hy => by
  have : y.born ≠ x.born := fun e => h3 (List.mem_map.2 ⟨y, hy, e⟩)
  simp [this])
 rw [List.filter_append, List.filter_cons, ha, hc]
 simp only [BEq.rfl, Bool.not_true, Bool.false_eq_true, if_false]
 exact List.perm_middle
theorem ItN.next (h : ItN w b r left) (ty : TypeId) :
  (left = [] ∧ (Instr.next (.pointer (some ⟨r, 0, none⟩)) false ty).run P w = .ok (.tuple #[.bool false]) w) ∨
  ∃ q v left' w', left.Perm ((q, v) :: left') ∧ (Instr.next (.pointer (some ⟨r, 0, none⟩)) false ty).run P w = .ok (.tuple #[.bool true, .string q, v]) w' ∧ ItN w' b r left' ∧ Kp (fun i => i = r) w w' ∧ (Instr.entry (.pointer (some ⟨r, 0, none⟩))).run P w' = .ok (.tuple #[.string q, v]) w' := by
 have hne := h.ne
 obtain ⟨es, cl, since, c0, sn, hb, p1, p2, p3, p4, hr, p5⟩ := h
 rcases run_next_at (P := P) w ty r b since c0 sn es cl hr hb p1 p2 with ⟨h0, h1⟩ | ⟨x, hx, w1, hw1, hrun⟩
 ·refine .inl ⟨?_, h1⟩
  have h2 : (leftOf es sn).toList = [] := by
   have : (leftOf es sn).toList.length = 0 := by simpa using h0
   exact List.eq_nil_of_length_eq_zero this
  rw [h2] at p5
  simpa using p5.symm.eq_nil
 ·have hp := left_push es sn x p4 hx
  have hxm : x ∈ es.toList := by
   simp only [leftOf, Array.toList_filter] at hx
   exact (List.mem_filter.1 hx).1
  have hm : (x.key, x.val) ∈ left.map (fun kv => (Value.string kv.1, kv.2)) := p5.mem_iff.1 (List.mem_map.2 ⟨x, hx, rfl⟩)
  obtain ⟨⟨q, v⟩, hq, hqe⟩ := List.mem_map.1 hm
  injection hqe with e1 e2
  simp only at e1 e2
  obtain ⟨a, c, rfl⟩ := List.append_of_mem hq
  have hr1 : w1.heap[r]? = some (.mapIter (some b) since sn c0) := by rcases hw1 with rfl | rfl <;> exact hr
  have hb1 : w1.heap[b]? = some (.map es cl) := by rcases hw1 with rfl | rfl <;> exact hb
  have s1 : (ChangeMaps.setBlock w1 r (.mapIter (some b) since (sn.push x.born) cl)).heap[r]? = some (.mapIter (some b) since (sn.push x.born) cl) := (MapKept.heap_set (o' := .mapIter (some b) since (sn.push x.born) cl) hr1).1
  have s2 : (ChangeMaps.setBlock w1 r (.mapIter (some b) since (sn.push x.born) cl)).heap[b]? = some (.map es cl) := ((MapKept.heap_set (o' := .mapIter (some b) since (sn.push x.born) cl) hr1).2 b (fun q => hne q.symm)).trans hb1
  refine .inr ⟨q, v, a ++ c, _, List.perm_middle, by rw [hrun, e1, e2], ⟨es, cl, since, cl, _, s2, p1, p3, p3, p4, s1, ?_⟩, ?_, by rw [run_entry_at _ r b since sn es cl x s1 s2 hxm p4, e1, e2]⟩
  ·have h6 := (hp.map (fun x => (x.key, x.val))).symm.trans (p5.trans (List.perm_middle.map (fun kv : ByteArray × Value => (Value.string kv.1, kv.2))))
   rw [List.map_cons, List.map_cons] at h6
   simp only [e1, e2] at h6
   exact h6.cons_inv
  ·refine ⟨?_, ?_, ?_, ?_, fun i _ hi => ?_⟩
   iterate 3
    ·rcases hw1 with rfl | rfl <;> rfl
   ·rcases hw1 with rfl | rfl <;> simp [ChangeMaps.setBlock]
   ·refine ((MapKept.heap_set (o' := .mapIter (some b) since (sn.push x.born) cl) hr1).2 i (fun q => hi q)).trans ?_
    rcases hw1 with rfl | rfl <;> rfl
theorem ItN.lt (h : ItN w b r left) : r < w.heap.size := by
 obtain ⟨es, cl, since, c0, sn, hb, p1, p2, p3, p4, hr, p5⟩ := h
 exact (Array.getElem?_eq_some_iff.1 hr).1
theorem ItN.next_false (h : ItN w b r []) (ty : TypeId) : (Instr.next (.pointer (some ⟨r, 0, none⟩)) false ty).run P w = .ok (.tuple #[.bool false]) w := by
 rcases h.next (P := P) ty with ⟨_, h1⟩ | ⟨q, v, l', w', h1, _⟩
 ·exact h1
 ·have := h1.length_eq
  simp at this
variable {ops : Array Oper} {rest : List Oper} {op : Oper} {a : Act} {Q : Exit → Act → World → Prop}
theorem wpList_rangeN (w : World) (h : MapF w b g) (hg : op.guard = none) (m : Operand) (t : TypeId) (hop : op.op = Op.range t m) (ht : P.underlying t = some (.map k e)) (hm : a.eval m = .map (some b))
  (hK : ∀ w' l, ItN w' b w.heap.size l → (l.map (fun kv => kv.1)).Nodup → (∀ q v, (q, v) ∈ l ↔ g q = some v) → Below w.heap.size w w' → wpList P ops Q rest (a.put op.dst (.pointer (some ⟨w.heap.size, 0, none⟩))) w') : wpList P ops Q (op :: rest) a w := by
 refine wpList_plain hg fun K' hK' => ?_
 obtain ⟨o, l, hrun, r1, r2, r3⟩ := h.rangeN (P := P) (t := t) ht
 unfold Oper.wp
 simp [execOp, hop, hm, hrun, Result.andThen]
 exact hK' _ _ (hK _ l r1 r2 r3 (bAlloc (Below.refl _ _) _))
theorem wpList_nextN (w : World) (h : ItN w b r left) (h0 : left ≠ []) (hg : op.guard = none) (it : Operand) (hop : op.op = Op.next it false) (hit : a.eval it = .pointer (some ⟨r, 0, none⟩))
  (hK : ∀ q v left' w', left.Perm ((q, v) :: left') → ItN w' b r left' → Kp (fun i => i = r) w w' → (Instr.entry (.pointer (some ⟨r, 0, none⟩))).run P w' = .ok (.tuple #[.string q, v]) w' → wpList P ops Q rest (a.put op.dst (.tuple #[.bool true, .string q, v])) w') : wpList P ops Q (op :: rest) a w := by
 refine wpList_plain hg fun K' hK' => ?_
 rcases h.next (P := P) op.type with ⟨e, _⟩ | ⟨q, v, left', w', r0, hrun, r1, r2, r3⟩
 ·exact absurd e h0
 ·unfold Oper.wp
  simp [execOp, hop, hit, hrun, Result.andThen]
  exact hK' _ _ (hK q v left' w' r0 r1 r2 r3)
end
end Go.Proofs.YtchfhojighopkaaGreatDoor
namespace Go.Proofs.YtchfhojighopkaaGreatDoor
open Go.RowKit

/-- A file or directory: its block, its map's block, what it holds. -/
structure Nd where
 b : Nat
 kb : Nat
 name : ByteArray
 dir : Bool
 data : ByteArray
 time : Int
 mt : Value
 id : ByteArray
/-- A tree: what lies under each list of keys. -/
abbrev Tr := List ByteArray → Option Nd
def adr (n : Nd) : Addr := ⟨n.b, 0, none⟩
abbrev ndArr (n : Nd) (up : Option Addr) : Array Value := #[.string n.name, .bool n.dir, .pointer up, .map (if n.dir then some n.kb else none), .string n.data, .int .i64 n.time, n.mt, .string n.id]
def Tr.up (F : Tr) (ks : List ByteArray) : Option Addr := if ks = [] then none else (F ks.dropLast).map adr
theorem Tr.up_snoc (F : Tr) (ks : List ByteArray) (k : ByteArray) : F.up (ks ++ [k]) = (F ks).map adr := by simp [Tr.up]
/-- The blocks of a tree. -/
def Tr.own (F : Tr) (i : Nat) : Prop := ∃ ks n, F ks = some n ∧ (i = n.b ∨ (n.dir = true ∧ i = n.kb))
/-- What a directory's map holds. -/
def Tr.kid (F : Tr) (ks : List ByteArray) (k : ByteArray) : Option Value := (F (ks ++ [k])).map fun c => ptr c.b
def Tr.put (F : Tr) (ks : List ByteArray) (n : Nd) : Tr := fun ls => if ls = ks then some n else F ls
theorem Tr.put_same (F : Tr) (ks : List ByteArray) (n : Nd) : F.put ks n ks = some n := by simp [Tr.put]
theorem Tr.put_other (F : Tr) {ks ls : List ByteArray} (n : Nd) (h : ls ≠ ks) : F.put ks n ls = F ls := by simp [Tr.put, h]

structure TreeAt (w : World) (B rb : Nat) (K : ByteArray → ByteArray) (F : Tr) : Prop where
 root : ∃ n, F [] = some n ∧ n.b = rb ∧ n.dir = true
 dirs : ∀ ks k n, F (ks ++ [k]) = some n → (∃ p, F ks = some p ∧ p.dir = true) ∧ K n.name = k ∧ k.size ≤ maxLen
 box : ∀ ks n, F ks = some n → BoxIs w n.b (ndArr n (F.up ks)) 108 ∧ B ≤ n.b
 kids : ∀ ks n, F ks = some n → n.dir = true → MapF w n.kb (F.kid ks) ∧ B ≤ n.kb
 inj : ∀ ks ls n m, F ks = some n → F ls = some m → (n.b = m.b ∨ (n.dir = true ∧ m.dir = true ∧ n.kb = m.kb)) → ks = ls

theorem BoxIs.ne_f {w : World} {b c : Nat} {vs : Array Value} {t : TypeId} {g : ByteArray → Option Value} (h : BoxIs w b vs t) (k : MapF w c g) : b ≠ c := by
 rintro rfl
 obtain ⟨es, cl, k, _⟩ := k
 have := h.symm.trans k
 simp at this
section
variable {w w' : World} {B rb : Nat} {K : ByteArray → ByteArray} {F : Tr}
theorem TreeAt.kp {G : Nat → Prop} (h : TreeAt w B rb K F) (hk : Kp G w w') (hG : ∀ i, F.own i → ¬ G i) : TreeAt w' B rb K F :=
 ⟨h.root, h.dirs, fun ks n hn => ⟨(h.box ks n hn).1.kp hk (hG _ ⟨ks, n, hn, .inl rfl⟩), (h.box ks n hn).2⟩, fun ks n hn hd => ⟨(h.kids ks n hn hd).1.kp hk (hG _ ⟨ks, n, hn, .inr ⟨hd, rfl⟩⟩), (h.kids ks n hn hd).2⟩, h.inj⟩
theorem TreeAt.under (h : TreeAt w B rb K F) (hb : Below w.heap.size w w') : TreeAt w' B rb K F := h.kp (Kp.of (F := fun _ => False) hb) (fun _ _ e => e)
theorem TreeAt.lt (h : TreeAt w B rb K F) {i : Nat} (hi : F.own i) : i < w.heap.size := by
 obtain ⟨ks, n, hn, rfl | ⟨hd, rfl⟩⟩ := hi
 ·exact (h.box ks n hn).1.lt
 ·exact (h.kids ks n hn hd).1.lt
theorem TreeAt.lo (h : TreeAt w B rb K F) {i : Nat} (hi : F.own i) : B ≤ i := by
 obtain ⟨ks, n, hn, rfl | ⟨hd, rfl⟩⟩ := hi
 ·exact (h.box ks n hn).2
 ·exact (h.kids ks n hn hd).2
/-- What lies below nothing is nothing. -/
theorem TreeAt.none_below (h : TreeAt w B rb K F) {ks : List ByteArray} (hn : F ks = none) (ls : List ByteArray) : F (ks ++ ls) = none := by
 obtain ⟨n, hl⟩ : ∃ n, ls.length = n := ⟨_, rfl⟩
 induction n generalizing ls with
 | zero => rw [List.length_eq_zero_iff.1 hl, List.append_nil]; exact hn
 | succ n ih =>
  rcases List.eq_nil_or_concat ls with rfl | ⟨l, k, rfl⟩
  ·cases hl
  ·rw [List.concat_eq_append] at hl ⊢
   cases hc : F (ks ++ (l ++ [k])) with
   | none => rfl
   | some m =>
    rw [← List.append_assoc] at hc
    obtain ⟨⟨p, hp, _⟩, _⟩ := h.dirs _ _ _ hc
    rw [ih l (by simpa using hl)] at hp
    cases hp
theorem TreeAt.file_below (h : TreeAt w B rb K F) {ks : List ByteArray} {n : Nd} (hn : F ks = some n) (hd : n.dir = false) (k : ByteArray) : F (ks ++ [k]) = none := by
 cases hc : F (ks ++ [k]) with
 | none => rfl
 | some m =>
  obtain ⟨⟨p, hp, hpd⟩, _⟩ := h.dirs _ _ _ hc
  rw [hn] at hp
  injection hp with hp
  rw [hp, hpd] at hd
  cases hd
theorem TreeAt.add {G : Nat → Prop} (h : TreeAt w B rb K F) {ks : List ByteArray} {k : ByteArray} {p n : Nd} (hp : F ks = some p) (hd : p.dir = true) (hnew : F (ks ++ [k]) = none) (hK : K n.name = k) (hks : k.size ≤ maxLen)
  (hnb : ¬ F.own n.b) (hnk : ¬ F.own n.kb) (hB : B ≤ n.b ∧ B ≤ n.kb) (hbox : BoxIs w' n.b (ndArr n (some (adr p))) 108) (hkid : n.dir = true → MapF w' n.kb (fun _ => none))
  (hmap : MapF w' p.kb (upd (F.kid ks) k (some (ptr n.b)))) (hk : Kp G w w') (hG : ∀ i, G i → i = p.kb ∨ i = n.b ∨ i = n.kb ∨ ¬ F.own i) : TreeAt w' B rb K (F.put (ks ++ [k]) n) := by
 have hpm := (h.kids ks p hp hd).1
 have hold : ∀ ls m, ls ≠ ks ++ [k] → F.put (ks ++ [k]) n ls = some m → F ls = some m := fun ls m hl hm => by rwa [Tr.put_other F n hl] at hm
 have hnn : ∀ ls, F (ks ++ [k] ++ ls) = none := h.none_below hnew
 have hup : ∀ ls m, F ls = some m → (F.put (ks ++ [k]) n).up ls = F.up ls := fun ls m hm => by
  rcases List.eq_nil_or_concat ls with rfl | ⟨l, x, rfl⟩
  ·simp [Tr.up]
  ·rw [List.concat_eq_append] at hm ⊢
   rw [Tr.up_snoc, Tr.up_snoc, Tr.put_other F n]
   rintro rfl
   rw [hnn] at hm
   cases hm
 refine ⟨?_, ?_, ?_, ?_, ?_⟩
 ·obtain ⟨r, h1, h2⟩ := h.root
  exact ⟨r, by rw [Tr.put_other F n (by simp)]; exact h1, h2⟩
 ·intro ls x m hm
  by_cases hl : ls ++ [x] = ks ++ [k]
  ·rw [hl, Tr.put_same] at hm
   injection hm with hm
   subst hm
   obtain ⟨e1, e2⟩ := List.append_inj' hl rfl
   injection e2 with e2
   subst e1 e2
   exact ⟨⟨p, by rw [Tr.put_other F n (by simp)]; exact hp, hd⟩, hK, hks⟩
  ·obtain ⟨⟨q, h1, h2⟩, h3⟩ := h.dirs ls x m (hold _ _ hl hm)
   refine ⟨⟨q, ?_, h2⟩, h3⟩
   rw [Tr.put_other F n]
   ·exact h1
   ·rintro rfl
    rw [hnew] at h1
    cases h1
 ·intro ls m hm
  by_cases hl : ls = ks ++ [k]
  ·rw [hl, Tr.put_same] at hm
   injection hm with hm
   subst hm
   refine ⟨?_, hB.1⟩
   rw [hl, Tr.up_snoc, Tr.put_other F n (by simp), hp]
   exact hbox
  ·have hm' := hold _ _ hl hm
   obtain ⟨h1, h2⟩ := h.box ls m hm'
   rw [hup ls m hm']
   refine ⟨h1.kp hk (fun g => ?_), h2⟩
   rcases hG _ g with e | e | e | e
   ·exact h1.ne_f hpm e
   ·exact hnb ⟨ls, m, hm', .inl e.symm⟩
   ·exact hnk ⟨ls, m, hm', .inl e.symm⟩
   ·exact e ⟨ls, m, hm', .inl rfl⟩
 ·intro ls m hm hmd
  by_cases hl : ls = ks ++ [k]
  ·rw [hl, Tr.put_same] at hm
   injection hm with hm
   subst hm
   refine ⟨?_, hB.2⟩
   have : (F.put (ks ++ [k]) n).kid ls = fun _ => none := by
    funext x
    unfold Tr.kid
    rw [hl, Tr.put_other F n (by simp), hnn]
    rfl
   rw [this]
   exact hkid hmd
  ·have hm' := hold _ _ hl hm
   obtain ⟨h1, h2⟩ := h.kids ls m hm' hmd
   refine ⟨?_, h2⟩
   by_cases hlk : ls = ks
   ·subst hlk
    rw [hp] at hm'
    injection hm' with hm'
    subst hm'
    have : (F.put (ls ++ [k]) n).kid ls = upd (F.kid ls) k (some (ptr n.b)) := by
     funext x
     unfold Tr.kid upd
     by_cases hx : x = k
     ·rw [hx, Tr.put_same, if_pos rfl]; rfl
     ·rw [Tr.put_other F n (by simpa using hx), if_neg hx]
    rw [this]
    exact hmap
   ·have : (F.put (ks ++ [k]) n).kid ls = F.kid ls := by
     funext x
     unfold Tr.kid
     rw [Tr.put_other (ks := ks ++ [k]) (ls := ls ++ [x]) F n (fun e => hlk (List.append_inj' e rfl).1)]
    rw [this]
    refine h1.kp hk (fun g => ?_)
    rcases hG _ g with e | e | e | e
    ·exact hlk (h.inj ls ks m p hm' hp (.inr ⟨hmd, hd, e⟩))
    ·exact hnb ⟨ls, m, hm', .inr ⟨hmd, e.symm⟩⟩
    ·exact hnk ⟨ls, m, hm', .inr ⟨hmd, e.symm⟩⟩
    ·exact e ⟨ls, m, hm', .inr ⟨hmd, rfl⟩⟩
 ·intro ls ms m q hm hq he
  by_cases hl : ls = ks ++ [k]
  ·by_cases hl2 : ms = ks ++ [k]
   ·rw [hl, hl2]
   ·rw [hl, Tr.put_same] at hm
    injection hm with hm
    subst hm
    have hq' := hold _ _ hl2 hq
    rcases he with e | ⟨_, e2, e⟩
    ·exact absurd ⟨ms, q, hq', .inl e⟩ hnb
    ·exact absurd ⟨ms, q, hq', .inr ⟨e2, e⟩⟩ hnk
  ·have hm' := hold _ _ hl hm
   by_cases hl2 : ms = ks ++ [k]
   ·rw [hl2, Tr.put_same] at hq
    injection hq with hq
    subst hq
    rcases he with e | ⟨e2, _, e⟩
    ·exact absurd ⟨ls, m, hm', .inl e.symm⟩ hnb
    ·exact absurd ⟨ls, m, hm', .inr ⟨e2, e.symm⟩⟩ hnk
   ·exact h.inj ls ms m q hm' (hold _ _ hl2 hq) he
/-- A file or directory is given other contents. -/
theorem TreeAt.turn {G : Nat → Prop} (h : TreeAt w B rb K F) {ks : List ByteArray} {m n : Nd} (hm : F ks = some m) (hb : n.b = m.b) (hkb : n.kb = m.kb) (hd : n.dir = m.dir) (hn : n.name = m.name)
  (hbox : BoxIs w' n.b (ndArr n (F.up ks)) 108) (hk : Kp G w w') (hG : ∀ i, G i → i = m.b ∨ ¬ F.own i) : TreeAt w' B rb K (F.put ks n) := by
 have hold : ∀ ls q, F.put ks n ls = some q → ∃ q', F ls = some q' ∧ q.b = q'.b ∧ q.kb = q'.kb ∧ q.dir = q'.dir ∧ q.name = q'.name ∧ (ls ≠ ks → q = q') := fun ls q hq => by
  by_cases hl : ls = ks
  ·rw [hl, Tr.put_same] at hq
   injection hq with hq
   subst hq
   exact ⟨m, by rw [hl]; exact hm, hb, hkb, hd, hn, fun e => absurd hl e⟩
  ·rw [Tr.put_other F n hl] at hq
   exact ⟨q, hq, rfl, rfl, rfl, rfl, fun _ => rfl⟩
 have hup : ∀ ls, (F.put ks n).up ls = F.up ls := fun ls => by
  unfold Tr.up
  by_cases hl : ls = []
  ·rw [if_pos hl, if_pos hl]
  ·rw [if_neg hl, if_neg hl]
   by_cases hl2 : ls.dropLast = ks
   ·rw [hl2, Tr.put_same, hm]
    show some (adr n) = some (adr m)
    unfold adr
    rw [hb]
   ·rw [Tr.put_other F n hl2]
 have hkid : ∀ ls, (F.put ks n).kid ls = F.kid ls := fun ls => by
  funext x
  unfold Tr.kid
  by_cases hl2 : ls ++ [x] = ks
  ·rw [hl2, Tr.put_same, hm]
   show some (ptr n.b) = some (ptr m.b)
   rw [hb]
  ·rw [Tr.put_other F n hl2]
 refine ⟨?_, ?_, ?_, ?_, ?_⟩
 ·obtain ⟨r, h1, h2, h3⟩ := h.root
  by_cases hl : ([] : List ByteArray) = ks
  ·subst hl
   rw [hm] at h1
   injection h1 with h1
   subst h1
   exact ⟨n, Tr.put_same F _ n, hb.trans h2, hd.trans h3⟩
  ·exact ⟨r, by rw [Tr.put_other F n hl]; exact h1, h2, h3⟩
 ·intro ls x q hq
  obtain ⟨q', h1, h2, h3, h4, h5, _⟩ := hold _ _ hq
  obtain ⟨⟨p, p1, p2⟩, p3, p4⟩ := h.dirs ls x q' h1
  refine ⟨?_, h5 ▸ p3, p4⟩
  by_cases hl : ls = ks
  ·rw [hl, hm] at p1
   injection p1 with p1
   subst p1
   exact ⟨n, by rw [hl]; exact Tr.put_same F _ n, hd.trans p2⟩
  ·exact ⟨p, by rw [Tr.put_other F n hl]; exact p1, p2⟩
 ·intro ls q hq
  rw [hup]
  by_cases hl : ls = ks
  ·rw [hl, Tr.put_same] at hq
   injection hq with hq
   subst hq
   rw [hl]
   exact ⟨hbox, by rw [hb]; exact (h.box ks m hm).2⟩
  ·rw [Tr.put_other F n hl] at hq
   obtain ⟨h1, h2⟩ := h.box ls q hq
   exact ⟨h1.kp hk (fun g => (hG _ g).elim (fun e => hl (h.inj ls ks q m hq hm (.inl e))) (fun e => e ⟨ls, q, hq, .inl rfl⟩)), h2⟩
 ·intro ls q hq hqd
  obtain ⟨q', h1, h2, h3, h4, h5, _⟩ := hold _ _ hq
  rw [hkid, h3]
  obtain ⟨k1, k2⟩ := h.kids ls q' h1 (by rw [← h4]; exact hqd)
  exact ⟨k1.kp hk (fun g => (hG _ g).elim (fun e => (h.box ks m hm).1.ne_f k1 e.symm) (fun e => e ⟨ls, q', h1, .inr ⟨by rw [← h4]; exact hqd, rfl⟩⟩)), k2⟩
 ·intro ls ms q r hq hr he
  obtain ⟨q', h1, h2, h3, h4, _, _⟩ := hold _ _ hq
  obtain ⟨r', g1, g2, g3, g4, _, _⟩ := hold _ _ hr
  refine h.inj ls ms q' r' h1 g1 ?_
  rw [h2, g2, h3, g3, h4, g4] at he
  exact he
end
end Go.Proofs.YtchfhojighopkaaGreatDoor
namespace Go.Proofs.YtchfhojighopkaaGreatDoor
open Go.RowKit

/-- What the store holds. -/
structure TSt where
 f : Wh.Feat
 now : Int
 cnt : Int
 made : Int
 F : Tr
/-- What names have in common that are the same. -/
def kyOf (f : Wh.Feat) (n : ByteArray) : ByteArray := if hasB f 2 then n else ⟨(Wh.lower n.data.toList).toArray⟩
theorem lower_size (n : ByteArray) : (⟨(Wh.lower n.data.toList).toArray⟩ : ByteArray).size = n.size := by
 show ((Wh.lower n.data.toList).toArray).size = n.data.size
 simp [Wh.lower]
theorem kyOf_size (f : Wh.Feat) (n : ByteArray) : (kyOf f n).size = n.size := by
 unfold kyOf
 split
 ·rfl
 ·exact lower_size n
/-- The keys of a path. -/
def kysOf (f : Wh.Feat) (p : ByteArray) : List ByteArray := (Wh.namesOf p).map (kyOf f)
structure MemT (w : World) (B : Nat) (M : MB) (s : TSt) : Prop where
 box : BoxIs w M.b (memArr s.f M s.cnt s.made 0 (.slice none 0 0)) 113
 clk : BoxIs w M.cb #[.int .i64 s.now] 102
 ca : Ints14 w M.ca
 si : Ints14 w M.si
 ne1 : M.ca ≠ M.si
 tree : TreeAt w B M.rb (kyOf s.f) s.F
 lo : B ≤ M.b ∧ B ≤ M.ca ∧ B ≤ M.si
/-- The blocks that a call of the store may change. -/
def MTf (M : MB) (F : Tr) (i : Nat) : Prop := i = M.b ∨ i = M.ca ∨ i = M.si ∨ F.own i
section
variable {w w' : World} {B : Nat} {M : MB} {s : TSt}
theorem MemT.kp {G : Nat → Prop} (h : MemT w B M s) (hk : Kp G w w') (hG : ∀ i, MTf M s.F i ∨ i = M.cb → ¬ G i) : MemT w' B M s :=
 ⟨h.box.kp hk (hG _ (.inl (.inl rfl))), h.clk.kp hk (hG _ (.inr rfl)), h.ca.kp hk (hG _ (.inl (.inr (.inl rfl)))), h.si.kp hk (hG _ (.inl (.inr (.inr (.inl rfl))))), h.ne1, h.tree.kp hk (fun i hi => hG i (.inl (.inr (.inr (.inr hi))))), h.lo⟩
theorem MemT.below (h : MemT w B M s) (hb : Below w.heap.size w w') : MemT w' B M s := h.kp (Kp.of (F := fun _ => False) hb) (fun _ _ e => e)
theorem MemT.drew (h : MemT w B M s) : MemT w.drew B M s := h.kp ((Kp.refl (fun _ => False) w).drew 1) (fun _ _ e => e)
theorem MemT.lt (h : MemT w B M s) {i : Nat} (hi : MTf M s.F i ∨ i = M.cb) : i < w.heap.size := by
 rcases hi with (rfl | rfl | rfl | hi) | rfl
 ·exact h.box.lt
 ·obtain ⟨_, h1, _⟩ := h.ca; exact h1.lt
 ·obtain ⟨_, h1, _⟩ := h.si; exact h1.lt
 ·exact h.tree.lt hi
 ·exact h.clk.lt
theorem MemT.mf (h : MemT w B M s) {i : Nat} (hi : MTf M s.F i) : B ≤ i := by
 rcases hi with rfl | rfl | rfl | hi
 ·exact h.lo.1
 ·exact h.lo.2.1
 ·exact h.lo.2.2
 ·exact h.tree.lo hi
theorem MemT.own_ne {b : Nat} {vs : Array Value} {t : TypeId} (h : MemT w B M s) (hb : BoxIs w b vs t) (ht : t ≠ 108) : ¬ s.F.own b := by
 rintro ⟨ks, n, hn, e | ⟨hd, e⟩⟩
 ·exact hb.ne (h.tree.box ks n hn).1 ht e
 ·exact hb.ne_f (h.tree.kids ks n hn hd).1 e
theorem MemT.b_ne (h : MemT w B M s) : M.b ≠ M.ca ∧ M.b ≠ M.si ∧ M.b ≠ M.cb ∧ ¬ s.F.own M.b := by
 obtain ⟨a, ha, _⟩ := h.ca
 obtain ⟨i, hi, _⟩ := h.si
 exact ⟨h.box.ne ha (by decide), h.box.ne hi (by decide), h.box.ne h.clk (by decide), h.own_ne h.box (by decide)⟩
theorem MemT.ca_ne (h : MemT w B M s) : M.ca ≠ M.cb ∧ ¬ s.F.own M.ca := by
 obtain ⟨a, ha, _⟩ := h.ca
 exact ⟨ha.ne h.clk (by decide), h.own_ne ha (by decide)⟩
theorem MemT.si_ne (h : MemT w B M s) : M.si ≠ M.cb ∧ ¬ s.F.own M.si := by
 obtain ⟨a, ha, _⟩ := h.si
 exact ⟨ha.ne h.clk (by decide), h.own_ne ha (by decide)⟩
theorem MemT.cb_ne (h : MemT w B M s) : ¬ s.F.own M.cb := h.own_ne h.clk (by decide)
theorem MemT.has (h : MemT w B M s) : w.cell? ⟨M.b, 0, none⟩ = some (.int .i64 s.f.has) := h.box.cell (j := 0) rfl
theorem MemT.prec (h : MemT w B M s) : w.cell? ⟨M.b, 2, none⟩ = some (.int .i64 s.f.prec) := h.box.cell (j := 2) rfl
theorem MemT.msize (h : MemT w B M s) : w.cell? ⟨M.b, 5, none⟩ = some (.int .i64 s.f.maxSize) := h.box.cell (j := 5) rfl
theorem MemT.clock (h : MemT w B M s) : w.cell? ⟨M.b, 9, none⟩ = some (ptr M.cb) := h.box.cell (j := 9) rfl
theorem MemT.rootp (h : MemT w B M s) : w.cell? ⟨M.b, 10, none⟩ = some (ptr M.rb) := h.box.cell (j := 10) rfl
theorem MemT.count (h : MemT w B M s) : w.cell? ⟨M.b, 11, none⟩ = some (.int .i64 s.cnt) := h.box.cell (j := 11) rfl
theorem MemT.madec (h : MemT w B M s) : w.cell? ⟨M.b, 12, none⟩ = some (.int .i64 s.made) := h.box.cell (j := 12) rfl
theorem MemT.calls (h : MemT w B M s) : w.cell? ⟨M.b, 13, none⟩ = some (.slice (some ⟨M.ca, 0, none⟩) 14 14) := h.box.cell (j := 13) rfl
theorem MemT.since (h : MemT w B M s) : w.cell? ⟨M.b, 14, none⟩ = some (.slice (some ⟨M.si, 0, none⟩) 14 14) := h.box.cell (j := 14) rfl
theorem MemT.faults (h : MemT w B M s) : w.cell? ⟨M.b, 15, none⟩ = some (.slice none 0 0) := h.box.cell (j := 15) rfl
theorem MemT.feats (h : MemT w B M s) : FeatBox w M.b s.f := ⟨h.box.lt, h.box.cell (j := 0) rfl, h.box.cell (j := 1) rfl, h.box.cell (j := 2) rfl, h.box.cell (j := 3) rfl, h.box.cell (j := 4) rfl, h.box.cell (j := 5) rfl, h.box.cell (j := 6) rfl, h.box.cell (j := 7) rfl, h.box.cell (j := 8) rfl⟩
end
theorem bDrew (w : World) : Below w.heap.size w w.drew := ⟨rfl, rfl, rfl, Nat.le_refl _, fun _ _ => rfl⟩
/-- A node's block tells its cells. -/
theorem nd_cells {w : World} {n : Nd} {up : Option Addr} (h : BoxIs w n.b (ndArr n up) 108) :
  w.cell? ⟨n.b, 0, none⟩ = some (.string n.name) ∧ w.cell? ⟨n.b, 1, none⟩ = some (.bool n.dir) ∧ w.cell? ⟨n.b, 2, none⟩ = some (.pointer up) ∧ w.cell? ⟨n.b, 3, none⟩ = some (.map (if n.dir then some n.kb else none)) :=
 ⟨h.cell (j := 0) rfl, h.cell (j := 1) rfl, h.cell (j := 2) rfl, h.cell (j := 3) rfl⟩
/-- A step from a node to what lies under a key. -/
theorem TreeAt.step {w : World} {B rb : Nat} {K : ByteArray → ByteArray} {F : Tr} (h : TreeAt w B rb K F) {ks : List ByteArray} {n : Nd} (hn : F ks = some n) {key : ByteArray} (hs : key.size ≤ maxLen) :
  (Instr.lookup 106 (.map (if n.dir then some n.kb else none)) (.string key) false).run Tryz.prog w = .ok (.pointer ((F (ks ++ [key])).map adr)) w := by
 cases hd : n.dir
 ·rw [h.file_below hn hd]
  exact look_nilMap Tryz.underlying9 hs Tryz.underlying106 (zeroNode w)
 ·have h1 := (h.kids ks n hn hd).1.look Tryz.underlying9 hs Tryz.underlying106 (zeroNode w)
  refine h1.trans ?_
  unfold Tr.kid
  cases F (ks ++ [key]) <;> rfl

theorem keyT_any (b : Nat) (f : Wh.Feat) (n : ByteArray) (w : World) (hn : n.size ≤ 9223372036854775807) (hc : w.cell? ⟨b, 0, none⟩ = some (.int .i64 f.has)) :
  Calls Tryz.prog 102 #[ptr b, .string n] w fun e w' => e = .returned (.string (kyOf f n)) ∧ Below w.heap.size w w' := by
 have HH := Lib.hid (has_any b f 2 w hc)
 have HF := Lib.hid (fold_any n w hn)
 obtain ⟨k, hk⟩ : ∃ k, kyOf f n = k := ⟨_, rfl⟩
 have HK := Lib.hid hk
 rw [hk]
 clear hc hk
 cases ht : hasB f 2
 ·rw [ht] at HH
  go_enter Tryz.func102, Tryz.ntmps102
  go_wp2_with (first | (go_at_call 22; refine HH.out.mono ?_; rintro e w' ⟨rfl, rfl⟩) | (go_at_call 124; refine HF.out.mono ?_; rintro e w1 ⟨rfl, hb1⟩))
  go_ret
  exact ⟨by rw [← HK.out]; unfold kyOf; rw [ht]; rfl, hb1⟩
 ·rw [ht] at HH
  go_enter Tryz.func102, Tryz.ntmps102
  go_wp2_with (go_at_call 22; refine HH.out.mono ?_; rintro e w' ⟨rfl, rfl⟩)
  go_ret
  exact ⟨by rw [← HK.out]; unfold kyOf; rw [ht]; rfl, Below.refl _ _⟩

/-- A slice of texts comes back, in a block of its own. -/
def StrsNew (xs : List ByteArray) (w : World) (e : Ending) (w' : World) : Prop :=
 ∃ a c, e = .returned (.slice a xs.length c) ∧ xs.length ≤ c ∧ Holds w' a (xs.map Value.string) ∧ Below w.heap.size w w' ∧ ∀ ad, a = some ad → w.heap.size ≤ ad.block
theorem Holds.kp {G : Nat → Prop} {w w' : World} {a : Option Addr} {xs : List Value} (h : Holds w a xs) (hk : Kp G w w') (hG : ∀ ad, a = some ad → ¬ G ad.block) : Holds w' a xs := by
 rcases h with h | ⟨b, off, rfl, hb, hc⟩
 ·exact .inl h
 ·exact .inr ⟨b, off, rfl, Nat.lt_of_lt_of_le hb hk.size, fun j u hj => cell_kp hk (hc j u hj) (hG ⟨b, off, Option.none⟩ rfl)⟩
theorem MapF.no_cell {w : World} {b : Nat} {g : ByteArray → Option Value} (h : MapF w b g) (off : Nat) (v : Value) : w.cell? ⟨b, off, none⟩ ≠ some v := by
 intro e
 obtain ⟨es, c, hb, _⟩ := h
 simp [World.cell?, hb] at e
set_option maxHeartbeats 1000000 in
theorem partsT_any (s : ByteArray) (w : World) (hE : Env w) (hs : s.size ≤ 1024) :
  Calls Tryz.prog 84 #[.string s] w (StrsNew (Wh.namesOf s) w) := by
 have HE := Lib.hid hE
 clear hE
 cases h0 : s.toList.isEmpty
 ·have e1 : Wh.namesOf s = Wh.pieces 47 s := Wh.namesOf_some (by rw [← Lib.toList_data]; exact h0)
  rw [e1]
  clear e1
  go_enter Tryz.func84, Tryz.ntmps84
  go_wp2_with fail
  refine (split_one 47 s _ HE.out (by omega)).mono ?_
  rintro e w' ⟨rfl, rfl⟩
  have hh := Lib.hid (holds_new w 9 (Wh.pieces 47 s))
  go_wp2_with fail
  go_ret
  exact ⟨_, _, rfl, Nat.le_refl _, hh.out, bAlloc (Below.refl _ _) _, fun ad h => by injection h with h; subst h; exact Nat.le_refl _⟩
 ·have e1 : Wh.namesOf s = [] := Wh.namesOf_none (by rw [← Lib.toList_data]; exact h0)
  rw [e1]
  clear e1
  go_enter Tryz.func84, Tryz.ntmps84
  go_wp2_with fail
  go_ret
  exact ⟨none, 0, rfl, Nat.le_refl _, .inl rfl, Below.refl _ _, fun ad h => by cases h⟩
end Go.Proofs.YtchfhojighopkaaGreatDoor
namespace Go.Proofs.YtchfhojighopkaaGreatDoor
open Go.RowKit

theorem names_size {s n : ByteArray} (hn : n ∈ Wh.namesOf s) : n.size ≤ s.size := by
 unfold Wh.namesOf at hn
 split at hn
 ·cases hn
 ·exact Wh.pieces_size hn
theorem keys_at (f : Wh.Feat) (s : ByteArray) {k : Nat} {n : ByteArray} (hn : (Wh.namesOf s)[k]? = some n) : (kysOf f s)[k]? = some (kyOf f n) := by
 unfold kysOf
 rw [List.getElem?_map, hn]
 rfl
theorem take_snoc {α : Type} {l : List α} {k : Nat} {x : α} (h : l[k]? = some x) : l.take (k + 1) = l.take k ++ [x] := by
 rw [List.take_add_one, h]
 rfl

set_option maxHeartbeats 2000000 in
set_option maxRecDepth 100000 in
theorem findT_any (w : World) (B : Nat) (M : MB) (s : TSt) (p : ByteArray) (hM : MemT w B M s) (hE : Env w) (hs : p.size ≤ 1024) :
  Calls Tryz.prog 76 #[ptr M.b, .string p] w fun e w' => e = .returned (.pointer ((s.F (kysOf s.f p)).map adr)) ∧ Below w.heap.size w w' := by
 have HM := Lib.hid hM
 have hnl := Wh.namesOf_le p
 have hps : p.size ≤ 1024 := hs
 have HP := Lib.hid (partsT_any p w hE hs)
 have HN := Lib.hid (fun n (hn : n ∈ Wh.namesOf p) => show n.size ≤ 1024 from Nat.le_trans (names_size hn) hs)
 have HK := Lib.hid (fun k n (hn : (Wh.namesOf p)[k]? = some n) => keys_at s.f p hn)
 have HL : Hid ((kysOf s.f p).length = (Wh.namesOf p).length) := Lib.hid (by simp [kysOf])
 have c10 := hM.rootp
 obtain ⟨rt, hr1, hr2, hr3⟩ := hM.tree.root
 have HR := Lib.hid (And.intro hr1 hr2)
 clear hM hE hs hr1 hr2 hr3
 generalize kysOf s.f p = ks at *
 go_enter Tryz.func76, Tryz.ntmps76
 go_wp2_with (go_at_call 84; refine HP.out.mono ?_; rintro e w1 ⟨a, c, rfl, hcap, hH, hb1, _⟩; have HH := Lib.hid hH; have HB1 := Lib.hid hb1; clear hH hb1)
 generalize Wh.namesOf p = ns at *
 go_loopg [5, 15] ns.length (fun g s5 s15 wx => ∃ (k : Nat) (nd : Nd), k + g = ns.length ∧ s15 = .int .i64 k ∧ s5 = ptr nd.b ∧ Hid (Below w1.heap.size w1 wx) ∧ Hid (s.F (ks.take k) = some nd))
 case atStart => exact ⟨0, rt, by omega, rfl, by rw [HR.out.2], Lib.hid (Below.refl _ _), Lib.hid (by simpa using HR.out.1)⟩
 case round =>
  obtain ⟨k, nd, hk, rfl, rfl, HBx, HF⟩ := hrel
  have HBy : Hid (Below w.heap.size w wr) := Lib.hid (bTrans HB1.out HBx.out)
  by_cases hlt : k < ns.length
  ·obtain ⟨g, rfl⟩ : ∃ g, gk = g + 1 := ⟨gk - 1, by omega⟩
   obtain ⟨n, hn⟩ : ∃ n, ns[k]? = some n := ⟨_, List.getElem?_eq_getElem hlt⟩
   obtain ⟨ba, off, ha, hba, hca⟩ := (HH.out.under HBx.out).at (k := k) (u := .string n) (by simp [hn])
   have hns := HN.out n (List.mem_of_getElem? hn)
   have hky := HK.out k n hn
   have hkl : (kyOf s.f n).size ≤ maxLen := by rw [kyOf_size]; unfold maxLen; omega
   have HMx : Hid (MemT wr B M s) := Lib.hid (HM.out.below HBy.out)
   have HKy : Hid (Calls Tryz.prog 102 #[ptr M.b, .string n] wr.drew fun e w' => e = .returned (.string (kyOf s.f n)) ∧ Below wr.drew.heap.size wr.drew w') := Lib.hid (keyT_any M.b s.f n wr.drew (by omega) HMx.out.has)
   generalize kyOf s.f n = key at *
   have HTk := Lib.hid (take_snoc hky)
   have HS : Hid (∀ W, Below wr.heap.size wr W → (Instr.lookup 106 (.map (if nd.dir then some nd.kb else none)) (.string key) false).run Tryz.prog W = .ok (.pointer ((s.F (ks.take (k + 1))).map adr)) W) := Lib.hid (fun W hb => by
    rw [HTk.out]
    exact (HMx.out.tree.under hb).step HF.out hkl)
   have HNo : Hid (s.F (ks.take (k + 1)) = none → s.F ks = none) := Lib.hid (fun h => by
    have := HMx.out.tree.none_below h (ks.drop (k + 1))
    rwa [List.take_append_drop] at this)
   obtain ⟨_, _, _, c3⟩ := nd_cells (HMx.out.tree.box _ _ HF.out).1
   generalize (if nd.dir then some nd.kb else none) = mk at *
   have Hn := Lib.hid hn
   subst ha
   clear hn hky hkl hns c10
   go_upto_region 5 with fail
   clear hca
   have c3d : wr.drew.cell? ⟨nd.b, 3, none⟩ = some (.map mk) := c3
   --R5
   refine wp_region_seq (fun W => W.cell? ⟨nd.b, 3, none⟩ = some (.map mk)) [(0, true), (1, true), (2, true), (3, true), (4, true), (5, true), (6, false), (7, false), (8, true)] (by as_aux_lemma => kernel_rfl) (by as_aux_lemma => kernel_rfl) (by decide) (by as_aux_lemma => kernel_rfl) c3d ?_
   intro OPS HO
   iterate 6
    refine seq_take (o := ⟨_, _, _, _, _, _⟩) (v := ?_) (by rw [HO.out]; rfl) (by rfl) ?_ ?_
    rotate_left 1
    ·first | ((intro W _; go_simp) <;> with_reducible rfl) | (intro W hW; skip; (go_simp <;> with_reducible rfl))
    try simp only [Act.put, List.setIfInBounds_toArray, List.set_cons_zero, List.set_cons_succ]
   refine seq_do (o := ⟨_, _, _, _, _, _⟩) (by rw [HO.out]; rfl) (by rfl) (fun K hK => ?_)
   go_wp2_with (go_at_call 102; refine HKy.out.mono ?_; rintro e w5 ⟨rfl, hb5⟩)
   have hS : w5.cell? ⟨nd.b, 3, none⟩ = some (.map mk) := cell_kp (Kp.of (F := fun _ => False) hb5) c3d (fun e => e)
   refine hK.out _ _ hS (fun _ => ?_)
   clear hK K
   try simp only [Act.put, List.setIfInBounds_toArray, List.set_cons_zero, List.set_cons_succ]
   refine seq_do (o := ⟨_, _, _, _, _, _⟩) (by rw [HO.out]; rfl) (by rfl) (fun K hK => ?_)
   have hlk := HS.out w5 (Below.undrew hb5)
   go_wp2_with fail
   refine hK.out _ _ hS (fun _ => ?_)
   clear hK K
   try simp only [Act.put, List.setIfInBounds_toArray, List.set_cons_zero, List.set_cons_succ]
   refine seq_take (o := ⟨_, _, _, _, _, _⟩) (v := ?_) (by rw [HO.out]; rfl) (by rfl) ?_ ?_
   rotate_left 1
   ·first | ((intro W _; go_simp) <;> with_reducible rfl) | (intro W hW; skip; (go_simp <;> with_reducible rfl))
   try simp only [Act.put, List.setIfInBounds_toArray, List.set_cons_zero, List.set_cons_succ]
   refine seq_done ?_
   --ENDR5
   have hb9 : Below wr.heap.size wr w5 := Below.undrew hb5
   have HB9 : Hid (Below w1.heap.size w1 w5) := Lib.hid (bTrans HBx.out hb9)
   clear hb5 hlk c3 c3d
   cases hcu : s.F (ks.take (k + 1)) with
   | none =>
    go_wp2_with fail
    go_ret
    exact ⟨by rw [HNo.out hcu]; rfl, bTrans HB1.out HB9.out⟩
   | some nd2 =>
    go_wp2_with fail
    go_roundg g
    case measure => omega
    case rel => exact ⟨k + 1, nd2, by omega, by go_num, rfl, HB9, Lib.hid hcu⟩
  ·have HE : Hid (s.F ks = some nd) := Lib.hid (by
    have h := HF.out
    rw [List.take_of_length_le (by rw [HL.out]; omega)] at h
    exact h)
   go_wp2_with fail
   go_ret
   exact ⟨by rw [HE.out]; rfl, HBy.out⟩

/-- Where the way to a path ends. -/
def WayIs (F : Tr) (ks : List ByteArray) (i : Nat) (n : Nd) : Prop := i + 1 ≤ ks.length ∧ F (ks.take i) = some n ∧ (i + 1 = ks.length ∨ F (ks.take (i + 1)) = none)
def WayPost (w : World) (F : Tr) (ks : List ByteArray) (e : Ending) (w' : World) : Prop := ∃ (i : Nat) (n : Nd), e = .returned (.tuple #[ptr n.b, .int .i64 i]) ∧ WayIs F ks i n ∧ Below w.heap.size w w'
set_option maxHeartbeats 2000000 in
set_option maxRecDepth 100000 in
theorem wayT_any (w : World) (B : Nat) (M : MB) (s : TSt) (p : ByteArray) (hM : MemT w B M s) (hE : Env w) (hs : p.size ≤ 1024) (h0 : p.toList.isEmpty = false) :
  Calls Tryz.prog 83 #[ptr M.b, .string p] w (WayPost w s.F (kysOf s.f p)) := by
 have HM := Lib.hid hM
 have hnl := Wh.namesOf_le p
 have hps : p.size ≤ 1024 := hs
 have HP := Lib.hid (partsT_any p w hE hs)
 have HN := Lib.hid (fun n (hn : n ∈ Wh.namesOf p) => show n.size ≤ 1024 from Nat.le_trans (names_size hn) hs)
 have HK := Lib.hid (fun k n (hn : (Wh.namesOf p)[k]? = some n) => keys_at s.f p hn)
 have HL : Hid ((kysOf s.f p).length = (Wh.namesOf p).length) := Lib.hid (by simp [kysOf])
 have hpos : 1 ≤ (Wh.namesOf p).length := by
  rw [Wh.namesOf_some (by rw [← Lib.toList_data]; exact h0), Wh.pieces_length]
  omega
 have c10 := hM.rootp
 obtain ⟨rt, hr1, hr2, hr3⟩ := hM.tree.root
 have HR := Lib.hid (And.intro hr1 hr2)
 clear hM hE hs hr1 hr2 hr3 h0
 generalize kysOf s.f p = ks at *
 obtain ⟨m, hm⟩ : ∃ m, (Wh.namesOf p).length = m + 1 := ⟨(Wh.namesOf p).length - 1, by omega⟩
 obtain ⟨N, hN⟩ : ∃ N, (Wh.namesOf p).length = N := ⟨_, rfl⟩
 have HNn := Lib.hid hN
 rw [hN] at hnl hm
 have hm9 : m ≤ 1024 := by omega
 have hN0 : (1 : Int) ≤ (N : Int) := by omega
 have HN1 : Hid (N - 1 = m ∧ (N : Int) - 1 = (m : Int)) := Lib.hid ⟨by omega, by omega⟩
 have HNm := Lib.hid hm
 unfold StrsNew at HP
 rw [hN] at HP
 clear hN hm hpos
 go_enter Tryz.func83, Tryz.ntmps83
 go_upto_region 3 with (go_at_call 84; refine HP.out.mono ?_; rintro e w1 ⟨a, c, rfl, hcap, hH, hb1, _⟩; have HH := Lib.hid hH; have HB1 := Lib.hid hb1; clear hH hb1)
 have hNm := HNm.out
 have hmc : m ≤ c := by omega
 have hmc2 : (m : Int) ≤ (c : Int) := by omega
 have hNc : (N : Int) - 1 ≤ (c : Int) := by omega
 clear hNm
 have hm0 : (0 : Int) ≤ (m : Int) := by omega
 generalize Wh.namesOf p = ns at *
 obtain ⟨ba, off, rfl, hba0, _⟩ := HH.out.at (k := 0) (u := .string (ns[0]'(by rw [HNn.out, HNm.out]; omega))) (by simp)
 go_wp2_with fail
 simp only [HN1.out.1, HN1.out.2]
 go_loopg [6, 23] m (fun g s6 s23 wx => ∃ (k : Nat) (nd : Nd), k + g = m ∧ s23 = .int .i64 k ∧ s6 = ptr nd.b ∧ Hid (Below w1.heap.size w1 wx) ∧ Hid (s.F (ks.take k) = some nd))
 case atStart => exact ⟨0, rt, by omega, rfl, by rw [HR.out.2], Lib.hid (Below.refl _ _), Lib.hid (by simpa using HR.out.1)⟩
 case round =>
  obtain ⟨k, nd, hk, rfl, rfl, HBx, HF⟩ := hrel
  have HBy : Hid (Below w.heap.size w wr) := Lib.hid (bTrans HB1.out HBx.out)
  by_cases hlt : k < m
  ·obtain ⟨g, rfl⟩ : ∃ g, gk = g + 1 := ⟨gk - 1, by omega⟩
   obtain ⟨n, hn⟩ : ∃ n, ns[k]? = some n := ⟨_, List.getElem?_eq_getElem (by rw [HNn.out, HNm.out]; omega)⟩
   obtain ⟨ba2, off2, ha, hba, hca⟩ := (HH.out.under HBx.out).at (k := k) (u := .string n) (by simp [hn])
   obtain ⟨rfl, rfl⟩ : ba = ba2 ∧ off = off2 := by injection ha with ha; injection ha with h1 h2; exact ⟨h1, h2⟩
   have hns := HN.out n (List.mem_of_getElem? hn)
   have hky := HK.out k n hn
   have hkl : (kyOf s.f n).size ≤ maxLen := by rw [kyOf_size]; unfold maxLen; omega
   have HMx : Hid (MemT wr B M s) := Lib.hid (HM.out.below HBy.out)
   have HKy : Hid (Calls Tryz.prog 102 #[ptr M.b, .string n] wr.drew fun e w' => e = .returned (.string (kyOf s.f n)) ∧ Below wr.drew.heap.size wr.drew w') := Lib.hid (keyT_any M.b s.f n wr.drew (by omega) HMx.out.has)
   generalize kyOf s.f n = key at *
   have HTk := Lib.hid (take_snoc hky)
   have HS : Hid (∀ W, Below wr.heap.size wr W → (Instr.lookup 106 (.map (if nd.dir then some nd.kb else none)) (.string key) false).run Tryz.prog W = .ok (.pointer ((s.F (ks.take (k + 1))).map adr)) W) := Lib.hid (fun W hb => by
    rw [HTk.out]
    exact (HMx.out.tree.under hb).step HF.out hkl)
   obtain ⟨_, _, _, c3⟩ := nd_cells (HMx.out.tree.box _ _ HF.out).1
   generalize (if nd.dir then some nd.kb else none) = mk at *
   have Hn := Lib.hid hn
   clear ha
   clear hn hky hkl hns c10
   go_upto_region 6 with fail
   clear hca
   have c3d : wr.drew.cell? ⟨nd.b, 3, none⟩ = some (.map mk) := c3
   --R6
   refine wp_region_seq (fun W => W.cell? ⟨nd.b, 3, none⟩ = some (.map mk)) [(0, true), (1, true), (2, true), (3, true), (4, true), (5, true), (6, false), (7, false), (8, true)] (by as_aux_lemma => kernel_rfl) (by as_aux_lemma => kernel_rfl) (by decide) (by as_aux_lemma => kernel_rfl) c3d ?_
   intro OPS HO
   iterate 6
    refine seq_take (o := ⟨_, _, _, _, _, _⟩) (v := ?_) (by rw [HO.out]; rfl) (by rfl) ?_ ?_
    rotate_left 1
    ·first | ((intro W _; go_simp) <;> with_reducible rfl) | (intro W hW; skip; (go_simp <;> with_reducible rfl))
    try simp only [Act.put, List.setIfInBounds_toArray, List.set_cons_zero, List.set_cons_succ]
   refine seq_do (o := ⟨_, _, _, _, _, _⟩) (by rw [HO.out]; rfl) (by rfl) (fun K hK => ?_)
   go_wp2_with (go_at_call 102; refine HKy.out.mono ?_; rintro e w5 ⟨rfl, hb5⟩)
   have hS : w5.cell? ⟨nd.b, 3, none⟩ = some (.map mk) := cell_kp (Kp.of (F := fun _ => False) hb5) c3d (fun e => e)
   refine hK.out _ _ hS (fun _ => ?_)
   clear hK K
   try simp only [Act.put, List.setIfInBounds_toArray, List.set_cons_zero, List.set_cons_succ]
   refine seq_do (o := ⟨_, _, _, _, _, _⟩) (by rw [HO.out]; rfl) (by rfl) (fun K hK => ?_)
   have hlk := HS.out w5 (Below.undrew hb5)
   go_wp2_with fail
   refine hK.out _ _ hS (fun _ => ?_)
   clear hK K
   try simp only [Act.put, List.setIfInBounds_toArray, List.set_cons_zero, List.set_cons_succ]
   refine seq_take (o := ⟨_, _, _, _, _, _⟩) (v := ?_) (by rw [HO.out]; rfl) (by rfl) ?_ ?_
   rotate_left 1
   ·first | ((intro W _; go_simp) <;> with_reducible rfl) | (intro W hW; skip; (go_simp <;> with_reducible rfl))
   try simp only [Act.put, List.setIfInBounds_toArray, List.set_cons_zero, List.set_cons_succ]
   refine seq_done ?_
   --ENDR6
   have hb9 : Below wr.heap.size wr w5 := Below.undrew hb5
   have HB9 : Hid (Below w1.heap.size w1 w5) := Lib.hid (bTrans HBx.out hb9)
   clear hb5 hlk c3 c3d
   cases hcu : s.F (ks.take (k + 1)) with
   | none =>
    go_wp2_with fail
    go_ret2
    exact ⟨k, nd, rfl, ⟨by rw [HL.out, HNn.out, HNm.out]; omega, HF.out, .inr hcu⟩, bTrans HB1.out HB9.out⟩
   | some nd2 =>
    go_wp2_with fail
    go_roundg g
    case measure => omega
    case rel => exact ⟨k + 1, nd2, by omega, by go_num, rfl, HB9, Lib.hid hcu⟩
  ·obtain rfl : k = m := by omega
   go_wp2_with fail
   go_ret2
   exact ⟨k, nd, by rw [← HN1.out.2]; rfl, ⟨by rw [HL.out, HNn.out, HNm.out]; omega, HF.out, .inl (by rw [HL.out, HNn.out, HNm.out])⟩, HBy.out⟩
end Go.Proofs.YtchfhojighopkaaGreatDoor
namespace Wh
open Go
theorem splitC_last {c : UInt8} : ∀ (l r : List UInt8), (∀ b ∈ r, b ≠ c) → splitC c (l ++ c :: r) = splitC c l ++ [r]
 | [], r, h => by simp [splitC, splitC_no h]
 | b :: l, r, h => by
  have ih := splitC_last l r h
  rw [List.cons_append, splitC, splitC]
  split
  ·rw [ih]; rfl
  ·rw [ih]
   rcases hl : splitC c l with _ | ⟨x, t⟩
   ·exact absurd hl (splitC_ne c l)
   ·rfl
/-- The last name of a path. -/
def lastOf (s : ByteArray) : ByteArray := s.extract (Lib.lastIndexByte s 47 + 1).toNat s.size
end Wh
namespace Go.Proofs.YtchfhojighopkaaGreatDoor
open Go.RowKit

theorem data_inj {a b : ByteArray} (h : a.data.toList = b.data.toList) : a = b := by
 cases a; cases b
 simp at h
 rw [h]
theorem lastIndex_cases2 (s : ByteArray) : Lib.lastIndexByte s 47 = -1 ∨ ∃ i : Nat, i < s.size ∧ Lib.lastIndexByte s 47 = i := by
 rcases Lib.lastIdx_spec s 47 s.size with h | ⟨i, h1, h2, _⟩
 ·exact .inl h.1
 ·exact .inr ⟨i, h1, h2⟩
theorem lastOf_is {s : ByteArray} (h0 : s.toList.isEmpty = false) : (Wh.namesOf s).getLast? = some (Wh.lastOf s) := by
 rw [Wh.namesOf_some (by rw [← Lib.toList_data]; exact h0)]
 have hd := Wh.pieces_data 47 s
 have hl : (Wh.splitC 47 s.data.toList).getLast? = some (Wh.lastOf s).data.toList := by
  unfold Wh.lastOf
  have hb : ∀ (j : Nat) (hj : j < s.data.toList.length), s.data[j]! = s.data.toList[j] := fun j hj => by
   rw [getElem!_pos s.data j (by simpa using hj)]
   simp
  have hsz : s.size = s.data.toList.length := Lib.size_eq s
  rcases Lib.lastIdx_spec s 47 s.size with ⟨h1, h2⟩ | ⟨i, h1, h2, h3, h4⟩
  ·rw [show Lib.lastIndexByte s 47 = -1 from h1, Wh.splitC_no]
   ·rw [Lib.extract_to_end]
    rfl
   ·intro b hbm hbc
    obtain ⟨j, hj, e⟩ := List.getElem_of_mem hbm
    refine h2 j (by omega) ?_
    rw [hb j hj, e, hbc]
    rfl
  ·rw [show Lib.lastIndexByte s 47 = i from h2]
   have hlt : i < s.data.toList.length := by omega
   have e47 : s.data.toList[i] = 47 := by
    rw [hb i hlt] at h3
    apply UInt8.toNat_inj.1
    have : (47 : UInt8).toNat = 47 := rfl
    omega
   have e1 : s.data.toList = s.data.toList.take i ++ 47 :: s.data.toList.drop (i + 1) := by
    conv => lhs; rw [← List.take_append_drop i s.data.toList]
    rw [List.drop_eq_getElem_cons hlt, e47]
   have hn : ∀ b ∈ s.data.toList.drop (i + 1), b ≠ 47 := by
    intro b hbm hbc
    obtain ⟨j, hj, e⟩ := List.getElem_of_mem hbm
    rw [List.length_drop] at hj
    rw [List.getElem_drop] at e
    refine h4 (i + 1 + j) (by omega) (by omega) ?_
    rw [hb _ (by omega), e, hbc]
    rfl
   rw [e1, Wh.splitC_last _ _ hn, List.getLast?_append, show ((i : Int) + 1).toNat = i + 1 by omega, Lib.extract_to_end]
   simp
 rw [← hd, List.getLast?_map] at hl
 cases hg : (Wh.pieces 47 s).getLast? with
 | none => rw [hg] at hl; cases hl
 | some x =>
  rw [hg] at hl
  injection hl with hl
  rw [data_inj hl]

set_option maxHeartbeats 2000000 in
set_option maxRecDepth 100000 in
theorem lastT_any (s : ByteArray) (w : World) (hs : s.size ≤ 1024) :
  Calls Tryz.prog 79 #[.string s] w fun e w' => e = .returned (.string (Wh.lastOf s)) ∧ w' = w := by
 have HL := Lib.hid (Tryz.strings_LastIndexByte s 47 (by omega) w)
 obtain ⟨k, hk, h1, h2, HX⟩ : ∃ k : Int, Lib.lastIndexByte s 47 = k ∧ -1 ≤ k ∧ k < s.size ∧ Hid (Wh.lastOf s = s.extract (k + 1).toNat s.size) := by
  rcases lastIndex_cases2 s with hi | ⟨i, hlt, hi⟩
  ·exact ⟨_, rfl, by omega, by omega, Lib.hid rfl⟩
  ·exact ⟨_, rfl, by omega, by omega, Lib.hid rfl⟩
 rw [hk] at HL
 clear hk
 obtain ⟨j, hj⟩ : ∃ j : Nat, k + 1 = (j : Int) := ⟨(k + 1).toNat, by omega⟩
 have hj2 : j ≤ s.size := by omega
 have hj3 : (j : Int) ≤ (s.size : Int) := by omega
 have HJ : Hid (Wh.lastOf s = s.extract j s.size) := Lib.hid (by rw [HX.out, hj]; rfl)
 go_enter Tryz.func79, Tryz.ntmps79
 go_upto_region 1 with fail
 go_wp2_with (go_at_call 103; refine HL.out.mono ?_; rintro e w2 ⟨rfl, rfl⟩)
 go_ret
 exact ⟨by rw [HJ.out]; rfl, rfl⟩

/-- A node's name. -/
def nmAt (F : Tr) (ks : List ByteArray) : ByteArray := ((F ks).map Nd.name).getD ByteArray.empty
/-- How a node is written, by its keys from its own up to the root's. -/
def pathR (F : Tr) : List ByteArray → ByteArray
 | [] => nmAt F []
 | [k] => nmAt F [k]
 | k :: x :: r => pathR F (x :: r) ++ ⟨#[47]⟩ ++ nmAt F (k :: x :: r).reverse
/-- How many bytes a list of keys has, with a slash each. -/
def klen (ks : List ByteArray) : Nat := (ks.map fun k => k.size + 1).sum
theorem nm_size {w : World} {B rb : Nat} {f : Wh.Feat} {F : Tr} (h : TreeAt w B rb (kyOf f) F) {ks : List ByteArray} {k : ByteArray} {n : Nd} (hn : F (ks ++ [k]) = some n) : n.name.size = k.size := by
 rw [← (h.dirs ks k n hn).2.1, kyOf_size]
theorem pathR_size {w : World} {B rb : Nat} {f : Wh.Feat} {F : Tr} (h : TreeAt w B rb (kyOf f) F) : ∀ (rk : List ByteArray) (n : Nd), rk ≠ [] → F rk.reverse = some n → (pathR F rk).size + 1 = klen rk
 | [], _, h0, _ => absurd rfl h0
 | [k], n, _, hn => by
  have := nm_size h (ks := []) (by simpa using hn)
  have e : F [k] = some n := by simpa using hn
  simp [pathR, nmAt, klen, e, this]
 | k :: x :: r, n, _, hn => by
  have hn' : F ((x :: r).reverse ++ [k]) = some n := by simpa using hn
  obtain ⟨⟨p, hp, _⟩, _⟩ := h.dirs _ _ _ hn'
  have ih := pathR_size h (x :: r) p (by simp) hp
  have := nm_size h hn'
  have e : klen (k :: x :: r) = k.size + 1 + klen (x :: r) := by simp [klen]
  have e2 : pathR F (k :: x :: r) = pathR F (x :: r) ++ ⟨#[47]⟩ ++ nmAt F (k :: x :: r).reverse := rfl
  rw [e, ← ih, e2]
  unfold nmAt
  rw [hn, ByteArray.size_append, ByteArray.size_append]
  show _ + (⟨#[47]⟩ : ByteArray).size + n.name.size + 1 = _
  rw [this, show (⟨#[47]⟩ : ByteArray).size = 1 from rfl]
  omega

set_option maxHeartbeats 4000000 in
set_option maxRecDepth 100000 in
theorem pathT_any (B rb : Nat) (f : Wh.Feat) (F : Tr) : ∀ (rk : List ByteArray) (n : Nd) (w : World), TreeAt w B rb (kyOf f) F → F rk.reverse = some n → klen rk ≤ 4096 →
  Calls Tryz.prog 73 #[ptr n.b] w fun e w' => e = .returned (.string (pathR F rk)) ∧ Below w.heap.size w w'
 | [], n, w, hT, hn, _ => by
  have hn' : F [] = some n := hn
  obtain ⟨c0, _, c2, _⟩ := nd_cells (hT.box _ _ hn').1
  have hr : pathR F [] = n.name := by simp [pathR, nmAt, hn']
  have HR := Lib.hid hr
  rw [show F.up [] = none from rfl] at c2
  clear hr hT hn hn'
  go_enter Tryz.func73, Tryz.ntmps73
  go_wp2_with fail
  go_ret
  exact ⟨by rw [HR.out]; rfl, Below.refl _ _⟩
 | [k], n, w, hT, hn, _ => by
  have hn' : F ([] ++ [k]) = some n := hn
  obtain ⟨c0, _, c2, _⟩ := nd_cells (hT.box _ _ hn').1
  obtain ⟨⟨p, hp, _⟩, _⟩ := hT.dirs _ _ _ hn'
  obtain ⟨_, _, d2, _⟩ := nd_cells (hT.box _ _ hp).1
  have hr : pathR F [k] = n.name := by simp [pathR, nmAt, show F [k] = some n from hn]
  have HR := Lib.hid hr
  rw [Tr.up_snoc, hp] at c2
  rw [show F.up [] = none from rfl] at d2
  simp only [Option.map_some, adr] at c2
  clear hr hT hn hn' hp
  go_enter Tryz.func73, Tryz.ntmps73
  go_wp2_with fail
  go_ret
  exact ⟨by rw [HR.out]; rfl, Below.refl _ _⟩
 | k :: x :: r, n, w, hT, hn, hl => by
  have hn' : F ((x :: r).reverse ++ [k]) = some n := by simpa using hn
  obtain ⟨c0, _, c2, _⟩ := nd_cells (hT.box _ _ hn').1
  obtain ⟨⟨p, hp, _⟩, _⟩ := hT.dirs _ _ _ hn'
  obtain ⟨_, _, d2, _⟩ := nd_cells (hT.box _ _ hp).1
  have hp' : F (r.reverse ++ [x]) = some p := by simpa using hp
  obtain ⟨⟨q, hq, _⟩, _⟩ := hT.dirs _ _ _ hp'
  have hl2 : klen (x :: r) ≤ 4096 := by
   have e : klen (k :: x :: r) = k.size + 1 + klen (x :: r) := by simp [klen]
   omega
  have HP := Lib.hid (fun W (hb : Below w.heap.size w W) => pathT_any B rb f F (x :: r) p W (hT.under hb) hp hl2)
  have hr : pathR F (k :: x :: r) = pathR F (x :: r) ++ ⟨#[47]⟩ ++ n.name := by
   rw [pathR]
   unfold nmAt
   rw [hn]
   rfl
  have HR := Lib.hid hr
  have hz1 := pathR_size hT (x :: r) p (by simp) hp
  have hz2 := nm_size hT hn'
  have hz3 : klen (k :: x :: r) = k.size + 1 + klen (x :: r) := by simp [klen]
  have hs1 : (pathR F (x :: r)).size ≤ 4096 := by omega
  have hs2 : n.name.size ≤ 4096 := by omega
  have hq1 : ¬ (9223372036854775807 < (pathR F (x :: r)).size + 1) := by omega
  have hq2 : ¬ (9223372036854775807 < (pathR F (x :: r)).size + 1 + n.name.size) := by omega
  have hq3 : (pathR F (x :: r) ++ (⟨#[47]⟩ : ByteArray)).size = (pathR F (x :: r)).size + 1 := by rw [ByteArray.size_append]; rfl
  rw [Tr.up_snoc, hp] at c2
  rw [show (x :: r).reverse = r.reverse ++ [x] by simp, Tr.up_snoc, hq] at d2
  simp only [Option.map_some, adr] at c2 d2
  obtain ⟨b, hb⟩ : ∃ b, n.b = b := ⟨_, rfl⟩
  obtain ⟨pb, hpb⟩ : ∃ b, p.b = b := ⟨_, rfl⟩
  obtain ⟨nm, hnm⟩ : ∃ b, n.name = b := ⟨_, rfl⟩
  rw [hb] at c0 c2 ⊢
  rw [hpb] at c2 d2 HP
  rw [hnm] at c0 HR hs2 hq2
  generalize pathR F (x :: r) = pp at *
  generalize pathR F (k :: x :: r) = res at *
  clear hr hT hn hn' hp hp' hq hl hl2 hz1 hz2 hz3 hb hpb hnm
  go_enter Tryz.func73, Tryz.ntmps73
  go_upto_region 3 with fail
  clear d2
  have e0 : w.drew.cell? ⟨b, 0, none⟩ = some (.string nm) := c0
  have e2 : w.drew.cell? ⟨b, 2, none⟩ = some (ptr pb) := c2
  clear c0 c2
  refine wp_region_seq (fun W => W.cell? ⟨b, 0, none⟩ = some (.string nm) ∧ W.cell? ⟨b, 2, none⟩ = some (ptr pb)) [(0, true), (1, true), (2, true), (3, true), (6, true), (7, true), (8, true), (9, true), (4, false), (5, true), (10, true), (11, true)] (by as_aux_lemma => kernel_rfl) (by as_aux_lemma => kernel_rfl) (by decide) (by as_aux_lemma => kernel_rfl) ⟨e0, e2⟩ ?_
  intro OPS HO
  iterate 8
   refine seq_take (o := ⟨_, _, _, _, _, _⟩) (v := ?_) (by rw [HO.out]; rfl) (by rfl) ?_ ?_
   rotate_left 1
   ·first | ((intro W _; go_simp) <;> with_reducible rfl) | (intro W hW; obtain ⟨hW0, hW1⟩ := hW; (go_simp <;> with_reducible rfl))
   try simp only [Act.put, List.setIfInBounds_toArray, List.set_cons_zero, List.set_cons_succ]
  refine seq_do (o := ⟨_, _, _, _, _, _⟩) (by rw [HO.out]; rfl) (by rfl) (fun K hK => ?_)
  go_wp2_with (go_at_call 73; refine (HP.out w.drew (bDrew w)).mono ?_; rintro e w5 ⟨rfl, hb5⟩)
  have hS : w5.cell? ⟨b, 0, none⟩ = some (.string nm) ∧ w5.cell? ⟨b, 2, none⟩ = some (ptr pb) := ⟨cell_kp (Kp.of (F := fun _ => False) hb5) e0 (fun e => e), cell_kp (Kp.of (F := fun _ => False) hb5) e2 (fun e => e)⟩
  refine hK.out _ _ hS (fun _ => ?_)
  clear hK K
  iterate 3
   try simp only [Act.put, List.setIfInBounds_toArray, List.set_cons_zero, List.set_cons_succ]
   refine seq_take (o := ⟨_, _, _, _, _, _⟩) (v := ?_) (by rw [HO.out]; rfl) (by rfl) ?_ ?_
   rotate_left 1
   ·first | ((intro W _; go_simp) <;> with_reducible rfl) | (intro W hW; obtain ⟨hW0, hW1⟩ := hW; (go_simp <;> with_reducible rfl))
  try simp only [Act.put, List.setIfInBounds_toArray, List.set_cons_zero, List.set_cons_succ]
  refine seq_done ?_
  go_wp2_with fail
  go_ret
  exact ⟨by rw [HR.out]; rfl, Below.undrew hb5⟩

set_option maxHeartbeats 4000000 in
set_option maxRecDepth 100000 in
theorem addT_true (w : World) (B : Nat) (M : MB) (s : TSt) (ks : List ByteArray) (p : Nd) (nb : Nat) (name id : ByteArray) (hM : MemT w B M s) (hp : s.F ks = some p) (hpd : p.dir = true) (hnew : s.F (ks ++ [kyOf s.f name]) = none)
  (hN : BoxIs w nb (nodeArr name true none none ⟨#[]⟩ 0 id) 108) (hB : B ≤ nb) (hno : ¬ s.F.own nb) (hsz : name.size ≤ 1024) (hc : 0 ≤ s.cnt ∧ s.cnt ≤ 1000000) :
  Calls Tryz.prog 77 #[ptr M.b, ptr p.b, ptr nb] w fun e w' => ∃ kb, e = .returned (ptr nb) ∧ MemT w' B M { s with cnt := s.cnt + 1, F := s.F.put (ks ++ [kyOf s.f name]) ⟨nb, kb, name, true, ⟨#[]⟩, 0, .slice none 0 0, id⟩ } ∧ Kp (fun i => i = nb ∨ i = p.kb ∨ i = M.b) w w' ∧ (kb = nb ∨ w.heap.size ≤ kb) := by
 obtain ⟨key, hkey⟩ : ∃ key, kyOf s.f name = key := ⟨_, rfl⟩
 have HKey := Lib.hid hkey
 have hks : key.size ≤ maxLen := by rw [← hkey, kyOf_size]; unfold maxLen; omega
 have HKs := Lib.hid hks
 rw [hkey] at hnew ⊢
 clear hkey hks
 have HM := Lib.hid hM
 have HNb := Lib.hid hN
 have HP := Lib.hid (And.intro hp hpd)
 have hpk := (hM.tree.kids ks p hp hpd).1
 have HNe : Hid (nb ≠ p.kb ∧ p.b ≠ p.kb ∧ p.b ≠ nb ∧ M.b ≠ p.kb ∧ M.b ≠ nb) := Lib.hid ⟨hN.ne_f hpk, (hM.tree.box ks p hp).1.ne_f hpk, fun e => hno ⟨ks, p, hp, .inl e.symm⟩, hM.box.ne_f hpk, hM.box.ne hN (by decide)⟩
 have HC := Lib.hid (And.intro hnew (And.intro hB (And.intro hno (And.intro hsz hc))))
 have c2 : w.cell? ⟨nb, 2, none⟩ = some (.pointer none) := hN.cell (j := 2) rfl
 have f2 : w.frozen? ⟨nb, 2, none⟩ = false := Lib.frozen_of_heap hN 2
 have hmm := @run_makeMap Tryz.prog
 obtain ⟨cn, hcn⟩ : ∃ cn, s.cnt = cn := ⟨_, rfl⟩
 have hc1 : 0 ≤ cn := by omega
 have hc2 : cn ≤ 1000000 := by omega
 have HCn := Lib.hid hcn
 obtain ⟨pb, hpb⟩ : ∃ b, p.b = b := ⟨_, rfl⟩
 obtain ⟨pk, hpkk⟩ : ∃ b, p.kb = b := ⟨_, rfl⟩
 have HPb := Lib.hid (And.intro hpb hpkk)
 rw [hpb, hpkk] at HNe
 rw [hpb, hpkk]
 clear hM hN hp hpd hpk hnew hB hno hsz hc hcn hpb hpkk
 go_enter Tryz.func77, Tryz.ntmps77
 go_upto_region 2 with fail
 have HK1 : Hid (Kp (fun i => i = nb) w (w.setCell ⟨nb, 2, none⟩ (ptr pb))) := Lib.hid ((Kp.refl (fun i => i = nb) w).set (b := nb) (.inl rfl) 2 _)
 have HN1 : Hid (BoxIs (w.setCell ⟨nb, 2, none⟩ (ptr pb)) nb (nodeArr name true (some ⟨pb, 0, none⟩) none ⟨#[]⟩ 0 id) 108) := Lib.hid (HNb.out.putAt 2 (ptr pb))
 clear c2 f2
 generalize w.setCell ⟨nb, 2, none⟩ (ptr pb) = w1 at *
 have d1 : w1.cell? ⟨nb, 1, none⟩ = some (.bool true) := HN1.out.cell (j := 1) rfl
 have d3 : w1.cell? ⟨nb, 3, none⟩ = some (.map none) := HN1.out.cell (j := 3) rfl
 have hn3 : nb < w1.heap.size := HN1.out.lt
 have d3' : (w1.alloc (.map #[] 0)).cell? ⟨nb, 3, none⟩ = some (.map none) := (HN1.out.under (bAlloc (Below.refl _ _) _)).cell (j := 3) rfl
 have f3' : (w1.alloc (.map #[] 0)).frozen? ⟨nb, 3, none⟩ = false := Lib.frozen_of_heap (HN1.out.under (bAlloc (Below.refl _ _) _)) 3
 clear d3
 go_upto_region 4 with fail
 obtain ⟨kb, hkb⟩ : ∃ kb, w1.heap.size = kb := ⟨_, rfl⟩
 have hsz : (w1.setCell ⟨nb, 3, none⟩ (.map (some kb))).heap.size = kb := by rw [← hkb]; simp [World.setCell]
 have HK2 : Hid (Kp (fun i => i = nb) w ((w1.setCell ⟨nb, 3, none⟩ (.map (some kb))).alloc (.map #[] 0))) := Lib.hid ((HK1.out.set (b := nb) (.inl rfl) 3 _).trans (Kp.of (bAlloc (Below.refl _ _) _)))
 have HN2 : Hid (BoxIs ((w1.setCell ⟨nb, 3, none⟩ (.map (some kb))).alloc (.map #[] 0)) nb (nodeArr name true (some ⟨pb, 0, none⟩) (some kb) ⟨#[]⟩ 0 id) 108) := Lib.hid ((HN1.out.putAt 3 (.map (some kb))).under (bAlloc (Below.refl _ _) _))
 have HMk2 : Hid (MapF ((w1.setCell ⟨nb, 3, none⟩ (.map (some kb))).alloc (.map #[] 0)) kb (fun _ => none)) := Lib.hid (by
  have h := MapF.new (w1.setCell ⟨nb, 3, none⟩ (.map (some kb)))
  rw [hsz] at h
  exact h)
 have HKb : Hid (w.heap.size ≤ kb) := Lib.hid (by rw [← hkb]; exact HK1.out.size)
 have HKl : Hid (kb < ((w1.setCell ⟨nb, 3, none⟩ (.map (some kb))).alloc (.map #[] 0)).heap.size) := Lib.hid (by simp; omega)
 rw [hkb]
 clear d1 d3' f3' hn3 HK1 HN1 hkb hsz
 generalize (w1.setCell ⟨nb, 3, none⟩ (.map (some kb))).alloc (.map #[] 0) = w2 at *
 have e0 : w2.drew.cell? ⟨nb, 0, none⟩ = some (.string name) := HN2.out.cell (j := 0) rfl
 have HPc : Hid (BoxIs w2 pb (ndArr p (s.F.up ks)) 108) := Lib.hid (by
  have h := (HM.out.tree.box ks p HP.out.1).1
  rw [HPb.out.1] at h
  exact h.kp HK2.out HNe.out.2.2.1)
 have e3 : w2.drew.cell? ⟨pb, 3, none⟩ = some (.map (some pk)) := by
  have h : w2.cell? ⟨pb, 3, none⟩ = some (.map (if p.dir then some p.kb else none)) := HPc.out.cell (j := 3) rfl
  rw [HP.out.2, HPb.out.2] at h
  exact h
 have HKd : Hid (MapF w2.drew pk (s.F.kid ks)) := Lib.hid (by
  have h := (HM.out.tree.kids ks p HP.out.1 HP.out.2).1
  rw [HPb.out.2] at h
  exact show MapF w2 pk (s.F.kid ks) from h.kp HK2.out (fun e => HNe.out.1 e.symm))
 have HKy := Lib.hid (keyT_any M.b s.f name w2.drew (by have := HC.out.2.2.2.1; omega) ((HM.out.box.kp HK2.out HNe.out.2.2.2.2).cell (j := 0) rfl))
 rw [HKey.out] at HKy
 refine wp_region_seq (fun W => W.cell? ⟨nb, 0, none⟩ = some (.string name) ∧ W.cell? ⟨pb, 3, none⟩ = some (.map (some pk))) [(0, true), (1, true), (2, true), (3, true), (4, true), (5, true), (6, true), (7, true), (8, true), (10, true), (9, false), (11, false)] (by as_aux_lemma => kernel_rfl) (by as_aux_lemma => kernel_rfl) (by decide) (by as_aux_lemma => kernel_rfl) ⟨e0, e3⟩ ?_
 intro OPS HO
 iterate 10
  refine seq_take (o := ⟨_, _, _, _, _, _⟩) (v := ?_) (by rw [HO.out]; rfl) (by rfl) ?_ ?_
  rotate_left 1
  ·first | ((intro W _; go_simp) <;> with_reducible rfl) | (intro W hW; obtain ⟨hW0, hW1⟩ := hW; (go_simp <;> with_reducible rfl))
  try simp only [Act.put, List.setIfInBounds_toArray, List.set_cons_zero, List.set_cons_succ]
 refine seq_do (o := ⟨_, _, _, _, _, _⟩) (by rw [HO.out]; rfl) (by rfl) (fun K hK => ?_)
 go_wp2_with (go_at_call 102; refine HKy.out.mono ?_; rintro e w5 ⟨rfl, hb5⟩)
 have hS : w5.cell? ⟨nb, 0, none⟩ = some (.string name) ∧ w5.cell? ⟨pb, 3, none⟩ = some (.map (some pk)) := ⟨cell_kp (Kp.of (F := fun _ => False) hb5) e0 (fun e => e), cell_kp (Kp.of (F := fun _ => False) hb5) e3 (fun e => e)⟩
 refine hK.out _ _ hS (fun _ => ?_)
 clear hK K
 try simp only [Act.put, List.setIfInBounds_toArray, List.set_cons_zero, List.set_cons_succ]
 refine seq_do (o := ⟨_, _, _, _, _, _⟩) (by rw [HO.out]; rfl) (by rfl) (fun K hK => ?_)
 refine wp_mapUpdate_f w5 (HKd.out.kp (Kp.of (F := fun _ => False) hb5) (fun e => e)) _ _ _ _ rfl Tryz.underlying9 HKs.out Tryz.underlying106 rfl rfl _ rfl (fun w6 hw6a hw6b => ?_)
 replace hS : w6.cell? ⟨nb, 0, none⟩ = some (.string name) ∧ w6.cell? ⟨pb, 3, none⟩ = some (.map (some pk)) := ⟨cell_kp hw6b hS.1 (fun e => HNe.out.1 e), cell_kp hw6b hS.2 (fun e => HNe.out.2.1 e)⟩
 refine hK.out _ _ hS (fun _ => ?_)
 clear hK K
 try simp only [Act.put]
 refine seq_done ?_
 have hb9 : Below w2.heap.size w2 w5 := Below.undrew hb5
 have HK6 : Hid (Kp (fun i => i = pk) w2 w6) := Lib.hid ((Kp.of (F := fun i => i = pk) hb9).trans hw6b)
 have HK5 : Hid (Kp (fun i => i = nb ∨ i = pk ∨ i = M.b) w w6) := Lib.hid ((HK2.out.mono (fun i e => .inl e)).trans (HK6.out.mono (fun i e => .inr (.inl e))))
 have HB6 : Hid (BoxIs w6 M.b (memArr s.f M cn s.made 0 (.slice none 0 0)) 113) := Lib.hid (by
  have h := HM.out.box
  rw [HCn.out] at h
  exact (h.kp HK2.out HNe.out.2.2.2.2).kp HK6.out HNe.out.2.2.2.1)
 have HN6 := Lib.hid (HN2.out.kp HK6.out HNe.out.1)
 have HMk6 := Lib.hid (HMk2.out.kp HK6.out (fun e => by have h1 := HKb.out; have h2 := HM.out.tree.lt ⟨ks, p, HP.out.1, .inr ⟨HP.out.2, rfl⟩⟩; rw [HPb.out.2] at h2; omega))
 have HMp := Lib.hid hw6a
 have g3 : w6.cell? ⟨M.b, 11, none⟩ = some (.int .i64 cn) := HB6.out.cell (j := 11) rfl
 have g4 : w6.frozen? ⟨M.b, 11, none⟩ = false := Lib.frozen_of_heap HB6.out 11
 have hwr : wrap64 (cn + 1) = cn + 1 := IntWalk.wrap64_in _ ⟨by omega, by omega⟩
 clear hb5 hb9 hw6a hw6b hS e0 e3
 go_wp2_with fail
 go_ret
 have hk7 : Kp (fun i => i = M.b) w6 (w6.setCell ⟨M.b, 11, none⟩ (.int .i64 (cn + 1))) := (Kp.refl (fun i => i = M.b) w6).set (b := M.b) (.inl rfl) 11 _
 have hkw : Kp (fun i => i = nb ∨ i = pk ∨ i = M.b) w (w6.setCell ⟨M.b, 11, none⟩ (.int .i64 (cn + 1))) := HK5.out.set (b := M.b) (.inl (.inr (.inr rfl))) 11 _
 refine ⟨kb, rfl, ?_, hkw, .inr HKb.out⟩
 obtain ⟨n1, n2, n3, n4, n5⟩ := HNe.out
 obtain ⟨q1, q2, q3, q4⟩ := HC.out
 have hmb := HM.out.b_ne
 have hmca := HM.out.ca_ne
 have hmsi := HM.out.si_ne
 have hmcb := HM.out.cb_ne
 have hpo : s.F.own pk := ⟨ks, p, HP.out.1, .inr ⟨HP.out.2, HPb.out.2.symm⟩⟩
 obtain ⟨ac, hac, _⟩ := HM.out.ca
 obtain ⟨asi, has, _⟩ := HM.out.si
 have hG : ∀ i, i ≠ nb → i ≠ pk → i ≠ M.b → ¬ (i = nb ∨ i = pk ∨ i = M.b) := fun i a b c e => e.elim a (fun e => e.elim b c)
 refine ⟨(by have h := HB6.out.putAt 11 (.int .i64 (cn + 1)); simp only [HCn.out]; exact h), HM.out.clk.kp hkw (hG _ (HM.out.clk.ne HNb.out (by decide)) (fun e => hmcb (e ▸ hpo)) (fun e => hmb.2.2.1 e.symm)), HM.out.ca.kp hkw (hG _ (hac.ne HNb.out (by decide)) (fun e => hmca.2 (e ▸ hpo)) (fun e => hmb.1 e.symm)), HM.out.si.kp hkw (hG _ (has.ne HNb.out (by decide)) (fun e => hmsi.2 (e ▸ hpo)) (fun e => hmb.2.1 e.symm)), HM.out.ne1, ?_, HM.out.lo⟩
 refine HM.out.tree.add HP.out.1 HP.out.2 q1 HKey.out HKs.out q3 ?_ ⟨q2, ?_⟩ ?_ ?_ ?_ hkw (fun i hi => ?_)
 ·exact fun e => by have h1 := HM.out.tree.lt e; have h2 := HKb.out; simp only at h1; omega
 ·have h1 := HM.out.tree.lo hpo; have h2 := HM.out.tree.lt hpo; have h3 := HKb.out; simp only; omega
 ·have h : BoxIs w6 nb (ndArr ⟨nb, kb, name, true, ⟨#[]⟩, 0, .slice none 0 0, id⟩ (some (adr p))) 108 := by
   have h := HN6.out
   unfold adr
   rw [HPb.out.1]
   exact h
  exact h.kp hk7 (fun e => n5 e.symm)
 ·intro _
  exact HMk6.out.kp hk7 (fun e => by have h1 := HM.out.lt (.inl (.inl rfl)); have h2 := HKb.out; omega)
 ·rw [HPb.out.2]
  exact HMp.out.kp hk7 (fun e => n4 e.symm)
 ·rw [HPb.out.2]
  rcases hi with e | e | e
  ·exact .inr (.inl e)
  ·exact .inl e
  ·exact .inr (.inr (.inr (fun o => hmb.2.2.2 (e ▸ o))))

set_option maxHeartbeats 4000000 in
set_option maxRecDepth 100000 in
theorem addT_false (w : World) (B : Nat) (M : MB) (s : TSt) (ks : List ByteArray) (p : Nd) (nb : Nat) (name id : ByteArray) (hM : MemT w B M s) (hp : s.F ks = some p) (hpd : p.dir = true) (hnew : s.F (ks ++ [kyOf s.f name]) = none)
  (hN : BoxIs w nb (nodeArr name false none none ⟨#[]⟩ 0 id) 108) (hB : B ≤ nb) (hno : ¬ s.F.own nb) (hsz : name.size ≤ 1024) (hc : 0 ≤ s.cnt ∧ s.cnt ≤ 1000000) :
  Calls Tryz.prog 77 #[ptr M.b, ptr p.b, ptr nb] w fun e w' => ∃ kb, e = .returned (ptr nb) ∧ MemT w' B M { s with cnt := s.cnt + 1, F := s.F.put (ks ++ [kyOf s.f name]) ⟨nb, kb, name, false, ⟨#[]⟩, 0, .slice none 0 0, id⟩ } ∧ Kp (fun i => i = nb ∨ i = p.kb ∨ i = M.b) w w' ∧ (kb = nb ∨ w.heap.size ≤ kb) := by
 obtain ⟨key, hkey⟩ : ∃ key, kyOf s.f name = key := ⟨_, rfl⟩
 have HKey := Lib.hid hkey
 have hks : key.size ≤ maxLen := by rw [← hkey, kyOf_size]; unfold maxLen; omega
 have HKs := Lib.hid hks
 rw [hkey] at hnew ⊢
 clear hkey hks
 have HM := Lib.hid hM
 have HNb := Lib.hid hN
 have HP := Lib.hid (And.intro hp hpd)
 have hpk := (hM.tree.kids ks p hp hpd).1
 have HNe : Hid (nb ≠ p.kb ∧ p.b ≠ p.kb ∧ p.b ≠ nb ∧ M.b ≠ p.kb ∧ M.b ≠ nb) := Lib.hid ⟨hN.ne_f hpk, (hM.tree.box ks p hp).1.ne_f hpk, fun e => hno ⟨ks, p, hp, .inl e.symm⟩, hM.box.ne_f hpk, hM.box.ne hN (by decide)⟩
 have HC := Lib.hid (And.intro hnew (And.intro hB (And.intro hno (And.intro hsz hc))))
 have c2 : w.cell? ⟨nb, 2, none⟩ = some (.pointer none) := hN.cell (j := 2) rfl
 have f2 : w.frozen? ⟨nb, 2, none⟩ = false := Lib.frozen_of_heap hN 2
 have hmm := @run_makeMap Tryz.prog
 obtain ⟨cn, hcn⟩ : ∃ cn, s.cnt = cn := ⟨_, rfl⟩
 have hc1 : 0 ≤ cn := by omega
 have hc2 : cn ≤ 1000000 := by omega
 have HCn := Lib.hid hcn
 obtain ⟨pb, hpb⟩ : ∃ b, p.b = b := ⟨_, rfl⟩
 obtain ⟨pk, hpkk⟩ : ∃ b, p.kb = b := ⟨_, rfl⟩
 have HPb := Lib.hid (And.intro hpb hpkk)
 rw [hpb, hpkk] at HNe
 rw [hpb, hpkk]
 clear hM hN hp hpd hpk hnew hB hno hsz hc hcn hpb hpkk
 go_enter Tryz.func77, Tryz.ntmps77
 go_upto_region 2 with fail
 have HK1 : Hid (Kp (fun i => i = nb) w (w.setCell ⟨nb, 2, none⟩ (ptr pb))) := Lib.hid ((Kp.refl (fun i => i = nb) w).set (b := nb) (.inl rfl) 2 _)
 have HN1 : Hid (BoxIs (w.setCell ⟨nb, 2, none⟩ (ptr pb)) nb (nodeArr name false (some ⟨pb, 0, none⟩) none ⟨#[]⟩ 0 id) 108) := Lib.hid (HNb.out.putAt 2 (ptr pb))
 clear c2 f2
 generalize w.setCell ⟨nb, 2, none⟩ (ptr pb) = w1 at *
 have d1 : w1.cell? ⟨nb, 1, none⟩ = some (.bool false) := HN1.out.cell (j := 1) rfl
 go_upto_region 4 with fail
 have HK2 := HK1
 have HN2 := HN1
 clear d1 HK1 HN1
 generalize w1 = w2 at *
 obtain ⟨kb, hkb⟩ : ∃ kb, nb = kb := ⟨_, rfl⟩
 have HKb := Lib.hid hkb
 clear hkb
 have e0 : w2.drew.cell? ⟨nb, 0, none⟩ = some (.string name) := HN2.out.cell (j := 0) rfl
 have HPc : Hid (BoxIs w2 pb (ndArr p (s.F.up ks)) 108) := Lib.hid (by
  have h := (HM.out.tree.box ks p HP.out.1).1
  rw [HPb.out.1] at h
  exact h.kp HK2.out HNe.out.2.2.1)
 have e3 : w2.drew.cell? ⟨pb, 3, none⟩ = some (.map (some pk)) := by
  have h : w2.cell? ⟨pb, 3, none⟩ = some (.map (if p.dir then some p.kb else none)) := HPc.out.cell (j := 3) rfl
  rw [HP.out.2, HPb.out.2] at h
  exact h
 have HKd : Hid (MapF w2.drew pk (s.F.kid ks)) := Lib.hid (by
  have h := (HM.out.tree.kids ks p HP.out.1 HP.out.2).1
  rw [HPb.out.2] at h
  exact show MapF w2 pk (s.F.kid ks) from h.kp HK2.out (fun e => HNe.out.1 e.symm))
 have HKy := Lib.hid (keyT_any M.b s.f name w2.drew (by have := HC.out.2.2.2.1; omega) ((HM.out.box.kp HK2.out HNe.out.2.2.2.2).cell (j := 0) rfl))
 rw [HKey.out] at HKy
 refine wp_region_seq (fun W => W.cell? ⟨nb, 0, none⟩ = some (.string name) ∧ W.cell? ⟨pb, 3, none⟩ = some (.map (some pk))) [(0, true), (1, true), (2, true), (3, true), (4, true), (5, true), (6, true), (7, true), (8, true), (10, true), (9, false), (11, false)] (by as_aux_lemma => kernel_rfl) (by as_aux_lemma => kernel_rfl) (by decide) (by as_aux_lemma => kernel_rfl) ⟨e0, e3⟩ ?_
 intro OPS HO
 iterate 10
  refine seq_take (o := ⟨_, _, _, _, _, _⟩) (v := ?_) (by rw [HO.out]; rfl) (by rfl) ?_ ?_
  rotate_left 1
  ·first | ((intro W _; go_simp) <;> with_reducible rfl) | (intro W hW; obtain ⟨hW0, hW1⟩ := hW; (go_simp <;> with_reducible rfl))
  try simp only [Act.put, List.setIfInBounds_toArray, List.set_cons_zero, List.set_cons_succ]
 refine seq_do (o := ⟨_, _, _, _, _, _⟩) (by rw [HO.out]; rfl) (by rfl) (fun K hK => ?_)
 go_wp2_with (go_at_call 102; refine HKy.out.mono ?_; rintro e w5 ⟨rfl, hb5⟩)
 have hS : w5.cell? ⟨nb, 0, none⟩ = some (.string name) ∧ w5.cell? ⟨pb, 3, none⟩ = some (.map (some pk)) := ⟨cell_kp (Kp.of (F := fun _ => False) hb5) e0 (fun e => e), cell_kp (Kp.of (F := fun _ => False) hb5) e3 (fun e => e)⟩
 refine hK.out _ _ hS (fun _ => ?_)
 clear hK K
 try simp only [Act.put, List.setIfInBounds_toArray, List.set_cons_zero, List.set_cons_succ]
 refine seq_do (o := ⟨_, _, _, _, _, _⟩) (by rw [HO.out]; rfl) (by rfl) (fun K hK => ?_)
 refine wp_mapUpdate_f w5 (HKd.out.kp (Kp.of (F := fun _ => False) hb5) (fun e => e)) _ _ _ _ rfl Tryz.underlying9 HKs.out Tryz.underlying106 rfl rfl _ rfl (fun w6 hw6a hw6b => ?_)
 replace hS : w6.cell? ⟨nb, 0, none⟩ = some (.string name) ∧ w6.cell? ⟨pb, 3, none⟩ = some (.map (some pk)) := ⟨cell_kp hw6b hS.1 (fun e => HNe.out.1 e), cell_kp hw6b hS.2 (fun e => HNe.out.2.1 e)⟩
 refine hK.out _ _ hS (fun _ => ?_)
 clear hK K
 try simp only [Act.put]
 refine seq_done ?_
 have hb9 : Below w2.heap.size w2 w5 := Below.undrew hb5
 have HK6 : Hid (Kp (fun i => i = pk) w2 w6) := Lib.hid ((Kp.of (F := fun i => i = pk) hb9).trans hw6b)
 have HK5 : Hid (Kp (fun i => i = nb ∨ i = pk ∨ i = M.b) w w6) := Lib.hid ((HK2.out.mono (fun i e => .inl e)).trans (HK6.out.mono (fun i e => .inr (.inl e))))
 have HB6 : Hid (BoxIs w6 M.b (memArr s.f M cn s.made 0 (.slice none 0 0)) 113) := Lib.hid (by
  have h := HM.out.box
  rw [HCn.out] at h
  exact (h.kp HK2.out HNe.out.2.2.2.2).kp HK6.out HNe.out.2.2.2.1)
 have HN6 := Lib.hid (HN2.out.kp HK6.out HNe.out.1)
 have HMp := Lib.hid hw6a
 have g3 : w6.cell? ⟨M.b, 11, none⟩ = some (.int .i64 cn) := HB6.out.cell (j := 11) rfl
 have g4 : w6.frozen? ⟨M.b, 11, none⟩ = false := Lib.frozen_of_heap HB6.out 11
 have hwr : wrap64 (cn + 1) = cn + 1 := IntWalk.wrap64_in _ ⟨by omega, by omega⟩
 clear hb5 hb9 hw6a hw6b hS e0 e3
 go_wp2_with fail
 go_ret
 have hk7 : Kp (fun i => i = M.b) w6 (w6.setCell ⟨M.b, 11, none⟩ (.int .i64 (cn + 1))) := (Kp.refl (fun i => i = M.b) w6).set (b := M.b) (.inl rfl) 11 _
 have hkw : Kp (fun i => i = nb ∨ i = pk ∨ i = M.b) w (w6.setCell ⟨M.b, 11, none⟩ (.int .i64 (cn + 1))) := HK5.out.set (b := M.b) (.inl (.inr (.inr rfl))) 11 _
 refine ⟨kb, rfl, ?_, hkw, .inl HKb.out.symm⟩
 obtain ⟨n1, n2, n3, n4, n5⟩ := HNe.out
 obtain ⟨q1, q2, q3, q4⟩ := HC.out
 have hmb := HM.out.b_ne
 have hmca := HM.out.ca_ne
 have hmsi := HM.out.si_ne
 have hmcb := HM.out.cb_ne
 have hpo : s.F.own pk := ⟨ks, p, HP.out.1, .inr ⟨HP.out.2, HPb.out.2.symm⟩⟩
 obtain ⟨ac, hac, _⟩ := HM.out.ca
 obtain ⟨asi, has, _⟩ := HM.out.si
 have hG : ∀ i, i ≠ nb → i ≠ pk → i ≠ M.b → ¬ (i = nb ∨ i = pk ∨ i = M.b) := fun i a b c e => e.elim a (fun e => e.elim b c)
 refine ⟨(by have h := HB6.out.putAt 11 (.int .i64 (cn + 1)); simp only [HCn.out]; exact h), HM.out.clk.kp hkw (hG _ (HM.out.clk.ne HNb.out (by decide)) (fun e => hmcb (e ▸ hpo)) (fun e => hmb.2.2.1 e.symm)), HM.out.ca.kp hkw (hG _ (hac.ne HNb.out (by decide)) (fun e => hmca.2 (e ▸ hpo)) (fun e => hmb.1 e.symm)), HM.out.si.kp hkw (hG _ (has.ne HNb.out (by decide)) (fun e => hmsi.2 (e ▸ hpo)) (fun e => hmb.2.1 e.symm)), HM.out.ne1, ?_, HM.out.lo⟩
 refine HM.out.tree.add HP.out.1 HP.out.2 q1 HKey.out HKs.out q3 ?_ ⟨q2, ?_⟩ ?_ ?_ ?_ hkw (fun i hi => ?_)
 ·rw [← HKb.out]; exact q3
 ·rw [← HKb.out]; exact q2
 ·have h : BoxIs w6 nb (ndArr ⟨nb, kb, name, false, ⟨#[]⟩, 0, .slice none 0 0, id⟩ (some (adr p))) 108 := by
   have h := HN6.out
   unfold adr
   rw [HPb.out.1]
   exact h
  exact h.kp hk7 (fun e => n5 e.symm)
 ·intro e; cases e
 ·rw [HPb.out.2]
  exact HMp.out.kp hk7 (fun e => n4 e.symm)
 ·rw [HPb.out.2]
  rcases hi with e | e | e
  ·exact .inr (.inl e)
  ·exact .inl e
  ·exact .inr (.inr (.inr (fun o => hmb.2.2.2 (e ▸ o))))
end Go.Proofs.YtchfhojighopkaaGreatDoor
namespace Go.Proofs.YtchfhojighopkaaGreatDoor
open Go.RowKit

theorem put_own {F : Tr} {ks : List ByteArray} {n : Nd} {i : Nat} (h : (F.put ks n).own i) : F.own i ∨ i = n.b ∨ i = n.kb := by
 obtain ⟨ls, m, hm, e⟩ := h
 by_cases hl : ls = ks
 ·rw [hl, Tr.put_same] at hm
  injection hm with hm
  subst hm
  rcases e with e | ⟨_, e⟩
  ·exact .inr (.inl e)
  ·exact .inr (.inr e)
 ·rw [Tr.put_other F n hl] at hm
  exact .inl ⟨ls, m, hm, e⟩
/-- What grow has done. -/
structure Grown (w : World) (B : Nat) (M : MB) (s : TSt) (ks ns : List ByteArray) (c : Int) (F : Tr) (w' : World) : Prop where
 mem : MemT w' B M { s with cnt := c, F := F }
 kp : Kp (fun i => i = M.b ∨ s.F.own i) w w'
 full : s.F ks = none → F ks = none
 cnt : s.cnt ≤ c
 own : ∀ i, F.own i → s.F.own i ∨ w.heap.size ≤ i
 ext : ∀ ls n, s.F ls = some n → F ls = some n
 new : ∀ ls n, F ls = some n → s.F ls = some n ∨ (n.dir = true ∧ ∃ i, i + 1 < ks.length ∧ ls = ks.take (i + 1) ∧ ns[i]? = some n.name)
theorem Grown.add {w w1 w2 : World} {B : Nat} {M : MB} {s : TSt} {ks ns : List ByteArray} {c : Int} {F : Tr} (h : Grown w B M s ks ns c F w1) {ls : List ByteArray} {n p : Nd} {qs : List ByteArray} (hp : F qs = some p) (hpd : p.dir = true) (hls : ls.length < ks.length) {i : Nat} (hi : i + 1 < ks.length) (hl : ls = ks.take (i + 1)) (hnm : ns[i]? = some n.name) (hnd : n.dir = true) (hfr : F ls = none)
  (hm : MemT w2 B M { s with cnt := c + 1, F := F.put ls n }) (hk : Kp (fun i => i = n.b ∨ i = p.kb ∨ i = M.b) w1 w2) (hb : w.heap.size ≤ n.b) (hkb : w.heap.size ≤ n.kb) : Grown w B M s ks ns (c + 1) (F.put ls n) w2 := by
 refine ⟨hm, h.kp.chain hk ?_, fun h0 => ?_, by have := h.cnt; omega, fun i hi => ?_, fun q m hq => ?_, fun q m hq => ?_⟩
 ·rintro i (rfl | rfl | rfl)
  ·exact .inr hb
  ·rcases h.own p.kb ⟨qs, p, hp, .inr ⟨hpd, rfl⟩⟩ with h1 | h1
   ·exact .inl (.inr h1)
   ·exact .inr h1
  ·exact .inl (.inl rfl)
 ·rw [Tr.put_other F n (fun e => by rw [e] at hls; omega)]
  exact h.full h0
 ·rcases put_own hi with h1 | rfl | rfl
  ·exact h.own i h1
  ·exact .inr hb
  ·exact .inr hkb
 ·have h1 := h.ext q m hq
  rw [Tr.put_other F n (fun e => by rw [e, hfr] at h1; cases h1)]
  exact h1
 ·by_cases e : q = ls
  ·rw [e, Tr.put_same] at hq
   injection hq with hq
   subst hq
   exact .inr ⟨hnd, i, hi, e.trans hl, hnm⟩
  ·rw [Tr.put_other F n e] at hq
   exact h.new q m hq
def GrowPost (w : World) (B : Nat) (M : MB) (s : TSt) (ks ns : List ByteArray) (e : Ending) (w' : World) : Prop :=
 ∃ (c : Int) (F : Tr) (n : Nd) (i0 : Nat) (n0 : Nd), e = .returned (ptr n.b) ∧ Grown w B M s ks ns c F w' ∧ (WayIs s.F ks i0 n0 ∧ c = s.cnt + ((ks.length : Int) - 1 - i0)) ∧ F ks.dropLast = some n ∧ n.dir = true
theorem dropLast_take {α : Type} {l : List α} {i : Nat} (h : i + 1 = l.length) : l.take i = l.dropLast := by
 rw [List.dropLast_eq_take]
 congr 1
 omega

set_option maxHeartbeats 4000000 in
set_option maxRecDepth 100000 in
theorem growT_any (w : World) (B : Nat) (M : MB) (s : TSt) (p : ByteArray) (hM : MemT w B M s) (hE : Env w) (hs : p.size ≤ 1024) (h0 : p.toList.isEmpty = false) (hc : 0 ≤ s.cnt ∧ s.cnt ≤ 5000) (hd : ∀ i n, WayIs s.F (kysOf s.f p) i n → n.dir = true) (hBw : B ≤ w.heap.size) :
  Calls Tryz.prog 78 #[ptr M.b, .string p] w (GrowPost w B M s (kysOf s.f p) (Wh.namesOf p)) := by
 have HM := Lib.hid hM
 have HW := Lib.hid (wayT_any w B M s p hM hE hs h0)
 unfold WayPost at HW
 have HP := Lib.hid (fun W (hb : Below w.heap.size w W) => partsT_any p W (hE.under hb) hs)
 unfold StrsNew at HP
 have HD := Lib.hid hd
 have HC := Lib.hid hc
 have HBw := Lib.hid hBw
 have HNs := Lib.hid (fun n (hn : n ∈ Wh.namesOf p) => show n.size ≤ 1024 from Nat.le_trans (names_size hn) hs)
 have HK := Lib.hid (fun k n (hn : (Wh.namesOf p)[k]? = some n) => keys_at s.f p hn)
 have hnl := Wh.namesOf_le p
 obtain ⟨N, hN⟩ : ∃ N, (Wh.namesOf p).length = N := ⟨_, rfl⟩
 have HNn := Lib.hid hN
 have HL : Hid ((kysOf s.f p).length = N) := Lib.hid (by rw [← hN]; simp [kysOf])
 rw [hN] at HP hnl
 have hN9 : N ≤ 1025 := by omega
 have hwr : wrap64 ((N : Int) - 1) = (N : Int) - 1 := IntWalk.wrap64_in _ ⟨by omega, by omega⟩
 clear hM hE hs h0 hc hd hN hnl hBw
 generalize kysOf s.f p = ks at *
 generalize Wh.namesOf p = ns at *
 go_enter Tryz.func78, Tryz.ntmps78
 go_upto_region 2 with (go_at_call 83; refine HW.out.mono ?_; rintro e w1 ⟨i0, n0, rfl, hw, hb1⟩; have HWy := Lib.hid hw; have HB1 := Lib.hid hb1; clear hw hb1)
 go_wp2_with (go_at_call 84; refine (HP.out _ HB1.out).mono ?_; rintro e w2 ⟨a, c, rfl, hcap, hH, hb2, ha0⟩; have HA0 : Hid (∀ ad, a = some ad → w.heap.size ≤ ad.block) := Lib.hid (fun ad h => Nat.le_trans HB1.out.size (ha0 ad h)); clear ha0; have HH := Lib.hid hH; have HB2 : Hid (Below w.heap.size w w2) := Lib.hid (bTrans HB1.out hb2); clear hH hb2)
 have HZ : Hid (w.heap.size ≤ w2.heap.size) := Lib.hid HB2.out.size
 have hi0 : i0 ≤ N := by have := HWy.out.1; have := HL.out; omega
 go_loopg [5, 6] (N - i0) (fun g s5 s6 wx => ∃ (i : Nat) (n : Nd) (cn : Int) (F : Tr), i + g = N ∧ s6 = .int .i64 i ∧ s5 = ptr n.b ∧ Hid (Holds wx a (ns.map Value.string)) ∧ Hid (Grown w B M s ks ns cn F wx) ∧ Hid (cn = s.cnt + ((i : Int) - i0)) ∧ Hid (WayIs F ks i n ∧ n.dir = true))
 case atStart => exact ⟨i0, n0, s.cnt, s.F, by omega, rfl, rfl, HH, Lib.hid ⟨HM.out.below HB2.out, Kp.of HB2.out, fun h => h, Int.le_refl _, fun i hi => .inl hi, fun _ _ h => h, fun _ _ h => .inl h⟩, Lib.hid (by omega), Lib.hid ⟨HWy.out, HD.out _ _ HWy.out⟩⟩
 case round =>
  obtain ⟨i, n, cn, F, hk, rfl, rfl, HHx, HG, HCn, HWx⟩ := hrel
  by_cases hlt : i + 1 < N
  ·obtain ⟨g, rfl⟩ : ∃ g, gk = g + 1 := ⟨gk - 1, by omega⟩
   obtain ⟨m, hm⟩ : ∃ m, ns[i]? = some m := ⟨_, List.getElem?_eq_getElem (by rw [HNn.out]; omega)⟩
   obtain ⟨ba, off, ha, hba, hca⟩ := HHx.out.at (k := i) (u := .string m) (by simp [hm])
   have hlt2 : (i : Int) < (N : Int) - 1 := by omega
   have hms := HNs.out m (List.mem_of_getElem? hm)
   have hky := HK.out i m hm
   have htk := take_snoc hky
   have hno : F (ks.take i ++ [kyOf s.f m]) = none := by
    rw [← htk]
    rcases HWx.out.1.2.2 with h | h
    ·have := HL.out; omega
    ·exact h
   obtain ⟨nb, hnb⟩ : ∃ nb, wr.heap.size = nb := ⟨_, rfl⟩
   have hbv : Below wr.heap.size wr (wr.alloc (.cells (nodeArr m true none none ⟨#[]⟩ 0 ⟨#[]⟩) 108)) := bAlloc (Below.refl _ _) _
   have hbx := BoxIs.new wr (nodeArr m true none none ⟨#[]⟩ 0 ⟨#[]⟩) 108
   have hwn : w.heap.size ≤ wr.heap.size := HG.out.kp.size
   rw [hnb] at hbx hwn
   have hcl := HCn.out
   have hii : (i : Int) - i0 ≤ 2000 := by omega
   have hcc := HC.out
   have hcg := HG.out.cnt
   have hBb := HBw.out
   have hnow : ¬ F.own nb := fun e => by have := HG.out.mem.tree.lt e; omega
   have HA := Lib.hid (addT_true _ B M { s with cnt := cn, F := F } (ks.take i) n nb m ⟨#[]⟩ (HG.out.mem.below hbv) HWx.out.1.2.1 HWx.out.2 hno hbx (by omega) hnow hms ⟨by simp only; omega, by simp only; omega⟩)
   have HHv := Lib.hid (HHx.out.under hbv)
   have HGv : Hid (Kp (fun i => i = M.b ∨ s.F.own i) w (wr.alloc (.cells (nodeArr m true none none ⟨#[]⟩ 0 ⟨#[]⟩) 108))) := Lib.hid (HG.out.kp.trans (Kp.of hbv))
   have HGq : Hid (Grown w B M s ks ns cn F (wr.alloc (.cells (nodeArr m true none none ⟨#[]⟩ 0 ⟨#[]⟩) 108))) := Lib.hid ⟨HG.out.mem.below hbv, HGv.out, HG.out.full, HG.out.cnt, HG.out.own, HG.out.ext, HG.out.new⟩
   have HZv : Hid (nb < (wr.alloc (.cells (nodeArr m true none none ⟨#[]⟩ 0 ⟨#[]⟩) 108)).heap.size) := Lib.hid hbx.lt
   have Hky := Lib.hid (And.intro hky htk)
   have HNm := Lib.hid hm
   have HBn := Lib.hid hno
   have Hwn := Lib.hid hwn
   have HGn : Hid (∀ ad, a = some ad → ¬ (ad.block = nb ∨ ad.block = n.kb ∨ ad.block = M.b)) := Lib.hid (by
    intro ad had
    rw [ha] at had
    injection had with had
    subst had
    have h1 := HA0.out _ ha
    rintro (e | e | e)
    ·rw [← hnb] at e; simp only at e; omega
    ·exact MapF.no_cell (HG.out.mem.tree.kids _ n HWx.out.1.2.1 HWx.out.2).1 (off + i) _ (by rw [← e]; exact hca)
    ·have h2 := HM.out.lt (.inl (.inl rfl)); simp only at h1 e; omega)
   have HBl : Hid (∀ x, F (ks.take i ++ [kyOf s.f m] ++ [x]) = none) := Lib.hid (fun x => HG.out.mem.tree.none_below hno [x])
   subst ha
   clear hbv hbx hwn hky htk hno hms hcl hii hcc hcg hBb hnow hm
   unfold nodeArr at HA HHv HGv HGq HZv
   go_wp2_with (go_at_call 77; (try rw [hnb]); refine HA.out.mono ?_; rintro e w3 ⟨kb, rfl, hm3, hk3, hkb⟩; have HM3 := Lib.hid hm3; have HK3 := Lib.hid hk3; have HKb := Lib.hid hkb; clear hm3 hk3 hkb)
   have hkl : w.heap.size ≤ kb := by
    rcases HKb.out with h | h
    ·rw [h]; exact Hwn.out
    ·have := HZv.out; have := Hwn.out; omega
   go_roundg g
   case measure => omega
   case rel =>
    refine ⟨i + 1, ⟨nb, kb, m, true, ⟨#[]⟩, 0, .slice none 0 0, ⟨#[]⟩⟩, cn + 1, _, by omega, by go_num, rfl, Lib.hid ?_, Lib.hid (HGq.out.add (p := n) (qs := ks.take i) HWx.out.1.2.1 HWx.out.2 ?_ (i := i) ?_ Hky.out.2.symm HNm.out rfl HBn.out HM3.out HK3.out Hwn.out hkl), Lib.hid ?_, Lib.hid ⟨⟨?_, ?_, ?_⟩, rfl⟩⟩
    ·exact HHv.out.kp HK3.out HGn.out
    ·have := HL.out
     simp
     omega
    ·have := HL.out
     omega
    ·have := HCn.out
     push_cast
     omega
    ·have := HL.out
     omega
    ·rw [Hky.out.2]
     exact Tr.put_same _ _ _
    ·have hl := HL.out
     rcases Nat.lt_or_ge (i + 2) N with h2 | h2
     ·right
      obtain ⟨x, hx⟩ : ∃ x, ks[i + 1]? = some x := ⟨_, List.getElem?_eq_getElem (by omega)⟩
      rw [take_snoc hx, Hky.out.2, Tr.put_other _ _ (by simp)]
      exact HBl.out x
     ·left
      omega
  ·go_wp2_with fail
   go_ret
   have hl := HL.out
   have hi1 : i + 1 = ks.length := by have := HWx.out.1.1; omega
   exact ⟨cn, F, n, i0, n0, rfl, HG.out, ⟨HWy.out, by have := HCn.out; have := HWx.out.1.1; omega⟩, by rw [← dropLast_take hi1]; exact HWx.out.1.2.1, HWx.out.2⟩
end Go.Proofs.YtchfhojighopkaaGreatDoor
namespace Go.Proofs.YtchfhojighopkaaGreatDoor
open Go.RowKit

/-- The error of a path at which a file is put. -/
def placeZ (f : Wh.Feat) (F : Tr) (ks : List ByteArray) (i : Nat) (n : Nd) : Int :=
 if n.dir = false then 5 else if (F ks).any (fun m => m.dir) = true then 5 else if hasB f 1 = true ∧ i + 1 < ks.length then 3 else 0
def PlacePost (f : Wh.Feat) (F : Tr) (ks : List ByteArray) (w : World) (e : Ending) (w' : World) : Prop :=
 ∃ (i : Nat) (n : Nd), e = .returned (.int .i64 (placeZ f F ks i n)) ∧ WayIs F ks i n ∧ Below w.heap.size w w'

set_option maxHeartbeats 4000000 in
set_option maxRecDepth 100000 in
theorem placeT_any (w : World) (B : Nat) (M : MB) (s : TSt) (p : ByteArray) (hM : MemT w B M s) (hE : Env w) (hs : p.size ≤ 1024) (h0 : p.toList.isEmpty = false) :
  Calls Tryz.prog 45 #[ptr M.b, .string p] w (PlacePost s.f s.F (kysOf s.f p) w) := by
 have HW := Lib.hid (wayT_any w B M s p hM hE hs h0)
 unfold WayPost at HW
 have HF := Lib.hid (fun W (hb : Below w.heap.size w W) => findT_any W B M s p (hM.below hb) (hE.under hb) hs)
 have HP := Lib.hid (fun W (hb : Below w.heap.size w W) => partsT_any p W (hE.under hb) hs)
 unfold StrsNew at HP
 have HH := Lib.hid (fun W (hb : Below w.heap.size w W) => has_any M.b s.f 1 W (hM.below hb).has)
 have HM := Lib.hid hM
 have hnl := Wh.namesOf_le p
 obtain ⟨N, hN⟩ : ∃ N, (Wh.namesOf p).length = N := ⟨_, rfl⟩
 have HL : Hid ((kysOf s.f p).length = N) := Lib.hid (by rw [← hN]; simp [kysOf])
 rw [hN] at HP hnl
 have hN9 : N ≤ 1025 := by omega
 have hwr : wrap64 ((N : Int) - 1) = (N : Int) - 1 := IntWalk.wrap64_in _ ⟨by omega, by omega⟩
 clear hM hE hs h0 hN hnl
 generalize kysOf s.f p = ks at *
 generalize Wh.namesOf p = ns at *
 go_enter Tryz.func45, Tryz.ntmps45
 go_upto_region 2 with (go_at_call 83; refine HW.out.mono ?_; rintro e w1 ⟨i, n, rfl, hw, hb1⟩; have HWy := Lib.hid hw; have HB1 := Lib.hid hb1; clear hw hb1)
 obtain ⟨_, c1, _, _⟩ := nd_cells ((HM.out.below HB1.out).tree.box _ _ HWy.out.2.1).1
 cases hd : n.dir with
 | false =>
  rw [hd] at c1
  go_wp2_with fail
  go_ret
  exact ⟨i, n, ret_int (by simp [placeZ, hd]), HWy.out, HB1.out⟩
 | true =>
  rw [hd] at c1
  go_upto_region 5 with (go_at_call 76; refine (HF.out _ HB1.out).mono ?_; rintro e w2 ⟨rfl, hb2⟩; have HB2 : Hid (Below w.heap.size w w2) := Lib.hid (bTrans HB1.out hb2); clear hb2)
  clear c1
  have hbr : ∀ m, s.F ks = some m → w2.cell? ⟨m.b, 1, none⟩ = some (.bool m.dir) := fun m hm => (nd_cells ((HM.out.below HB2.out).tree.box _ _ hm).1).2.1
  have HZ : Hid (∀ q : Bool, (s.F ks).any (fun m => m.dir) = false → placeZ s.f s.F ks i n = if hasB s.f 1 = true ∧ i + 1 < ks.length then 3 else 0) := Lib.hid (fun _ h => by unfold placeZ; rw [if_neg (by simp [hd]), if_neg (by simp [h])])
  cases hF : s.F ks with
  | some m =>
   have c2 := hbr m hF
   clear hbr
   cases hmd : m.dir with
   | true =>
    rw [hmd] at c2
    simp only [Option.map_some, adr]
    go_wp2_with fail
    go_ret
    exact ⟨i, n, ret_int (by simp [placeZ, hd, hF, hmd]), HWy.out, HB2.out⟩
   | false =>
    rw [hmd] at c2
    simp only [Option.map_some, adr]
    have HZ2 := HZ.out true (by rw [hF]; simp [hmd])
    rw [HL.out] at HZ2
    have HZ3 := Lib.hid HZ2
    clear HZ2
    cases ht : hasB s.f 1 with
    | false =>
     rw [ht] at HH
     go_wp2_with (go_at_call 22; refine (HH.out _ HB2.out).mono ?_; rintro e w' ⟨rfl, rfl⟩)
     go_ret
     exact ⟨i, n, ret_int (by rw [HZ3.out, if_neg (by simp [ht])]), HWy.out, HB2.out⟩
    | true =>
     rw [ht] at HH
     by_cases hlt : (i : Int) < (N : Int) - 1
     all_goals
      go_wp2_with (first | (go_at_call 22; refine (HH.out _ HB2.out).mono ?_; rintro e w' ⟨rfl, rfl⟩) | (go_at_call 84; refine (HP.out _ HB2.out).mono ?_; rintro e w3 ⟨a, c, rfl, hcap, hH, hb3, _⟩; clear hH))
      go_ret
     ·exact ⟨i, n, ret_int (by rw [HZ3.out, if_pos ⟨ht, by omega⟩]), HWy.out, bTrans HB2.out hb3⟩
     ·exact ⟨i, n, ret_int (by rw [HZ3.out, if_neg (fun h => by omega)]), HWy.out, bTrans HB2.out hb3⟩
  | none =>
   clear hbr
   simp only [Option.map_none]
   have HZ2 := HZ.out true (by rw [hF]; rfl)
   rw [HL.out] at HZ2
   have HZ3 := Lib.hid HZ2
   clear HZ2
   cases ht : hasB s.f 1 with
   | false =>
    rw [ht] at HH
    go_wp2_with (go_at_call 22; refine (HH.out _ HB2.out).mono ?_; rintro e w' ⟨rfl, rfl⟩)
    go_ret
    exact ⟨i, n, ret_int (by rw [HZ3.out, if_neg (by simp [ht])]), HWy.out, HB2.out⟩
   | true =>
    rw [ht] at HH
    by_cases hlt : (i : Int) < (N : Int) - 1
    all_goals
     go_wp2_with (first | (go_at_call 22; refine (HH.out _ HB2.out).mono ?_; rintro e w' ⟨rfl, rfl⟩) | (go_at_call 84; refine (HP.out _ HB2.out).mono ?_; rintro e w3 ⟨a, c, rfl, hcap, hH, hb3, _⟩; clear hH))
     go_ret
    ·exact ⟨i, n, ret_int (by rw [HZ3.out, if_pos ⟨ht, by omega⟩]), HWy.out, bTrans HB2.out hb3⟩
    ·exact ⟨i, n, ret_int (by rw [HZ3.out, if_neg (fun h => by omega)]), HWy.out, bTrans HB2.out hb3⟩

/-- How many nodes a file at a path adds. -/
def FreshIs (F : Tr) (ks : List ByteArray) (z : Int) : Prop := (F ks ≠ none ∧ z = 0) ∨ (F ks = none ∧ ∃ i n, WayIs F ks i n ∧ z = (ks.length : Int) - i)
def FreshPost (F : Tr) (ks : List ByteArray) (w : World) (e : Ending) (w' : World) : Prop := ∃ z : Int, e = .returned (.int .i64 z) ∧ FreshIs F ks z ∧ Below w.heap.size w w'
set_option maxHeartbeats 4000000 in
set_option maxRecDepth 100000 in
theorem freshT_any (w : World) (B : Nat) (M : MB) (s : TSt) (p : ByteArray) (hM : MemT w B M s) (hE : Env w) (hs : p.size ≤ 1024) (h0 : p.toList.isEmpty = false) :
  Calls Tryz.prog 47 #[ptr M.b, .string p] w (FreshPost s.F (kysOf s.f p) w) := by
 have HF := Lib.hid (findT_any w B M s p hM hE hs)
 have HW := Lib.hid (fun W (hb : Below w.heap.size w W) => wayT_any W B M s p (hM.below hb) (hE.under hb) hs h0)
 unfold WayPost at HW
 have HP := Lib.hid (fun W (hb : Below w.heap.size w W) => partsT_any p W (hE.under hb) hs)
 unfold StrsNew at HP
 have hnl := Wh.namesOf_le p
 obtain ⟨N, hN⟩ : ∃ N, (Wh.namesOf p).length = N := ⟨_, rfl⟩
 have HL : Hid ((kysOf s.f p).length = N) := Lib.hid (by rw [← hN]; simp [kysOf])
 rw [hN] at HP hnl
 have hN9 : N ≤ 1025 := by omega
 clear hM hE hs h0 hN hnl
 generalize kysOf s.f p = ks at *
 generalize Wh.namesOf p = ns at *
 cases hF : s.F ks with
 | some m =>
  rw [hF] at HF
  simp only [Option.map_some, adr] at HF
  go_enter Tryz.func47, Tryz.ntmps47
  go_wp2_with (go_at_call 76; refine HF.out.mono ?_; rintro e w1 ⟨rfl, hb1⟩)
  go_ret
  exact ⟨0, rfl, .inl ⟨by rw [hF]; simp, rfl⟩, hb1⟩
 | none =>
  rw [hF] at HF
  simp only [Option.map_none] at HF
  go_enter Tryz.func47, Tryz.ntmps47
  go_upto_region 3 with (go_at_call 76; refine HF.out.mono ?_; rintro e w1 ⟨rfl, hb1⟩)
  go_upto_region 4 with (go_at_call 83; refine (HW.out _ hb1).mono ?_; rintro e w2 ⟨i, n, rfl, hw, hb2⟩; have HWy := Lib.hid hw; clear hw)
  have hb12 := bTrans hb1 hb2
  have hil := HWy.out.1
  rw [HL.out] at hil
  have hwr : wrap64 ((N : Int) - (i : Int)) = (N : Int) - (i : Int) := IntWalk.wrap64_in _ ⟨by omega, by omega⟩
  clear hb1 hb2
  go_wp2_with (go_at_call 84; refine (HP.out _ hb12).mono ?_; rintro e w3 ⟨a, c, rfl, hcap, hH, hb3, _⟩; clear hH)
  go_ret
  exact ⟨(N : Int) - i, rfl, .inr ⟨hF, i, n, HWy.out, by rw [HL.out]⟩, bTrans hb12 hb3⟩
end Go.Proofs.YtchfhojighopkaaGreatDoor
namespace Go.Proofs.YtchfhojighopkaaGreatDoor
open Go.RowKit

def metaRow (m : ByteArray × ByteArray) : List Value := [.string m.1, .string m.2]
theorem metaRow_at {w : World} {a : Option Addr} {ms : List (ByteArray × ByteArray)} (h : HoldsR w a 2 (ms.map metaRow)) {k : Nat} {m : ByteArray × ByteArray} (hk : ms[k]? = some m) :
  ∃ b off, a = some ⟨b, off, none⟩ ∧ b < w.heap.size ∧ w.cell? ⟨b, off + k * 2, none⟩ = some (.string m.1) ∧ w.cell? ⟨b, off + k * 2 + 1, none⟩ = some (.string m.2) := by
 obtain ⟨b, off, ha, hb, hc⟩ := h.at (k := k) (row := metaRow m) (by simp [hk])
 exact ⟨b, off, ha, hb, hc 0 _ rfl, hc 1 _ rfl⟩
set_option maxHeartbeats 4000000 in
set_option maxRecDepth 100000 in
theorem metaForm_any (ms : List (ByteArray × ByteArray)) (a : Option Addr) (c : Nat) (w : World) (_hlc : ms.length ≤ c) (hH : HoldsR w a 2 (ms.map metaRow)) :
  Calls Tryz.prog 46 #[.slice a ms.length c] w fun e w' => (∃ t, e = .returned (.bool t) ∧ (ms = [] → t = true) ∧ (t = true → ms.length ≤ 10)) ∧ Below w.heap.size w w' := by
 have HH := Lib.hid hH
 clear hH
 have HNil : Hid (ms = [] → ms.length = 0) := Lib.hid (fun h => by rw [h]; rfl)
 by_cases hbig : 10 < ms.length
 ·go_enter Tryz.func46, Tryz.ntmps46
  go_wp2_with fail
  go_ret
  exact ⟨⟨false, rfl, fun h => by have := HNil.out h; omega, fun h => by cases h⟩, Below.refl _ _⟩
 ·go_enter Tryz.func46, Tryz.ntmps46
  go_wp2_with fail
  go_loopg [10] ms.length (fun g i wx => ∃ k : Nat, k + g = ms.length ∧ i = .int .i64 k ∧ Below w.heap.size w wx)
  case atStart => exact ⟨0, by omega, rfl, Below.refl _ _⟩
  case round =>
   obtain ⟨k, hk, rfl, hb⟩ := hrel
   by_cases hlt : k < ms.length
   ·obtain ⟨g, rfl⟩ : ∃ g, gk = g + 1 := ⟨gk - 1, by omega⟩
    obtain ⟨m, hm⟩ : ∃ m, ms[k]? = some m := ⟨_, List.getElem?_eq_getElem hlt⟩
    obtain ⟨ba, off, ha, hba, hc0, hc1⟩ := metaRow_at (HH.out.under hb) hm
    have hp : 0 < k → ∃ q, ms[k - 1]? = some q := fun h => ⟨_, List.getElem?_eq_getElem (by omega)⟩
    clear hm
    have hb2 : Below wr.heap.size wr (wr.alloc (.cells #[.string m.1, .string m.2] 152)) := bAlloc (Below.refl _ _) _
    have hb3 := bTrans hb hb2
    go_upto_region 6 with fail
    obtain ⟨z, hz⟩ : ∃ z, wr.heap.size = z := ⟨_, rfl⟩
    have d0 : (wr.alloc (.cells #[.string m.1, .string m.2] 152)).cell? ⟨z, 0, none⟩ = some (.string m.1) := by rw [← hz, World.cell?_alloc_at _ _ _ _ rfl]; rfl
    have d1 : (wr.alloc (.cells #[.string m.1, .string m.2] 152)).cell? ⟨z, 1, none⟩ = some (.string m.2) := by rw [← hz, World.cell?_alloc_at _ _ _ _ rfl]; rfl
    have HHv := Lib.hid (HH.out.under hb3)
    rw [hz]
    clear hc0 hc1 hba hb2 hz
    generalize wr.alloc (.cells #[.string m.1, .string m.2] 152) = w2 at *
    have HFin : Hid (∀ (e : Ending) (n : Nat), e = .returned (.bool false) → (∃ t, e = .returned (.bool t) ∧ (ms = [] → t = true) ∧ (t = true → ms.length ≤ 10)) ∧ Below w.heap.size w (w2.drewN n)) := Lib.hid (fun e n h => ⟨⟨false, h, fun h => by have := HNil.out h; omega, fun h => by cases h⟩, bDrewN hb3 n⟩)
    obtain ⟨q, hq⟩ : ∃ q : ByteArray × ByteArray, 0 < k → ms[k - 1]? = some q := by
     by_cases h : 0 < k
     ·obtain ⟨q, hq⟩ := hp h; exact ⟨q, fun _ => hq⟩
     ·exact ⟨m, fun h2 => absurd h2 h⟩
    have HQ : Hid (0 < k → w2.cell? ⟨ba, off + (k - 1) * 2, none⟩ = some (.string q.1)) := Lib.hid (fun h => by
     obtain ⟨bq, offq, haq, hbq, hq0, hq1⟩ := metaRow_at HHv.out (hq h)
     rw [ha] at haq
     injection haq with haq
     injection haq with h1 h2
     subst h1 h2
     exact hq0)
    subst ha
    clear hp hq
    by_cases t4 : k = 0
    ·subst t4
     cases t1 : m.1.toList.isEmpty with
     | true =>
      go_quiet (fail)
      go_wp2_with fail
      go_ret
      exact HFin.out _ _ rfl
     | false =>
      cases t2 : decide ((64 : Int) < (m.1.size : Int)) with
      | true =>
       go_quiet (fail)
       go_wp2_with fail
       go_ret
       exact HFin.out _ _ rfl
      | false =>
       cases t3 : decide ((1000 : Int) < (m.2.size : Int)) with
       | true =>
        go_quiet (fail)
        go_wp2_with fail
        go_ret
        exact HFin.out _ _ rfl
       | false =>
        go_quiet (fail)
        go_wp2_with fail
        go_roundg g
        case measure => omega
        case rel => exact ⟨1, by omega, by go_num, bDrewN hb3 _⟩
    ·have hq0 := HQ.out (by omega)
     obtain ⟨j, rfl⟩ : ∃ j, k = j + 1 := ⟨k - 1, by omega⟩
     rw [show j + 1 - 1 = j by omega] at hq0
     have hj : (((j + 1 : Nat) : Int) - 1) = (j : Int) := by omega
     cases t1 : m.1.toList.isEmpty with
     | true =>
      go_quiet (fail)
      go_wp2_with fail
      go_ret
      exact HFin.out _ _ rfl
     | false =>
      cases t2 : decide ((64 : Int) < (m.1.size : Int)) with
      | true =>
       go_quiet (fail)
       go_wp2_with fail
       go_ret
       exact HFin.out _ _ rfl
      | false =>
       cases t3 : decide ((1000 : Int) < (m.2.size : Int)) with
       | true =>
        go_quiet (fail)
        go_wp2_with fail
        go_ret
        exact HFin.out _ _ rfl
       | false =>
        have t4 : decide ((0 : Int) < ((j + 1 : Nat) : Int)) = true := by simp
        go_quiet (fail)
        generalize (Op.bytesLess m.1.toList q.1.toList || m.1.toList == q.1.toList) = t5
        cases t5 with
        | true =>
         go_wp2_with fail
         go_ret
         exact HFin.out _ _ rfl
        | false =>
         go_wp2_with fail
         go_roundg g
         case measure => omega
         case rel => exact ⟨j + 1 + 1, by omega, by go_num, bDrewN hb3 _⟩
   ·go_wp2_with fail
    go_ret
    exact ⟨⟨true, rfl, fun _ => rfl, fun _ => by omega⟩, hb⟩

/-- The error of a Put. -/
def PutZ (f : Wh.Feat) (F : Tr) (ks : List ByteArray) (cnt : Int) (n : Nat) (ms : List (ByteArray × ByteArray)) (z : Int) : Prop :=
 ∃ i nd, WayIs F ks i nd ∧ ((placeZ f F ks i nd ≠ 0 ∧ z = placeZ f F ks i nd) ∨ (placeZ f F ks i nd = 0 ∧ ((z = 6 ∧ ms ≠ []) ∨ (z = 8 ∧ f.maxSize < (n : Int)) ∨ ((n : Int) ≤ f.maxSize ∧ ms.length ≤ 10 ∧ ∃ fr, FreshIs F ks fr ∧ z = if 5000 < cnt + fr then 14 else 0))))
set_option maxHeartbeats 4000000 in
set_option maxRecDepth 100000 in
theorem putFaultT_any (n : Nat) (ms : List (ByteArray × ByteArray)) (a : Option Addr) (c : Nat) (w : World) (B : Nat) (M : MB) (s : TSt) (p : ByteArray) (hM : MemT w B M s) (hE : Env w) (hs : p.size ≤ 1024) (h0 : p.toList.isEmpty = false) (hc : 0 ≤ s.cnt ∧ s.cnt ≤ 5000) (hlc : ms.length ≤ c) (hH : HoldsR w a 2 (ms.map metaRow)) :
  Calls Tryz.prog 23 #[ptr M.b, .string p, .int .i64 n, .slice a ms.length c] w fun e w' => ∃ z : Int, e = .returned (.int .i64 z) ∧ PutZ s.f s.F (kysOf s.f p) s.cnt n ms z ∧ Below w.heap.size w w' := by
 have HP := Lib.hid (placeT_any w B M s p hM hE hs h0)
 unfold PlacePost at HP
 have HF := Lib.hid (fun W (hb : Below w.heap.size w W) => freshT_any W B M s p (hM.below hb) (hE.under hb) hs h0)
 unfold FreshPost at HF
 have HMf := Lib.hid (fun W (hb : Below w.heap.size w W) => metaForm_any ms a c W hlc (hH.under hb))
 have HM := Lib.hid hM
 have HFr : Hid (∀ z, FreshIs s.F (kysOf s.f p) z → 0 ≤ z ∧ z ≤ 1025) := Lib.hid (fun z h => by
  have h1 := Wh.namesOf_le p
  have h2 : (kysOf s.f p).length = (Wh.namesOf p).length := by simp [kysOf]
  rcases h with ⟨_, rfl⟩ | ⟨_, i, nd, hw, rfl⟩
  ·omega
  ·have := hw.1
   omega)
 obtain ⟨cn, hcn⟩ : ∃ cn, s.cnt = cn := ⟨_, rfl⟩
 obtain ⟨mx, hmx⟩ : ∃ mx, s.f.maxSize = mx := ⟨_, rfl⟩
 obtain ⟨hc1, hc2⟩ : 0 ≤ cn ∧ cn ≤ 5000 := by omega
 have HQ : Hid (∀ z, PutZ s.f s.F (kysOf s.f p) s.cnt n ms z = ∃ i nd, WayIs s.F (kysOf s.f p) i nd ∧ ((placeZ s.f s.F (kysOf s.f p) i nd ≠ 0 ∧ z = placeZ s.f s.F (kysOf s.f p) i nd) ∨ (placeZ s.f s.F (kysOf s.f p) i nd = 0 ∧ ((z = 6 ∧ ms ≠ []) ∨ (z = 8 ∧ mx < (n : Int)) ∨ ((n : Int) ≤ mx ∧ ms.length ≤ 10 ∧ ∃ fr, FreshIs s.F (kysOf s.f p) fr ∧ z = if 5000 < cn + fr then 14 else 0))))) := Lib.hid (fun z => by rw [← hcn, ← hmx]; rfl)
 have HCn := Lib.hid hcn
 have HMx := Lib.hid hmx
 generalize PutZ s.f s.F (kysOf s.f p) s.cnt n ms = Z at *
 clear hM hE hs h0 hc hlc hH hcn hmx
 generalize kysOf s.f p = ks at *
 go_enter Tryz.func23, Tryz.ntmps23
 go_upto_region 2 with (go_at_call 45; refine HP.out.mono ?_; rintro e w1 ⟨i, nd, rfl, hw, hb1⟩; have HWy := Lib.hid hw; have HB1 := Lib.hid hb1; clear hw hb1)
 obtain ⟨pz, hpz⟩ : ∃ pz, placeZ s.f s.F ks i nd = pz := ⟨_, rfl⟩
 rw [hpz]
 by_cases hp0 : pz = 0
 case neg =>
  have hp1 : (pz != 0) = true := by simp [hp0]
  go_wp2_with fail
  go_ret
  exact ⟨pz, rfl, by rw [HQ.out]; exact ⟨i, nd, HWy.out, .inl ⟨by rw [hpz]; exact hp0, hpz.symm⟩⟩, HB1.out⟩
 case pos =>
  subst hp0
  have HPz := Lib.hid hpz
  clear hpz
  have HM1 := Lib.hid (HM.out.below HB1.out)
  have c5 := HM1.out.msize
  have c11 := HM1.out.count
  rw [HMx.out] at c5
  rw [HCn.out] at c11
  have HBk : Hid (∀ W, Below w1.heap.size w1 W → W.cell? ⟨M.b, 5, none⟩ = some (.int .i64 mx) ∧ W.drew.cell? ⟨M.b, 11, none⟩ = some (.int .i64 cn) ∧ Below w.heap.size w W) := Lib.hid (fun W hb => ⟨cell_kp (Kp.of (F := fun _ => False) hb) c5 (fun e => e), show W.cell? _ = _ from cell_kp (Kp.of (F := fun _ => False) hb) c11 (fun e => e), bTrans HB1.out hb⟩)
  clear c5 c11
  go_upto_region 4 with fail
  go_cut [17] (fun s17 wx => ∃ t : Bool, s17 = .bool (!t) ∧ (ms = [] → t = true) ∧ (t = true → ms.length ≤ 10) ∧ Below w1.heap.size w1 wx)
  case first =>
   go_wp2_with (go_at_call 46; refine (HMf.out _ HB1.out).mono ?_; rintro e w2 ⟨⟨t, rfl, ht, ht2⟩, hb2⟩)
   go_meet
   exact ⟨t, rfl, ht, ht2, hb2⟩
  case rest =>
   obtain ⟨t, rfl, ht, ht2, hb2⟩ := hcut
   have HT := Lib.hid ht
   have HT2 := Lib.hid ht2
   obtain ⟨c5, c11, hbw⟩ := HBk.out _ hb2
   clear ht ht2 hb2
   cases t
   case false =>
    go_wp2_with fail
    go_ret
    exact ⟨6, rfl, by rw [HQ.out]; exact ⟨i, nd, HWy.out, .inr ⟨HPz.out, .inl ⟨rfl, fun h => by cases HT.out h⟩⟩⟩, hbw⟩
   case true =>
    by_cases hbig : mx < (n : Int)
    ·go_wp2_with fail
     go_ret
     exact ⟨8, rfl, by rw [HQ.out]; exact ⟨i, nd, HWy.out, .inr ⟨HPz.out, .inr (.inl ⟨rfl, hbig⟩)⟩⟩, hbw⟩
    ·go_upto_region 8 with fail
     have hbwd : Below w.heap.size w wc.drew := ⟨hbw.os, hbw.tape, hbw.output, hbw.size, hbw.block⟩
     clear c5
     --R8
     refine wp_region_seq (fun W => W.cell? ⟨M.b, 11, none⟩ = some (.int .i64 cn)) [(0, true), (1, true), (2, true), (3, true), (4, true), (5, true), (6, false), (7, true), (8, true), (9, true)] (by as_aux_lemma => kernel_rfl) (by as_aux_lemma => kernel_rfl) (by decide) (by as_aux_lemma => kernel_rfl) c11 ?_
     intro OPS HO
     iterate 6
      refine seq_take (o := ⟨_, _, _, _, _, _⟩) (v := ?_) (by rw [HO.out]; rfl) (by rfl) ?_ ?_
      rotate_left 1
      ·first | ((intro W _; go_simp) <;> with_reducible rfl) | (intro W hW; skip; (go_simp <;> with_reducible rfl))
      try simp only [Act.put, List.setIfInBounds_toArray, List.set_cons_zero, List.set_cons_succ]
     refine seq_do (o := ⟨_, _, _, _, _, _⟩) (by rw [HO.out]; rfl) (by rfl) (fun K hK => ?_)
     go_wp2_with (go_at_call 47; refine (HF.out _ hbwd).mono ?_; rintro e w2 ⟨fr, rfl, hfr, hb9⟩)
     have hS : w2.cell? ⟨M.b, 11, none⟩ = some (.int .i64 cn) := cell_kp (Kp.of (F := fun _ => False) hb9) c11 (fun e => e)
     obtain ⟨hf1, hf2⟩ := HFr.out _ hfr
     have hw1 : IntKind.i64.wrap (cn + fr) = cn + fr := IntWalk.i64_in _ (by omega)
     have hw2 : wrap64 (cn + fr) = cn + fr := IntWalk.wrap64_in _ ⟨by omega, by omega⟩
     have HFrs := Lib.hid hfr
     clear hfr
     refine hK.out _ _ hS (fun _ => ?_)
     clear hK K
     iterate 3
      try simp only [Act.put, List.setIfInBounds_toArray, List.set_cons_zero, List.set_cons_succ]
      refine seq_take (o := ⟨_, _, _, _, _, _⟩) (v := ?_) (by rw [HO.out]; rfl) (by rfl) ?_ ?_
      rotate_left 1
      ·first | ((intro W _; go_simp) <;> with_reducible rfl) | (intro W hW; skip; (go_simp <;> with_reducible rfl))
     try simp only [Act.put, List.setIfInBounds_toArray, List.set_cons_zero, List.set_cons_succ]
     refine seq_done ?_
     --ENDR8
     have hb12 := bTrans hbwd hb9
     by_cases h5 : 5000 < cn + fr
     ·go_wp2_with fail
      go_ret
      exact ⟨14, rfl, by rw [HQ.out]; exact ⟨i, nd, HWy.out, .inr ⟨HPz.out, .inr (.inr ⟨by omega, HT2.out trivial, fr, HFrs.out, by rw [if_pos h5]⟩)⟩⟩, hb12⟩
     ·go_wp2_with fail
      go_ret
      exact ⟨0, rfl, by rw [HQ.out]; exact ⟨i, nd, HWy.out, .inr ⟨HPz.out, .inr (.inr ⟨by omega, HT2.out trivial, fr, HFrs.out, by rw [if_neg (by omega)]⟩)⟩⟩, hb12⟩
end Go.Proofs.YtchfhojighopkaaGreatDoor
namespace Go.Proofs.YtchfhojighopkaaGreatDoor
open Go.RowKit

theorem cloneM_nil (w : World) : Calls Tryz.prog 74 #[.slice none 0 0] w fun e w' => e = .returned (.slice none 0 0) ∧ w' = w := by
 have hnil := fun W n c => Lib.run_eql_slice_nil (P := Tryz.prog) W 35 152 none n c 0 0 Tryz.underlying35
 go_enter Tryz.func74, Tryz.ntmps74
 go_wp2_with fail
 go_ret
 exact ⟨rfl, rfl⟩
theorem MemT.remade {w : World} {B : Nat} {M : MB} {s : TSt} (h : MemT w B M s) (n : Int) : MemT (w.setCell ⟨M.b, 12, none⟩ (.int .i64 n)) B M { s with made := n } := by
 have hk : Kp (fun i => i = M.b) w (w.setCell ⟨M.b, 12, none⟩ (.int .i64 n)) := (Kp.refl (fun i => i = M.b) w).set (b := M.b) (.inl rfl) 12 _
 obtain ⟨b1, b2, b3, b4⟩ := h.b_ne
 exact ⟨h.box.putAt 12 (.int .i64 n), h.clk.kp hk (fun e => b3 e.symm), h.ca.kp hk (fun e => b1 e.symm), h.si.kp hk (fun e => b2 e.symm), h.ne1, h.tree.kp hk (fun i hi e => b4 (e ▸ hi)), h.lo⟩
theorem MemT.turn {w w' : World} {B : Nat} {M : MB} {s : TSt} (h : MemT w B M s) {ks : List ByteArray} {m n : Nd} (hm : s.F ks = some m) (hb : n.b = m.b) (hkb : n.kb = m.kb) (hd : n.dir = m.dir) (hn : n.name = m.name)
  (hbox : BoxIs w' n.b (ndArr n (s.F.up ks)) 108) (hk : Kp (fun i => i = m.b) w w') : MemT w' B M { s with F := s.F.put ks n } := by
 have ho : s.F.own m.b := ⟨ks, m, hm, .inl rfl⟩
 obtain ⟨b1, b2, b3, b4⟩ := h.b_ne
 exact ⟨h.box.kp hk (fun e => b4 (e ▸ ho)), h.clk.kp hk (fun e => h.cb_ne (e ▸ ho)), h.ca.kp hk (fun e => h.ca_ne.2 (e ▸ ho)), h.si.kp hk (fun e => h.si_ne.2 (e ▸ ho)), h.ne1, h.tree.turn hm hb hkb hd hn hbox hk (fun i e => .inl e), h.lo⟩
theorem Tr.put_put (F : Tr) (ks : List ByteArray) (m n : Nd) : (F.put ks m).put ks n = F.put ks n := by
 funext ls
 unfold Tr.put
 by_cases h : ls = ks
 ·rw [if_pos h, if_pos h]
 ·rw [if_neg h, if_neg h, if_neg h]
theorem keys_last {f : Wh.Feat} {p : ByteArray} (h0 : p.toList.isEmpty = false) : kysOf f p = (kysOf f p).dropLast ++ [kyOf f (Wh.lastOf p)] := by
 have h := lastOf_is h0
 unfold kysOf
 rcases List.eq_nil_or_concat (Wh.namesOf p) with hn | ⟨l, x, hl⟩
 ·rw [hn] at h; cases h
 ·rw [hl, List.concat_eq_append] at h ⊢
  rw [List.getLast?_append] at h
  simp at h
  simp [h]
theorem lastOf_size {p : ByteArray} (h0 : p.toList.isEmpty = false) : (Wh.lastOf p).size ≤ p.size := names_size (List.mem_of_getLast? (lastOf_is h0))
theorem HoldsR.kp {G : Nat → Prop} {w w' : World} {a : Option Addr} {n : Nat} {xs : List (List Value)} (h : HoldsR w a n xs) (hk : Kp G w w') (hG : ∀ ad, a = some ad → ¬ G ad.block) : HoldsR w' a n xs := by
 rcases h with rfl | ⟨b, off, ha, hb, hc⟩
 ·exact .inl rfl
 ·exact .inr ⟨b, off, ha, Nat.lt_of_lt_of_le hb hk.size, fun k row hr j u hu => cell_kp hk (hc k row hr j u hu) (hG ⟨b, off, Option.none⟩ ha)⟩
/-- What setFile of a new path has done. -/
def SetPost (w : World) (B : Nat) (M : MB) (s : TSt) (ks ns : List ByteArray) (d : ByteArray) (t : Int) (e : Ending) (w' : World) : Prop :=
 ∃ (c : Int) (F : Tr) (n : Nd) (i0 : Nat) (n0 : Nd), e = .returned (ptr n.b) ∧ MemT w' B M { s with made := s.made + 1, cnt := c, F := F } ∧ WayIs s.F ks i0 n0 ∧ c = s.cnt + ((ks.length : Int) - i0) ∧ F ks = some n ∧ (n.dir = false ∧ n.data = d ∧ n.time = t ∧ n.mt = .slice none 0 0) ∧ Kp (fun i => i = M.b ∨ s.F.own i) w w' ∧ (∀ i, F.own i → s.F.own i ∨ w.heap.size ≤ i) ∧ ns.getLast? = some n.name ∧ (∀ ls m, s.F ls = some m → F ls = some m) ∧ ∀ ls m, F ls = some m → s.F ls = some m ∨ ls = ks ∨ (m.dir = true ∧ ∃ i, i + 1 < ks.length ∧ ls = ks.take (i + 1) ∧ ns[i]? = some m.name)

set_option maxHeartbeats 8000000 in
set_option maxRecDepth 100000 in
theorem setFileT_new (w0 w : World) (M : MB) (s : TSt) (p d : ByteArray) (t : Int) (hb0 : Below w0.heap.size w0 w) (hM : MemT w w0.heap.size M s) (hE : Env w0) (hT : EnvT w0) (hs : p.size ≤ 1024) (h0 : p.toList.isEmpty = false) (hF : s.F (kysOf s.f p) = none)
  (hc : 0 ≤ s.cnt ∧ s.cnt ≤ 5000) (hmd : 0 ≤ s.made ∧ s.made ≤ 1000000) (hd : ∀ i n, WayIs s.F (kysOf s.f p) i n → n.dir = true) :
  Calls Tryz.prog 43 #[ptr M.b, .string p, .string d, .int .i64 t, .slice none 0 0] w (SetPost w w0.heap.size M s (kysOf s.f p) (Wh.namesOf p) d t) := by
 have hEw : Env w := hE.below hb0 (Nat.le_refl _)
 have HF := Lib.hid (findT_any w w0.heap.size M s p hM hEw hs)
 rw [hF] at HF
 simp only [Option.map_none] at HF
 obtain ⟨n1, hn1⟩ : ∃ n1 : Int, s.made + 1 = n1 := ⟨_, rfl⟩
 have e1 : wrap64 (s.made + 1) = n1 := by rw [IntWalk.wrap64_in _ ⟨by omega, by omega⟩]; exact hn1
 have hn2 : 0 ≤ n1 ∧ n1 ≤ 1000001 := by omega
 have HN1 := Lib.hid hn1
 have HIt := Lib.hid (fun W (hb : Below w0.heap.size w0 W) => itoa_any n1 W (Lib.tabBelow_of_tabIs hT W hb) (by omega) (by omega))
 have HLa := Lib.hid (fun W => lastT_any p W hs)
 have HLs := Lib.hid (And.intro (keys_last (f := s.f) h0) (lastOf_size h0))
 have HLn := Lib.hid (lastOf_is h0)
 have HGr := Lib.hid (fun W (hM : MemT W w0.heap.size M { s with made := n1 }) (hE : Env W) (hBw : w0.heap.size ≤ W.heap.size) => growT_any W w0.heap.size M { s with made := n1 } p hM hE hs h0 hc hd hBw)
 unfold GrowPost at HGr
 have HCl := Lib.hid cloneM_nil
 have HM := Lib.hid hM
 have HB0 := Lib.hid hb0
 have HEe := Lib.hid hE
 have HF0 := Lib.hid hF
 have HCc := Lib.hid hc
 have HSs := Lib.hid hs
 have HKl : Hid ((kysOf s.f p).length ≤ 1025) := Lib.hid (by
  have h1 := Wh.namesOf_le p
  have h2 : (kysOf s.f p).length = (Wh.namesOf p).length := by simp [kysOf]
  omega)
 obtain ⟨hasv, hhas⟩ : ∃ b, hasB s.f 256 = b := ⟨_, rfl⟩
 have HHs := Lib.hid (fun W (h : W.cell? ⟨M.b, 0, none⟩ = some (.int .i64 s.f.has)) => has_any M.b s.f 256 W h)
 rw [hhas] at HHs
 clear hM hE hT hs h0 hF hc hmd hd hb0 hEw hn1 hhas
 obtain ⟨nm, hnm⟩ : ∃ nm, Wh.lastOf p = nm := ⟨_, rfl⟩
 rw [hnm] at HLa HLs HLn
 clear hnm
 generalize kysOf s.f p = ks at *
 generalize Wh.namesOf p = ns at *
 go_enter Tryz.func43, Tryz.ntmps43
 go_upto_region 3 with (go_at_call 76; refine HF.out.mono ?_; rintro e w1 ⟨rfl, hb1⟩)
 have HM1 := Lib.hid (HM.out.below hb1)
 have HB1 := Lib.hid hb1
 have c12 : w1.cell? ⟨M.b, 12, none⟩ = some (.int .i64 s.made) := HM1.out.madec
 have f12 : w1.frozen? ⟨M.b, 12, none⟩ = false := Lib.frozen_of_heap HM1.out.box 12
 clear hb1
 go_upto_region 4 with fail
 have HM2 : Hid (MemT (w1.setCell ⟨M.b, 12, none⟩ (.int .i64 n1)) w0.heap.size M { s with made := n1 }) := Lib.hid (HM1.out.remade n1)
 have HK2 : Hid (Kp (fun i => i = M.b ∨ s.F.own i) w (w1.setCell ⟨M.b, 12, none⟩ (.int .i64 n1))) := Lib.hid ((Kp.of HB1.out).set (b := M.b) (.inl (.inl rfl)) 12 _)
 clear c12 f12 HM1
 generalize w1.setCell ⟨M.b, 12, none⟩ (.int .i64 n1) = w2 at *
 have hlo : ∀ i, (i = M.b ∨ s.F.own i) → w0.heap.size ≤ i := fun i h => h.elim (fun h => by rw [h]; exact HM.out.lo.1) (fun h => HM.out.tree.lo h)
 have HLo := Lib.hid hlo
 have hb2 : Below w0.heap.size w0 w2 := HB0.out.trans (HK2.out.below hlo HB0.out.size)
 have HB2d : Hid (Below w0.heap.size w0 w2.drew) := Lib.hid ⟨hb2.os, hb2.tape, hb2.output, hb2.size, hb2.block⟩
 have HGr2 := Lib.hid (HGr.out w2.drew HM2.out.drew (HEe.out.below HB2d.out (Nat.le_refl _)) hb2.size)
 have s12 : w2.drew.cell? ⟨M.b, 12, none⟩ = some (.int .i64 n1) := HM2.out.madec
 clear hlo hb2 HGr e1
 refine wp_region_seq (fun W => W.cell? ⟨M.b, 12, none⟩ = some (.int .i64 n1)) [(0, true), (1, true), (2, true), (4, true), (6, true), (7, true), (8, true), (9, true), (3, false), (5, false), (10, false), (11, true), (12, false), (13, false), (14, true)] (by as_aux_lemma => kernel_rfl) (by as_aux_lemma => kernel_rfl) (by decide) (by as_aux_lemma => kernel_rfl) s12 ?_
 intro OPS HO
 iterate 8
  refine seq_take (o := ⟨_, _, _, _, _, _⟩) (v := ?_) (by rw [HO.out]; rfl) (by rfl) ?_ ?_
  rotate_left 1
  ·first | ((intro W _; go_simp) <;> with_reducible rfl) | (intro W hW; skip; (go_simp <;> with_reducible rfl))
  try simp only [Act.put, List.setIfInBounds_toArray, List.set_cons_zero, List.set_cons_succ]
 refine seq_do (o := ⟨_, _, _, _, _, _⟩) (by rw [HO.out]; rfl) (by rfl) (fun K hK => ?_)
 go_wp2_with (go_at_call 78; refine HGr2.out.mono ?_; rintro e w3 ⟨c3, F3, n3, i0, n0, rfl, hg3, hw3, hl3, hd3⟩; have HG3 := Lib.hid hg3; have HWc3 := Lib.hid hw3; have HL3 := Lib.hid (And.intro hl3 hd3); clear hg3 hw3 hl3 hd3)
 have hS : w3.cell? ⟨M.b, 12, none⟩ = some (.int .i64 n1) := HG3.out.mem.madec
 refine hK.out _ _ hS (fun _ => ?_)
 clear hK K
 try simp only [Act.put, List.setIfInBounds_toArray, List.set_cons_zero, List.set_cons_succ]
 refine seq_do (o := ⟨_, _, _, _, _, _⟩) (by rw [HO.out]; rfl) (by rfl) (fun K hK => ?_)
 go_wp2_with (go_at_call 79; refine (HLa.out _).mono ?_; rintro e w' ⟨rfl, hw⟩; (have hw2 := hw.symm; clear hw; subst hw2))
 refine hK.out _ _ hS (fun _ => ?_)
 clear hK K
 try simp only [Act.put, List.setIfInBounds_toArray, List.set_cons_zero, List.set_cons_succ]
 refine seq_do (o := ⟨_, _, _, _, _, _⟩) (by rw [HO.out]; rfl) (by rfl) (fun K hK => ?_)
 have hbw3 : Below w0.heap.size w0 w3 := HB2d.out.trans (HG3.out.kp.below HLo.out HB2d.out.size)
 go_wp2_with (go_at_call 25; refine (HIt.out _ hbw3).mono ?_; rintro e w4 ⟨rfl, hb4⟩)
 replace hS : w4.cell? ⟨M.b, 12, none⟩ = some (.int .i64 n1) := cell_kp (Kp.of (F := fun _ => False) hb4) hS (fun e => e)
 refine hK.out _ _ hS (fun _ => ?_)
 clear hK K
 try simp only [Act.put, List.setIfInBounds_toArray, List.set_cons_zero, List.set_cons_succ]
 refine seq_take (o := ⟨_, _, _, _, _, _⟩) (v := ?_) (by rw [HO.out]; rfl) (by rfl) ?_ ?_
 rotate_left 1
 ·first | ((intro W _; go_simp) <;> with_reducible rfl) | (intro W hW; skip; (go_simp <;> with_reducible rfl))
 try simp only [Act.put, List.setIfInBounds_toArray, List.set_cons_zero, List.set_cons_succ]
 refine seq_do (o := ⟨_, _, _, _, _, _⟩) (by rw [HO.out]; rfl) (by rfl) (fun K hK => ?_)
 go_wp2_with fail
 replace hS : (w4.alloc (.cells (nodeArr nm false none none ⟨#[]⟩ 0 (numS n1)) 108)).cell? ⟨M.b, 12, none⟩ = some (.int .i64 n1) := cell_kp (Kp.of (F := fun _ => False) (bAlloc (Below.refl _ _) _)) hS (fun e => e)
 refine hK.out _ _ hS (fun _ => ?_)
 clear hK K
 try simp only [Act.put, List.setIfInBounds_toArray, List.set_cons_zero, List.set_cons_succ]
 refine seq_do (o := ⟨_, _, _, _, _, _⟩) (by rw [HO.out]; rfl) (by rfl) (fun K hK => ?_)
 obtain ⟨z, hz⟩ : ∃ z, z = w4.heap.size := ⟨_, rfl⟩
 have hal : Below w4.heap.size w4 (w4.alloc (.cells (nodeArr nm false none none ⟨#[]⟩ 0 (numS n1)) 108)) := bAlloc (Below.refl _ _) _
 have hM4 := (HG3.out.mem.below hb4).below hal
 have hNd : BoxIs (w4.alloc (.cells (nodeArr nm false none none ⟨#[]⟩ 0 (numS n1)) 108)) z (nodeArr nm false none none ⟨#[]⟩ 0 (numS n1)) 108 := by
  rw [hz]
  exact heap_alloc_new _ _
 have hlow : w0.heap.size ≤ z := by rw [hz]; exact Nat.le_trans hbw3.size hb4.size
 have hno : ¬ F3.own z := fun e => by have h1 := HG3.out.mem.tree.lt e; have h2 := hb4.size; omega
 have hkW : Kp (fun i => i = M.b ∨ s.F.own i) w (w4.alloc (.cells (nodeArr nm false none none ⟨#[]⟩ 0 (numS n1)) 108)) := (HK2.out.trans (((Kp.refl _ w2).drew 1).trans HG3.out.kp)).trans ((Kp.of hb4).trans (Kp.of hal))
 have hzW : w.heap.size ≤ z := by rw [hz]; exact Nat.le_trans (Nat.le_trans HK2.out.size HG3.out.kp.size) hb4.size
 have hzl : z < (w4.alloc (.cells (nodeArr nm false none none ⟨#[]⟩ 0 (numS n1)) 108)).heap.size := hNd.lt
 rw [← hz]
 obtain ⟨wa, hwa⟩ : ∃ wa, wa = (w4.alloc (.cells (nodeArr nm false none none ⟨#[]⟩ 0 (numS n1)) 108)) := ⟨_, rfl⟩
 rw [← hwa] at hM4 hNd hS hkW hzl ⊢
 clear hwa hal
 obtain ⟨id1, hid1⟩ : ∃ id1, id1 = numS n1 := ⟨_, rfl⟩
 rw [← hid1] at hNd ⊢
 clear hid1
 have hcc := HCc.out
 have hwl := HWc3.out.1.1
 have hcg := HG3.out.cnt
 have hnw : F3 (ks.dropLast ++ [kyOf s.f nm]) = none := by rw [← HLs.out.1]; exact HG3.out.full HF0.out
 have hlm := HLs.out.2
 have hss := HSs.out
 have hcu : c3 ≤ 1000000 := by have h1 := HWc3.out.2; have h2 := HKl.out; omega
 have HAd := Lib.hid (addT_false wa w0.heap.size M { s with made := n1, cnt := c3, F := F3 } ks.dropLast n3 z nm id1 hM4 HL3.out.1 HL3.out.2 hnw hNd hlow hno (by omega) ⟨by simp only at hcg ⊢; omega, by simp only; omega⟩)
 have HKW := Lib.hid hkW
 have HZ := Lib.hid (And.intro hzW (And.intro hzl hno))
 have HNd := Lib.hid hNd
 clear hM4 hNd hz hno hkW hzW hzl hcc hwl hcg hnw hlm hss hcu hlow
 go_wp2_with (go_at_call 77; refine HAd.out.mono ?_; rintro e w6 ⟨kb6, rfl, hm6, hk6, hkb6⟩)
 replace hS : w6.cell? ⟨M.b, 12, none⟩ = some (.int .i64 n1) := hm6.madec
 refine hK.out _ _ hS (fun _ => ?_)
 clear hK K
 try simp only [Act.put, List.setIfInBounds_toArray, List.set_cons_zero, List.set_cons_succ]
 refine seq_take (o := ⟨_, _, _, _, _, _⟩) (v := ?_) (by rw [HO.out]; rfl) (by rfl) ?_ ?_
 rotate_left 1
 ·first | ((intro W _; go_simp) <;> with_reducible rfl) | (intro W hW; skip; (go_simp <;> with_reducible rfl))
 try simp only [Act.put, List.setIfInBounds_toArray, List.set_cons_zero, List.set_cons_succ]
 refine seq_done ?_
 have hks := HLs.out.1
 rw [← hks] at hm6
 clear hks
 have hkbW : w.heap.size ≤ kb6 := by
  rcases hkb6 with h | h
  ·rw [h]; exact HZ.out.1
  ·exact Nat.le_trans HKW.out.size h
 obtain ⟨nd0, hnd0⟩ : ∃ nd0 : Nd, nd0 = ⟨z, kb6, nm, false, ⟨#[]⟩, 0, .slice none 0 0, id1⟩ := ⟨_, rfl⟩
 have hz0 : nd0.b = z := by rw [hnd0]
 have hk0 : nd0.kb = kb6 := by rw [hnd0]
 have hd0 : nd0.dir = false := by rw [hnd0]
 rw [← hnd0] at hm6
 have hbx6 : BoxIs w6 z (ndArr nd0 ((F3.put ks nd0).up ks)) 108 := by
  rw [← hz0]
  exact (hm6.tree.box ks nd0 (Tr.put_same _ _ _)).1
 have hkW6 : Kp (fun i => i = M.b ∨ s.F.own i) w w6 := HKW.out.chain hk6 (fun i hi => by
  rcases hi with rfl | rfl | rfl
  ·exact .inr HZ.out.1
  ·rcases HG3.out.own n3.kb ⟨_, n3, HL3.out.1, .inr ⟨HL3.out.2, rfl⟩⟩ with h | h
   ·exact .inl (.inr h)
   ·exact .inr (Nat.le_trans HK2.out.size h)
  ·exact .inl (.inl rfl))
 have hown : ∀ nd : Nd, nd.b = z → nd.kb = kb6 → ∀ i, (F3.put ks nd).own i → s.F.own i ∨ w.heap.size ≤ i := fun nd h1 h2 i hi => by
  rcases put_own hi with h | rfl | rfl
  ·exact (HG3.out.own i h).imp (fun h => h) (fun h => Nat.le_trans HK2.out.size h)
  ·rw [h1]; exact .inr HZ.out.1
  ·rw [h2]; exact .inr hkbW
 have HOw := Lib.hid hown
 have HM6 := Lib.hid hm6
 have HBx6 := Lib.hid hbx6
 have HKW6 := Lib.hid hkW6
 have HNd0 := Lib.hid hnd0
 have HZk := Lib.hid (And.intro hz0 (And.intro hk0 hd0))
 have HNm0 : Hid (nd0.name = nm) := Lib.hid (by rw [hnd0])
 have c4 : w6.cell? ⟨z, 4, none⟩ = some (.string nd0.data) := hbx6.cell (j := 4) rfl
 have c5 : w6.cell? ⟨z, 5, none⟩ = some (.int .i64 nd0.time) := hbx6.cell (j := 5) rfl
 have c6 : w6.cell? ⟨z, 6, none⟩ = some nd0.mt := hbx6.cell (j := 6) rfl
 have f4 : w6.frozen? ⟨z, 4, none⟩ = false := Lib.frozen_of_heap hbx6 4
 have f5 : w6.frozen? ⟨z, 5, none⟩ = false := Lib.frozen_of_heap hbx6 5
 have f6 : w6.frozen? ⟨z, 6, none⟩ = false := Lib.frozen_of_heap hbx6 6
 clear hm6 hk6 hkb6 hbx6 hkW6 hown hnd0 hz0 hk0 hd0 hkbW hS s12 hb4 hbw3 hn2
 go_upto_region 7 with fail
 obtain ⟨nd1, hnd1⟩ : ∃ nd1 : Nd, nd1 = { nd0 with data := d, time := t, mt := .slice none 0 0 } := ⟨_, rfl⟩
 have hk7 : Kp (fun i => i = z) w6 (((w6.setCell ⟨z, 4, none⟩ (.string d)).setCell ⟨z, 5, none⟩ (.int .i64 t)).setCell ⟨z, 6, none⟩ (.slice none 0 0)) := (((Kp.refl (fun i => i = z) w6).set (b := z) (.inl rfl) 4 _).set (b := z) (.inl rfl) 5 _).set (b := z) (.inl rfl) 6 _
 have hbx7 : BoxIs (((w6.setCell ⟨z, 4, none⟩ (.string d)).setCell ⟨z, 5, none⟩ (.int .i64 t)).setCell ⟨z, 6, none⟩ (.slice none 0 0)) z (ndArr nd1 ((F3.put ks nd0).up ks)) 108 := by
  rw [hnd1]
  exact ((HBx6.out.putAt 4 (.string d)).putAt 5 (.int .i64 t)).putAt 6 (.slice none 0 0)
 have hb1 : nd1.b = nd0.b ∧ nd1.kb = nd0.kb ∧ nd1.dir = nd0.dir ∧ nd1.name = nd0.name ∧ nd1.data = d ∧ nd1.time = t := by rw [hnd1]; exact ⟨rfl, rfl, rfl, rfl, rfl, rfl⟩
 have HMt : Hid (nd1.mt = .slice none 0 0) := Lib.hid (by rw [hnd1])
 have hm7 := HM6.out.turn (n := nd1) (Tr.put_same _ _ _) hb1.1 hb1.2.1 hb1.2.2.1 hb1.2.2.2.1 (by rw [hb1.1, HZk.out.1]; exact hbx7) (by rw [HZk.out.1]; exact hk7)
 simp only [Tr.put_put] at hm7
 have HM7 := Lib.hid hm7
 have HB7 := Lib.hid hb1
 have HBx7 := Lib.hid hbx7
 have HKW7 : Hid (Kp (fun i => i = M.b ∨ s.F.own i) w _) := Lib.hid (HKW6.out.chain hk7 (fun i hi => .inr (by rw [hi]; exact HZ.out.1)))
 clear c4 c5 c6 f4 f5 f6 hk7 hbx7 hb1 hm7 hnd1 HM6 HBx6 HKW6
 generalize ((w6.setCell ⟨z, 4, none⟩ (.string d)).setCell ⟨z, 5, none⟩ (.int .i64 t)).setCell ⟨z, 6, none⟩ (.slice none 0 0) = w7 at *
 have HHs7 := Lib.hid (HHs.out w7 HM7.out.has)
 have HEnd : Hid (∀ (nd : Nd) (W : World), MemT W w0.heap.size M { s with made := n1, cnt := c3 + 1, F := F3.put ks nd } → nd.b = z → nd.kb = kb6 → nd.dir = false → nd.data = d → nd.time = t → nd.mt = .slice none 0 0 → nd.name = nm → Kp (fun i => i = M.b ∨ s.F.own i) w W → SetPost w w0.heap.size M s ks ns d t (.returned (ptr z)) W) := Lib.hid (fun nd W h1 h2 h3 h4 h5 h6 hmt h8 h7 => by
  refine ⟨c3 + 1, F3.put ks nd, nd, i0, n0, by rw [h2], by rw [HN1.out]; exact h1, HWc3.out.1, ?_, Tr.put_same _ _ _, ⟨h4, h5, h6, hmt⟩, h7, HOw.out nd h2 h3, by rw [h8]; exact HLn.out, fun ls m hl => ?_, fun ls m hl => ?_⟩
  ·have := HWc3.out.2
   omega
  ·have h9 := HG3.out.ext ls m hl
   rw [Tr.put_other _ _ (fun e => by rw [e, HF0.out] at hl; cases hl)]
   exact h9
  ·by_cases e : ls = ks
   ·exact .inr (.inl e)
   ·rw [Tr.put_other _ _ e] at hl
    exact (HG3.out.new ls m hl).imp (fun h => h) (fun h => .inr h))
 cases hasv with
 | false =>
  go_wp2_with (go_at_call 22; refine HHs7.out.mono ?_; rintro e w' ⟨rfl, hw⟩; (have hw2 := hw.symm; clear hw; subst hw2))
  go_ret
  exact HEnd.out nd1 _ HM7.out (HB7.out.1.trans HZk.out.1) (HB7.out.2.1.trans HZk.out.2.1) (HB7.out.2.2.1.trans HZk.out.2.2) HB7.out.2.2.2.2.1 HB7.out.2.2.2.2.2 HMt.out (HB7.out.2.2.2.1.trans HNm0.out) HKW7.out
 | true =>
  have HCl7 := Lib.hid (HCl.out w7)
  go_upto_region 8 with (go_at_call 22; refine HHs7.out.mono ?_; rintro e w' ⟨rfl, hw⟩; (have hw2 := hw.symm; clear hw; subst hw2))
  have g6 : w7.cell? ⟨z, 6, none⟩ = some nd1.mt := HBx7.out.cell (j := 6) rfl
  have g6' : ∀ W, Below w7.heap.size w7 W → W.cell? ⟨z, 6, none⟩ = some nd1.mt ∧ W.frozen? ⟨z, 6, none⟩ = false := fun W hb => ⟨cell_kp (Kp.of (F := fun _ => False) hb) g6 (fun e => e), Lib.frozen_of_heap (HBx7.out.under hb) 6⟩
  clear g6
  go_wp2_with (go_at_call 74; refine HCl7.out.mono ?_; rintro e w8 ⟨rfl, hw8⟩; have hb8 : Below w7.heap.size w7 w8 := hw8.symm ▸ Below.refl _ _; obtain ⟨k6, l6⟩ := g6' _ hb8; have HB8 := Lib.hid hb8; clear g6' hb8 hw8)
  go_ret
  have hk9 : Kp (fun i => i = z) w8 (w8.setCell ⟨z, 6, none⟩ (.slice none 0 0)) := (Kp.refl (fun i => i = z) w8).set (b := z) (.inl rfl) 6 _
  obtain ⟨nd2, hnd2⟩ : ∃ nd2 : Nd, nd2 = { nd1 with mt := .slice none 0 0 } := ⟨_, rfl⟩
  have hb2 : nd2.b = nd1.b ∧ nd2.kb = nd1.kb ∧ nd2.dir = nd1.dir ∧ nd2.name = nd1.name ∧ nd2.data = nd1.data ∧ nd2.time = nd1.time := by rw [hnd2]; exact ⟨rfl, rfl, rfl, rfl, rfl, rfl⟩
  have hu : (F3.put ks nd1).up ks = (F3.put ks nd0).up ks := by
   unfold Tr.up
   split
   ·rfl
   ·by_cases hq : ks.dropLast = ks
    ·rw [hq, Tr.put_same, Tr.put_same]
     simp only [Option.map_some, adr, HB7.out.1]
    ·rw [Tr.put_other _ _ hq, Tr.put_other _ _ hq]
  have hbx9 : BoxIs (w8.setCell ⟨z, 6, none⟩ (.slice none 0 0)) z (ndArr nd2 ((F3.put ks nd1).up ks)) 108 := by
   rw [hnd2, hu]
   exact (HBx7.out.under HB8.out).putAt 6 (.slice none 0 0)
  have hz1 : nd1.b = z := HB7.out.1.trans HZk.out.1
  have hm9 := (HM7.out.below HB8.out).turn (n := nd2) (Tr.put_same _ _ _) hb2.1 hb2.2.1 hb2.2.2.1 hb2.2.2.2.1 (by rw [hb2.1, hz1]; exact hbx9) (by rw [hz1]; exact hk9)
  simp only [Tr.put_put] at hm9
  exact HEnd.out nd2 _ hm9 (hb2.1.trans hz1) (hb2.2.1.trans (HB7.out.2.1.trans HZk.out.2.1)) (hb2.2.2.1.trans (HB7.out.2.2.1.trans HZk.out.2.2)) (hb2.2.2.2.2.1.trans HB7.out.2.2.2.2.1) (hb2.2.2.2.2.2.trans HB7.out.2.2.2.2.2) (by rw [hnd2]) (hb2.2.2.2.1.trans (HB7.out.2.2.2.1.trans HNm0.out)) ((HKW7.out.trans (Kp.of HB8.out)).chain hk9 (fun i hi => .inr (by rw [hi]; exact HZ.out.1)))
end Go.Proofs.YtchfhojighopkaaGreatDoor
namespace Go.Proofs.YtchfhojighopkaaGreatDoor
open Go.RowKit

/-- A path at which a file may lie. -/
structure PathOk (f : Wh.Feat) (p : ByteArray) : Prop where
 ne : p.toList.isEmpty = false
 err : Wh.pathErr p.data.toList = 0
 fits : fitsB f p = true
theorem PathOk.size {f : Wh.Feat} {p : ByteArray} (h : PathOk f p) : p.size ≤ 1024 := Wh.path_size (Wh.pathErr_zero h.err)
end Go.Proofs.YtchfhojighopkaaGreatDoor
