/-
  What every row of this seat needs: the laid tables at the witness, and the step from a walk that ends 'true, nothing old has changed' to the row's post.
-/
import Derived.Test.YtikegddlbelfaaaGreatDoorCards
import Derived.Test.YtikegddlbelfaaaGreatDoorTie
import Derived.Test.YtikegddlbelfaaaGreatDoorBase
import Derived.Test.YtikegddlbelfaaaGreatDoorPlainClean
import Derived.ProofKit
import Derived.OpenShut
import Derived.Deep.DeepHandedRow
import Derived.Deep.CondSized
import Derived.Lib.LaidTab
namespace Go.Proofs.YtikegddlbelfaaaGreatDoor
open Go.ChangeShapes Go.WideShapes Go.ChangeAt Go.RowKit

theorem own : ownKnob Tryz.prog.godebug = none := by kernel_rfl
theorem laidOut : laidOutB Tryz.prog = true := by kernel_rfl
theorem env_of {W : World} (h : W.ShapedOpen Tryz.prog) : Env W := Tryz.laysM146.s1_3 W h

section
variable {H : Type} {enc : TypeId × Value → H} {P : Program}

theorem trodAll_later (hl : laidOutB P = true) {W W' : World} (hb : Below W.heap.size W W') {sp : Nat → Bool} : ∀ (ts : List TypeId) (vs : List Value) (ds : List (DataW H)) (ps : List MemPlace),
    (∀ t ∈ ts, P.readableRec t = true ∧ t < P.types.size) → DataW.TrodAll enc P W 0 (fun _ => true) true ts vs ds ps →
    (∀ p ∈ ps, p.block < W.heap.size) → (∀ p ∈ ps, sp p.block = true) → DataW.TrodAll enc P W' 0 sp true ts vs ds ps
  | [], vs, ds, ps, _, h, _, _ => by
    obtain ⟨rfl, rfl, rfl⟩ := trodAll_nil h
    exact trodAll_mk0
  | t :: ts, vs, ds, ps, hr, h, hlt, hsp => by
    obtain ⟨v, vs', d, ds', p, q, rfl, rfl, rfl, h1, h2⟩ := trodAll_cons h
    obtain ⟨r1, r2⟩ := hr t (by simp)
    exact trodAll_cons_mk (WideElems.Trod_stays hl r1 r2 h1 (fun x hx => hb.same (hlt x (by simp [hx]))) (fun x hx => hsp x (by simp [hx])))
      (trodAll_later hl hb ts vs' ds' q (fun x hx => hr x (by simp [hx])) h2 (fun x hx => hlt x (by simp [hx])) (fun x hx => hsp x (by simp [hx])))

/-- From a walk's end to the row's post: the answer is true, and nothing that was there has changed. -/
theorem law_post_of (hl : laidOutB P = true) {tb : TypeId} (htb : P.underlying tb = some .bool) {fn : Func} {s : ChangeSpec} {W W' : World} {args : Array Value} {ds : List (DataW H)} {before : List MemPlace}
    (hW : DataW.Whole enc P fn.params.toList s.vars false W args.toList ds [] before) (hv : s.vars = []) (hres : fn.resultTypes = #[tb])
    (e1 : (s.fn H (ds ++ [])).results = [.lit (.bool true)]) (e2 : (s.fn H (ds ++ [])).args = ds) (e3 : (s.fn H (ds ++ [])).vars = [])
    (hread : fn.params.toList.all (fun t => P.readableRec t && decide (t < P.types.size)) = true) (hb : Below W.heap.size W W') :
    s.post enc P fn false true false false W args (.bool true) W' := by
  have hlt : ∀ p ∈ before, p.block < W.heap.size := fun p hp => hW.lt p hp
  obtain ⟨p, q, hA, hV, hpq, hz, hn⟩ := hW
  have hq : q = [] := by
    rw [hv] at hV
    exact (trodVars_none hV).2
  subst hq
  have hpb : before = p := by rw [hpq, List.append_nil]
  refine ⟨ds, [], before, [], p, [], ⟨p, [], hA, hV, hpq, hz, hn⟩, ?_, ?_, ?_, hb.frame _, fun h => by cases h⟩
  · rw [e1, hres]
    exact trodAll_mk1 (shut_bool htb true)
  · rw [e2]
    refine trodAll_later hl hb _ _ _ _ (fun t ht => ?_) hA (fun x hx => hlt x (by rw [hpb]; exact hx)) (fun x hx => by simpa using hlt x (by rw [hpb]; exact hx))
    have := List.all_eq_true.1 hread t ht
    rw [Bool.and_eq_true, decide_eq_true_eq] at this
    exact this
  · rw [e3, hv]
    rfl
end

/-- The types of which the laws of this seat have parameters. -/
def paramTypes : List TypeId := [3
  , 4
  , 9
  , 58
  , 22
  , 24
  , 27
  , 52
  , 43
  ]
theorem readable_all : paramTypes.all (fun t => Tryz.prog.readableRec t && decide (t < Tryz.prog.types.size)) = true := by kernel_rfl
theorem standIn_all : paramTypes.all (fun t => !Tryz.prog.wantsStandIn t) = true := by kernel_rfl
theorem no_standIn {t : TypeId} (h : t ∈ paramTypes) : Tryz.pinned.checked.prog.wantsStandIn t = false := by
  have h2 := List.all_eq_true.1 standIn_all t h
  have h3 : Tryz.prog.wantsStandIn t = false := by simpa using h2
  exact h3
theorem mem_params {t : TypeId} {ts : List TypeId} (h : t ∈ ts.toArray) (hs : ∀ x ∈ ts, x ∈ paramTypes) : t ∈ paramTypes := hs t (List.mem_toArray.1 h)
theorem readable_params {ts : Array TypeId} (h : ∀ t ∈ ts.toList, t ∈ paramTypes) : ts.toList.all (fun t => Tryz.prog.readableRec t && decide (t < Tryz.prog.types.size)) = true :=
  List.all_eq_true.2 fun t ht => List.all_eq_true.1 readable_all t (h t ht)

theorem law_post {H : Type} {enc : TypeId × Value → H} {fn : Func} {s : ChangeSpec} {W W' : World} {args : Array Value} {ds : List (DataW H)} {before : List MemPlace}
    (hW : DataW.Whole enc Tryz.prog fn.params.toList s.vars false W args.toList ds [] before) (hv : s.vars = []) (hres : fn.resultTypes = #[4])
    (e1 : (s.fn H (ds ++ [])).results = [.lit (.bool true)]) (e2 : (s.fn H (ds ++ [])).args = ds) (e3 : (s.fn H (ds ++ [])).vars = [])
    (hread : fn.params.toList.all (fun t => Tryz.prog.readableRec t && decide (t < Tryz.prog.types.size)) = true) (hb : Below W.heap.size W W') :
    s.post enc Tryz.prog fn false true false false W args (.bool true) W' :=
  law_post_of laidOut Tryz.underlying4 hW hv hres e1 e2 e3 hread hb

theorem no_vars {H : Type} {enc : TypeId × Value → H} {P : Program} {ts : List TypeId} {W : World} {vs : List Value} {ds gs : List (DataW H)} {before : List MemPlace}
    (hW : DataW.Whole enc P ts [] false W vs ds gs before) : gs = [] := by
  obtain ⟨p, q, hA, hV, _⟩ := hW
  exact (trodVars_none hV).1

theorem reach_params {H : Type} {P : Program} {ts : List TypeId} {ds : List (DataW H)} (h : (DataW.weightsEach P (ts ++ []) ds).all (· ≤ reachBytes) = true) : (DataW.weightsEach P ts ds).all (· ≤ reachBytes) = true := by
  rw [List.append_nil] at h
  exact h

section
variable {H : Type} {enc : TypeId × Value → H} {P : Program} {w : World} {b0 : Nat} {r : Reach}

theorem open_ints_of {ts te : TypeId} (ht : P.underlying ts = some (.slice te)) (he : P.underlying te = some (.int .i64)) (hce : P.cellsOf te = 1) {v : Value} {d : DataW H} {p : List MemPlace}
    (hval : Value.okWide P w r b0 ts v) (h : DataW.Trod enc P w 0 (fun _ => true) true ts v d p) :
    ∃ (a : Option Addr) (c : Nat) (zs : List Int), v = .slice a zs.length c ∧ (∀ z ∈ zs, -9223372036854775808 ≤ z ∧ z ≤ 9223372036854775807) ∧ zs.length ≤ maxLen ∧ Holds w a (zs.map (Value.int .i64)) := by
  obtain ⟨a0, len, cap, rfl⟩ := okWide_slice ht hval
  obtain ⟨fuel, hf⟩ := h
  rcases open_ints ht he hce hf with ⟨hcs, hx⟩ | ⟨a, len', cap', zs, hcs, _, hl, hm, hz, hx, hcell, hwz⟩
  · simp [Value.cells] at hcs
    obtain ⟨rfl, rfl, rfl⟩ := hcs
    exact ⟨none, 0, [], rfl, by simp, by simp, .inl rfl⟩
  · simp [Value.cells] at hcs
    obtain ⟨rfl, rfl, rfl⟩ := hcs
    rw [if_pos rfl] at hz
    have hlen : (zs.take len).length = len := by rw [List.length_take]; omega
    refine ⟨some a, cap, zs.take len, by rw [hlen], fun z hz' => bounds_i64 (hwz z (List.mem_of_mem_take hz')), by omega, ?_⟩
    by_cases h0 : zs.take len = []
    · rw [h0]; exact .inl rfl
    · have hpos : 0 < len := by
        rcases Nat.eq_zero_or_pos len with h1 | h1
        · rw [h1] at h0; simp at h0
        · exact h1
      obtain ⟨b, off, rfl, hc⟩ := ints_at hcell (by omega)
      refine .inr ⟨b, off, rfl, cell_lt (p := ⟨b, off + 0, none⟩) (hc 0 (by omega)), fun j u hu => ?_⟩
      rw [List.getElem?_map] at hu
      cases hj : (zs.take len)[j]? with
      | none => rw [hj] at hu; simp at hu
      | some z =>
        rw [hj] at hu
        simp at hu
        subst hu
        have hjl : j < len := by have := (List.getElem?_eq_some_iff.1 hj).1; omega
        rw [hc j (by omega)]
        rw [List.getElem?_take_of_lt hjl] at hj
        simp [List.getD_eq_getElem?_getD, hj]
end

theorem cells_int : Tryz.prog.cellsOf 3 = 1 := by kernel_rfl
theorem cells_string : Tryz.prog.cellsOf 9 = 1 := by kernel_rfl
set_option maxRecDepth 100000 in
theorem open_ints_holds {H : Type} {enc : TypeId × Value → H} {w : World} {b0 : Nat} {r : Reach} {v : Value} {d : DataW H} {p : List MemPlace} (hval : Value.okWide Tryz.prog w r b0 58 v) (h : DataW.Trod enc Tryz.prog w 0 (fun _ => true) true 58 v d p) :
    ∃ (a : Option Addr) (c : Nat) (zs : List Int), v = .slice a zs.length c ∧ (∀ z ∈ zs, -9223372036854775808 ≤ z ∧ z ≤ 9223372036854775807) ∧ zs.length ≤ maxLen ∧ Holds w a (zs.map (Value.int .i64)) :=
  open_ints_of Tryz.underlying58 Tryz.underlying3 cells_int hval h

section
variable {H : Type} {enc : TypeId × Value → H} {P : Program} {w : World} {b0 : Nat} {r : Reach}

theorem uptoBulk_strs (l : List ByteArray) : Rows.uptoBulkAll (H := H) (strs l) = Wh.total l := by
  induction l with
  | nil => rfl
  | cons x l ih =>
    have e1 : strs (H := H) (x :: l) = .lit (.string x.data.toList) :: strs l := rfl
    rw [e1, Rows.uptoBulkAll, ih]
    simp [Rows.uptoBulk, Wh.total]

theorem strs_of_trod_bulk {ts te : TypeId} (ht : P.underlying ts = some (.slice te)) (he : P.underlying te = some .string) (hce : P.cellsOf te = 1) {fuel : Nat} {cs : List Value} {y : DataW H × List MemPlace}
    (hf : DataW.trod enc P w 0 (fun _ => true) true fuel ts cs = some y) :
    ∃ (a : Option Addr) (c : Nat) (zs : List ByteArray), cs = [.slice a zs.length c] ∧ (∀ z ∈ zs, z.size ≤ maxLen) ∧ zs.length ≤ c ∧ c ≤ maxLen ∧ Holds w a (zs.map Value.string) ∧ Wh.total zs ≤ Rows.uptoBulk y.1 := by
  rcases open_strings ht he hce hf with ⟨hcs, hx⟩ | ⟨a, len, cap, zs, hcs, _, hl, hm, hz, hx, hcell, hwz⟩
  · exact ⟨none, 0, [], hcs, by simp, by simp, by simp, .inl rfl, by simp [Wh.total]⟩
  · rw [if_pos rfl] at hz
    have hlen : (zs.take len).length = len := by rw [List.length_take]; omega
    refine ⟨some a, cap, zs.take len, by rw [hlen]; exact hcs, fun z hz' => hwz z (List.mem_of_mem_take hz'), by omega, hm, ?_, ?_⟩
    · by_cases h0 : zs.take len = []
      · rw [h0]; exact .inl rfl
      · have hpos : 0 < len := by
          rcases Nat.eq_zero_or_pos len with h1 | h1
          · rw [h1] at h0; simp at h0
          · exact h1
        obtain ⟨b, off, spot⟩ := a
        have hspot : spot = none := by simpa [Addr.add] using World.cell?_spot (hcell 0 (by omega))
        subst hspot
        have hc : ∀ j, j < zs.length → w.cell? ⟨b, off + j, none⟩ = some (.string (zs.getD j ByteArray.empty)) := fun j hj => by
          have := hcell j hj
          have e2 : (⟨b, off, none⟩ : Addr).add j = ⟨b, off + j, none⟩ := by unfold Addr.add; split <;> simp_all
          rw [e2] at this
          exact this
        refine .inr ⟨b, off, rfl, cell_lt (p := ⟨b, off + 0, none⟩) (hc 0 (by omega)), fun j u hu => ?_⟩
        rw [List.getElem?_map] at hu
        cases hj : (zs.take len)[j]? with
        | none => rw [hj] at hu; simp at hu
        | some z =>
          rw [hj] at hu
          simp at hu
          subst hu
          have hjl : j < len := by have := (List.getElem?_eq_some_iff.1 hj).1; omega
          rw [hc j (by omega)]
          rw [List.getElem?_take_of_lt hjl] at hj
          simp [List.getD_eq_getElem?_getD, hj]
    · rw [hx, Rows.uptoBulk, uptoBulk_strs]
      omega

theorem strs_of_trod {ts te : TypeId} (ht : P.underlying ts = some (.slice te)) (he : P.underlying te = some .string) (hce : P.cellsOf te = 1) {fuel : Nat} {cs : List Value} {y : DataW H × List MemPlace}
    (hf : DataW.trod enc P w 0 (fun _ => true) true fuel ts cs = some y) :
    ∃ (a : Option Addr) (c : Nat) (zs : List ByteArray), cs = [.slice a zs.length c] ∧ (∀ z ∈ zs, z.size ≤ maxLen) ∧ zs.length ≤ c ∧ c ≤ maxLen ∧ Holds w a (zs.map Value.string) := by
  obtain ⟨a, c, zs, h1, h2, h3, h4, h5, _⟩ := strs_of_trod_bulk ht he hce hf
  exact ⟨a, c, zs, h1, h2, h3, h4, h5⟩

theorem open_strs_of {ts te : TypeId} (ht : P.underlying ts = some (.slice te)) (he : P.underlying te = some .string) (hce : P.cellsOf te = 1) {v : Value} {d : DataW H} {p : List MemPlace}
    (hval : Value.okWide P w r b0 ts v) (h : DataW.Trod enc P w 0 (fun _ => true) true ts v d p) :
    ∃ (a : Option Addr) (c : Nat) (zs : List ByteArray), v = .slice a zs.length c ∧ (∀ z ∈ zs, z.size ≤ maxLen) ∧ zs.length ≤ c ∧ c ≤ maxLen ∧ Holds w a (zs.map Value.string) ∧ Wh.total zs ≤ Rows.uptoBulk d := by
  obtain ⟨a0, len, cap, rfl⟩ := okWide_slice ht hval
  obtain ⟨fuel, hf⟩ := h
  obtain ⟨a, c, zs, h1, h2, h3, h4, h5, h6⟩ := strs_of_trod_bulk ht he hce hf
  refine ⟨a, c, zs, ?_, h2, h3, h4, h5, h6⟩
  simp [Value.cells] at h1
  obtain ⟨rfl, rfl, rfl⟩ := h1
  rfl
end

set_option maxRecDepth 100000 in
theorem open_strs_holds {H : Type} {enc : TypeId × Value → H} {w : World} {b0 : Nat} {r : Reach} {v : Value} {d : DataW H} {p : List MemPlace} (hval : Value.okWide Tryz.prog w r b0 22 v) (h : DataW.Trod enc Tryz.prog w 0 (fun _ => true) true 22 v d p) :
    ∃ (a : Option Addr) (c : Nat) (zs : List ByteArray), v = .slice a zs.length c ∧ (∀ z ∈ zs, z.size ≤ maxLen) ∧ zs.length ≤ c ∧ c ≤ maxLen ∧ Holds w a (zs.map Value.string) ∧ Wh.total zs ≤ Rows.uptoBulk d :=
  open_strs_of Tryz.underlying22 Tryz.underlying9 cells_string hval h

theorem upto_bound {H : Type} {l : List (DataW H)} (hk : Rows.uptoSmall H l = true) : Rows.uptoBulkAll l ≤ 1048576 := by
  have := of_decide_eq_true hk
  exact this

theorem upto_string {H : Type} {s : ByteArray} (hk : Rows.uptoSmall H [.lit (.string s.data.toList)] = true) : s.size ≤ 1048576 := by
  have := upto_bound hk
  simp only [Rows.uptoBulkAll, Rows.uptoBulk] at this
  rw [Lib.size_eq]
  omega

theorem upto_one {H : Type} {d : DataW H} (hk : Rows.uptoSmall H [d] = true) : Rows.uptoBulk d ≤ 1048576 := by
  have := upto_bound hk
  simp only [Rows.uptoBulkAll] at this
  omega

/-- A block's cells laid anew. -/
def layCells (cs : List Int) (o : Obj) : Obj := match o with
  | .cells _ t frozen => .cells (cs.map fun n => Value.int .u8 n).toArray t frozen
  | o => o

/-- A world for the witnesses: the settled one, with the library's tables as their text lays them. -/
noncomputable def laidWorld (os : Os) : World :=
  { World.holding Tryz.prog os ⟨#[], #[], []⟩ with heap := ((World.holding Tryz.prog os ⟨#[], #[], []⟩).heap.modify 1 (layCells (Go.Pinned.utf8FirstZ.map Int.ofNat))).modify 2 (layCells [128, 191, 160, 191, 128, 159, 144, 191, 128, 143, 0, 0, 0, 0, 0, 0, 0, 0, 0, 0, 0, 0, 0, 0, 0, 0, 0, 0, 0, 0, 0, 0]) }
end Go.Proofs.YtikegddlbelfaaaGreatDoor
