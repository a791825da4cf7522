/-
  The texts NetS, NetT, NetK, NetC1, NetC2, NetC3, NetC4, NetC5, NetC6, NetC7, NetC8, in one.
-/
import Derived.Test.YtnpcbcnclncniaaGreatDoorBase
import Derived.Maps.RangeWalk
import Derived.DeepKeys4
import Derived.Test.YtnpcbcnclncniaaGreatDoorNetA
import Derived.Laws.EntriesVeiled
namespace Go.Proofs.YtnpcbcnclncniaaGreatDoor
open Go.RowKit

/-- How keys stand in memory and how they read. -/
structure KeyEnc (P : Program) (k : TypeId) (α : Type) where
  val : α → Value
  enc : α → Lit
  ok : α → Prop
  read : ∀ a, ok a → keyOf P k (val a) = some (enc a)
  inj : ∀ a b, ok a → ok b → enc a = enc b → a = b

section
variable {P : Program} {k e t : TypeId} {α : Type} {w w' : World} {m n r cnt : Nat} {S left : α → Bool}

/-- How truths read. -/
abbrev truths (P : Program) (e : TypeId) : Value → Option (DataW Unit × List MemPlace) := plainElem P e

def setD (K : KeyEnc P k α) (S : α → Bool) (D : DataW Unit) : Prop := (∀ a, S a = true → K.ok a) ∧ (∀ kl, Maps.has D kl = true ↔ ∃ a, S a = true ∧ K.enc a = kl) ∧ ∀ kl, Maps.has D kl = true → ∀ z, D.atKey kl z = .lit (.bool true)
/-- Block m is a set. -/
def SetAt (w : World) (K : KeyEnc P k α) (e : TypeId) (m n : Nat) (S : α → Bool) : Prop := ∃ D, w.ownsMap P k (truths P e) m n D ∧ setD K S D

theorem SetAt.same {K : KeyEnc P k α} (h : SetAt w K e m n S) (hs : w'.heap[m]? = w.heap[m]?) : SetAt w' K e m n S := by
  obtain ⟨D, ⟨es, clock, hb, h1⟩, h2⟩ := h
  exact ⟨D, ⟨es, clock, hs.trans hb, h1⟩, h2⟩
theorem SetAt.lt {K : KeyEnc P k α} (h : SetAt w K e m n S) : m < w.heap.size := by
  obtain ⟨D, h1, _⟩ := h
  exact h1.lt
theorem SetAt.map {K : KeyEnc P k α} (h : SetAt w K e m n S) : ∃ es clock, w.heap[m]? = some (.map es clock) := by
  obtain ⟨D, ⟨es, clock, hb, _⟩, _⟩ := h
  exact ⟨es, clock, hb⟩
theorem SetAt.made (w : World) (K : KeyEnc P k α) (e : TypeId) : SetAt (w.alloc (.map #[] 0)) K e w.heap.size 0 (fun _ => false) :=
  ⟨.map [], World.ownsMap_made w P k _, (fun a h => by cases h), (fun kl => ⟨fun h => by simp [Maps.has] at h, fun ⟨a, h, _⟩ => by cases h⟩), fun kl h => by simp [Maps.has] at h⟩
theorem plainElem_true (he : P.underlying e = some .bool) {v : Value} {x : Bool} {ps : List MemPlace} (h : plainElem (H := Unit) P e v = some (.lit (.bool x), ps)) : v = .bool x := by
  unfold plainElem at h
  rw [he] at h
  cases v <;> simp at h
  rw [h.1]
/-- Is it there? -/
theorem SetAt.look {K : KeyEnc P k α} (h : SetAt w K e m n S) (Kd : Maps.Keyed P k) (ht : P.underlying t = some (.map k e)) (he : P.underlying e = some .bool) (hz : (zeroValue e).run P w = .ok (.bool false) w) {a : α} (ha : K.ok a) :
    (Instr.lookup t (.map (some m)) (K.val a) false).run P w = .ok (.bool (S a)) w := by
  obtain ⟨D, h1, hok, h2, h3⟩ := h
  obtain ⟨v, ps, hrun, hv⟩ := h1.lookup Kd ht hz (plainElem_bool he false) (K.read a ha)
  have hd : D.atKey (K.enc a) (.lit (.bool false)) = .lit (.bool (S a)) := by
    cases hs : S a with
    | true => exact h3 _ ((h2 _).2 ⟨a, hs, rfl⟩) _
    | false =>
      refine Maps.atKey_of_not_has ?_ _
      cases hh : Maps.has D (K.enc a) with
      | false => rfl
      | true =>
        obtain ⟨b, hb, hbe⟩ := (h2 _).1 hh
        rw [K.inj b a (hok b hb) ha hbe, hs] at hb
        cases hb
  rw [hd] at hv
  rw [hrun, plainElem_true he hv]
variable [DecidableEq α]
/-- One more. -/
theorem SetAt.store {K : KeyEnc P k α} (h : SetAt w K e m n S) (Kd : Maps.Keyed P k) (ht : P.underlying t = some (.map k e)) (he : P.underlying e = some .bool) (hn : n < maxLen) {a : α} (ha : K.ok a) :
    ∃ w', (Instr.mapUpdate t (.map (some m)) (K.val a) (.bool true)).run P w = .ok () w' ∧ SetAt w' K e m (n + 1) (fun x => decide (x = a) || S x) ∧ w.grownBy w' (some m) := by
  obtain ⟨D, h1, hok, h2, h3⟩ := h
  obtain ⟨w', hrun, h4, h5⟩ := h1.update Kd ht hn (K.read a ha) (plainElem_bool he true)
  have hm := h1.isMap
  have hkl := Kd.key (K.read a ha)
  have hhas : ∀ kl, Maps.has (D.put (K.enc a) (.lit (.bool true))) kl = true ↔ kl = K.enc a ∨ Maps.has D kl = true := fun kl => by
    by_cases e1 : kl = K.enc a
    · rw [e1, Maps.has_put_same hm hkl]
      simp
    · rw [Maps.has_put_other e1]
      simp [e1]
  refine ⟨w', hrun, ⟨_, h4, ?_, fun kl => ?_, fun kl hk z => ?_⟩, h5⟩
  · intro x hx
    simp only [Bool.or_eq_true, decide_eq_true_eq] at hx
    rcases hx with rfl | hx
    · exact ha
    · exact hok x hx
  · rw [hhas, h2]
    constructor
    · rintro (rfl | ⟨x, hx, rfl⟩)
      · exact ⟨a, by simp, rfl⟩
      · exact ⟨x, by simp [hx], rfl⟩
    · rintro ⟨x, hx, rfl⟩
      simp only [Bool.or_eq_true, decide_eq_true_eq] at hx
      rcases hx with rfl | hx
      · exact .inl rfl
      · exact .inr ⟨x, hx, rfl⟩
  · by_cases e1 : kl = K.enc a
    · rw [e1, Maps.atKey_put_same hm hkl]
    · rw [Maps.atKey_put_other e1]
      rw [Maps.has_put_other e1] at hk
      exact h3 kl hk z

/-- A loop over a set, under way: what is still to come. -/
def RangeAt (w : World) (K : KeyEnc P k α) (e : TypeId) (m r n : Nat) (S left : α → Bool) (cnt : Nat) : Prop :=
  ∃ D leftL, w.ranges P k (truths P e) m r n D leftL cnt ∧ setD K S D ∧ (∀ a, left a = true → S a = true) ∧ ∀ kl, leftL kl = true ↔ ∃ a, left a = true ∧ K.enc a = kl
omit [DecidableEq α] in
theorem RangeAt.same {K : KeyEnc P k α} (h : RangeAt w K e m r n S left cnt) (hs : w'.heap[m]? = w.heap[m]?) (hr : w'.heap[r]? = w.heap[r]?) : RangeAt w' K e m r n S left cnt := by
  obtain ⟨D, L, ⟨es, clock, since, seen, c0, hb, h1, h2, h3, h4, h5⟩, h6⟩ := h
  exact ⟨D, L, ⟨es, clock, since, seen, c0, hs.trans hb, h1, h2, h3, hr.trans h4, h5⟩, h6⟩
omit [DecidableEq α] in
theorem RangeAt.set {K : KeyEnc P k α} (h : RangeAt w K e m r n S left cnt) : SetAt w K e m n S := by
  obtain ⟨D, L, h1, h2, _⟩ := h
  exact ⟨D, h1.owns, h2⟩
omit [DecidableEq α] in
theorem RangeAt.lt {K : KeyEnc P k α} (h : RangeAt w K e m r n S left cnt) : r < w.heap.size ∧ m < w.heap.size ∧ r ≠ m := by
  obtain ⟨D, L, h1, h2, _⟩ := h
  exact ⟨h1.lt, h1.owns.lt, h1.ne⟩
omit [DecidableEq α] in
/-- The loop begins. -/
theorem SetAt.range {K : KeyEnc P k α} (h : SetAt w K e m n S) (Kd : Maps.Keyed P k) (ht : P.underlying t = some (.map k e)) :
    ∃ w' cnt, (Instr.range t (.map (some m))).run P w = .ok (.pointer (some ⟨w.heap.size, 0, none⟩)) w' ∧ RangeAt w' K e m w.heap.size n S S cnt ∧ w.grownBy w' none ∧ w'.heap.size = w.heap.size + 1 ∧ cnt ≤ n := by
  obtain ⟨D, h1, h2⟩ := h
  obtain ⟨w', hrun, h3, h4, h5⟩ := h1.range Kd ht
  exact ⟨w', _, hrun, ⟨D, _, h3, h2, fun a ha => ha, h2.2.1⟩, h4, h5, h1.size_le⟩
/-- The step. -/
theorem RangeAt.next {K : KeyEnc P k α} (h : RangeAt w K e m r n S left cnt) (Kd : Maps.Keyed P k) (he : P.underlying e = some .bool) (ty : TypeId) :
    ((∀ a, left a = false) ∧ (Instr.next (.pointer (some ⟨r, 0, none⟩)) false ty).run P w = .ok (.tuple #[.bool false]) w) ∨
    ∃ a w' cnt', left a = true ∧ K.ok a ∧ (Instr.next (.pointer (some ⟨r, 0, none⟩)) false ty).run P w = .ok (.tuple #[.bool true, K.val a, .bool true]) w' ∧ RangeAt w' K e m r n S (fun x => left x && !decide (x = a)) cnt' ∧ cnt' < cnt ∧
      w.grownBy w' (some r) ∧ w'.heap.size = w.heap.size ∧ (Instr.entry (.pointer (some ⟨r, 0, none⟩))).run P w' = .ok (.tuple #[K.val a, .bool true]) w' := by
  obtain ⟨D, L, h1, ⟨hok, h2, h3⟩, h4, h5⟩ := h
  rcases h1.next Kd ty with ⟨_, hl, hrun⟩ | ⟨key, v, kl, y, w', cnt', hkey, hlk, hv, hat, hrun, hrg, hlt, hgr, hsz, hen⟩
  · refine .inl ⟨fun a => ?_, hrun⟩
    cases hla : left a with
    | false => rfl
    | true =>
      have := (h5 (K.enc a)).2 ⟨a, hla, rfl⟩
      rw [hl] at this
      cases this
  · obtain ⟨a, hla, rfl⟩ := (h5 kl).1 hlk
    have hSa := h4 a hla
    have hka := hok a hSa
    obtain rfl : key = K.val a := Kd.inj hkey (K.read a hka)
    have hd := hat (.lit (.bool false))
    rw [h3 _ ((h2 _).2 ⟨a, hSa, rfl⟩)] at hd
    obtain ⟨y1, y2⟩ := y
    dsimp only at hd
    subst hd
    obtain rfl := plainElem_true he hv
    refine .inr ⟨a, w', cnt', hla, hka, hrun, ⟨D, _, hrg, ⟨hok, h2, h3⟩, ?_, fun kl => ?_⟩, hlt, hgr, hsz, hen⟩
    · intro x hx
      simp only [Bool.and_eq_true] at hx
      exact h4 x hx.1
    · simp only [Bool.and_eq_true, Bool.not_eq_true', decide_eq_false_iff_not]
      rw [h5]
      constructor
      · rintro ⟨⟨x, hx, rfl⟩, hne⟩
        refine ⟨x, ⟨hx, fun e1 => ?_⟩, rfl⟩
        rw [e1, WideAt.sameKey_self (Kd.key (K.read a hka))] at hne
        cases hne
      · rintro ⟨x, ⟨hx, hne⟩, rfl⟩
        refine ⟨⟨x, hx, rfl⟩, Maps.sameKey_ne (fun e1 => hne ?_)⟩
        exact K.inj x a (hok x (h4 x hx)) hka e1
end
end Go.Proofs.YtnpcbcnclncniaaGreatDoor
namespace Go.Proofs.YtnpcbcnclncniaaGreatDoor
open Go.RowKit

theorem stk_some {w : World} {base n c size : Nat} {e : TypeId} {a : Option Addr} {xs : List Value} (h : w.ownsRow base e size (.slice a (n + 1) c) (n + 1) xs) : ∃ g, a = some ⟨g, 0, none⟩ ∧ base ≤ g ∧ n + 1 ≤ c ∧ c ≤ maxLen ∧ g < w.heap.size := by
  rcases h.2 with ⟨_, h0⟩ | ⟨g, c', cur, hv, h1, h2, h3, h4, _⟩
  · cases h0
  · injection hv with e1 _ e3
    subst e1 e3
    exact ⟨g, rfl, h1, h3, h4, (Array.getElem?_eq_some_iff.1 h2).1⟩
/-- The last one off. -/
theorem stk_pop {w : World} {base n g c size : Nat} {e : TypeId} {xs ys : List Value} (h : w.ownsRow base e size (.slice (some ⟨g, 0, none⟩) (n + 1) c) (n + 1) (xs ++ ys)) (hy : ys.length = size) :
    w.ownsRow base e size (.slice (some ⟨g, 0, none⟩) n c) n xs ∧ ∀ j u, ys[j]? = some u → w.cell? ⟨g, n * size + j, none⟩ = some u := by
  have hl : xs.length = n * size := by
    have := h.1
    rw [List.length_append, hy, Nat.succ_mul] at this
    omega
  rcases h.2 with ⟨hv, _⟩ | ⟨g', c', cur, hv, h1, h2, h3, h4, h5, h6⟩
  · cases hv
  · injection hv with e1 _ e3
    injection e1 with e1
    injection e1 with e1 _ _
    subst e1 e3
    refine ⟨⟨hl, .inr ⟨g, c, cur, rfl, h1, h2, by omega, h4, h5, ?_⟩⟩, fun j u hu => ?_⟩
    · have h7 := congrArg (fun l => l.take (n * size)) h6
      rw [List.take_take, ← hl, List.take_left, hl, Nat.min_eq_left (Nat.mul_le_mul_right _ (Nat.le_succ n))] at h7
      exact h7
    · have hj : j < size := by rw [← hy]; exact (List.getElem?_eq_some_iff.1 hu).1
      have h7 : (xs ++ ys)[n * size + j]? = some u := by
        rw [List.getElem?_append_right (by omega), hl, Nat.add_sub_cancel_left]
        exact hu
      rw [← h6, List.getElem?_take_of_lt (by rw [Nat.succ_mul]; omega)] at h7
      simp only [World.cell?, h2]
      simpa using h7
/-- It stays while its block stays. -/
theorem stk_same {w w' : World} {base n size : Nat} {e : TypeId} {v : Value} {xs : List Value} (h : w.ownsRow base e size v n xs) (hs : ∀ k, v.ownBlock = some k → w'.heap[k]? = w.heap[k]?) : w'.ownsRow base e size v n xs := by
  refine ⟨h.1, ?_⟩
  rcases h.2 with hv | ⟨g, c, cur, hv, h1, h2, h3⟩
  · exact .inl hv
  · refine .inr ⟨g, c, cur, hv, h1, ?_, h3⟩
    rw [hs g (by rw [hv]; rfl)]
    exact h2
theorem stk_block {w : World} {base n size : Nat} {e : TypeId} {v : Value} {xs : List Value} (h : w.ownsRow base e size v n xs) {k : Nat} (hk : v.ownBlock = some k) : base ≤ k ∧ k < w.heap.size ∧ ∃ cur, w.heap[k]? = some (.cells cur e (0, 0)) := by
  rcases h.2 with ⟨hv, _⟩ | ⟨g, c, cur, hv, h1, h2, h3⟩
  · rw [hv] at hk
    cases hk
  · rw [hv] at hk
    injection hk with hk
    subst hk
    exact ⟨h1, (Array.getElem?_eq_some_iff.1 h2).1, cur, h2⟩
end Go.Proofs.YtnpcbcnclncniaaGreatDoor
namespace Go.Proofs.YtnpcbcnclncniaaGreatDoor
open Go.RowKit

theorem keyedInt : Maps.Keyed Tryz.prog 3 := Maps.int_keyed Tryz.underlying3
theorem wf64 {n : Nat} (h : n < 9223372036854775808) : (Lit.int .i64 n).wf = true := by
  have h1 : IntKind.i64.min = -9223372036854775808 := by decide
  have h2 : IntKind.i64.max = 9223372036854775807 := by decide
  simp only [Lit.wf, h1, h2, Bool.and_eq_true, decide_eq_true_eq]
  omega
/-- States. -/
noncomputable def keyN (N : Nat) (h : N ≤ 9223372036854775808) : KeyEnc Tryz.prog 3 Nat where
  val q := .int .i64 q
  enc q := .int .i64 q
  ok q := q < N
  read q hq := Maps.keyOf_int_mk Tryz.underlying3 (wf64 (by omega))
  inj a b _ _ he := by injection he with _ he; omega

theorem laidOutK : laidOutB Tryz.prog = true := by kernel_rfl
theorem rowPlace : (132 : TypeId) < Tryz.prog.types.size := of_decide_eq_true (by kernel_rfl)
theorem widePlace : (match Tryz.prog.underlying 132 with | some (.array _ _) | some (.struct _) => true | _ => false) = true := by rw [Tryz.underlying132]
theorem deepPlace : Tryz.prog.keyTypeAt 2 132 = true := by kernel_rfl
set_option maxRecDepth 100000 in
theorem keyedPlace : Maps.Keyed Tryz.prog 132 := Maps.Keyed.of_law (deep_law_laid laidOutK (m := 2) (by omega) rowPlace deepPlace widePlace)
theorem cellsPlace : Tryz.prog.cellsOf 132 = 2 := by kernel_rfl
theorem cellsInt : Tryz.prog.cellsOf 3 = 1 := by kernel_rfl
theorem keyTPlace : Tryz.prog.keyType 132 = true := by kernel_rfl
theorem sizeTypes : ∃ m, Tryz.prog.types.size = m + 1 := Nat.exists_eq_succ_of_ne_zero (fun h => by
  have := rowPlace
  rw [h] at this
  exact absurd this (Nat.not_lt_zero _))
theorem keyOf_place {a b : Int} (wa : (Lit.int .i64 a).wf = true) (wb : (Lit.int .i64 b).wf = true) : keyOf Tryz.prog 132 (.agg #[.int .i64 a, .int .i64 b]) = some (.string (keyBytes [.int .i64 a, .int .i64 b])) := by
  obtain ⟨m, hm⟩ := sizeTypes
  unfold keyOf
  simp only [Tryz.underlying132]
  rw [if_pos (by simp [keyTPlace, Value.formed, Tryz.underlying132, cellsPlace]), hm]
  unfold Program.keyLits
  simp only [Tryz.underlying132, Value.cells]
  rw [if_pos (by rw [cellsPlace]; exact ⟨rfl, by simp⟩)]
  simp [List.mapM_cons, List.mapM_nil, Program.keyLits, Tryz.underlying3, cellsInt, wa, wb]
/-- Places. -/
noncomputable def keyP (N : Nat) (h : N ≤ 9223372036854775808) : KeyEnc Tryz.prog 132 (Nat × Nat) where
  val x := .agg #[.int .i64 x.1, .int .i64 x.2]
  enc x := .string (keyBytes [.int .i64 x.1, .int .i64 x.2])
  ok x := x.1 < N ∧ x.2 ≤ 3
  read x hx := keyOf_place (wf64 (by omega)) (wf64 (by omega))
  inj a b ha hb he := by
    have h1 := keyOf_place (wf64 (n := a.1) (by omega)) (wf64 (n := a.2) (by omega))
    have h2 := keyOf_place (wf64 (n := b.1) (by omega)) (wf64 (n := b.2) (by omega))
    have h3 := keyedPlace.inj (h1.trans (congrArg some he)) h2
    have h4 := Value.agg.inj h3
    clear h1 h2 h3 he
    simp only [Array.mk.injEq, List.cons.injEq, Value.int.injEq, true_and, and_true] at h4
    obtain ⟨a1, a2⟩ := a
    obtain ⟨b1, b2⟩ := b
    dsimp only at h4
    rw [show a1 = b1 by omega, show a2 = b2 by omega]
end Go.Proofs.YtnpcbcnclncniaaGreatDoor
namespace Go.Proofs.YtnpcbcnclncniaaGreatDoor
open Go.RowKit

/-- Blocks of cells stay. -/
def CellsStay (w w' : World) : Prop := ∀ (k : Nat) (vs : Array Value) (ty : TypeId) (fr : Nat × Nat), w.heap[k]? = some (.cells vs ty fr) → w'.heap[k]? = some (.cells vs ty fr)
theorem CellsStay.refl (w : World) : CellsStay w w := fun _ _ _ _ h => h
theorem CellsStay.trans {w w' w'' : World} (h : CellsStay w w') (k : CellsStay w' w'') : CellsStay w w'' := fun b vs ty fr h1 => k b vs ty fr (h b vs ty fr h1)
theorem CellsStay.below {w w' : World} (h : Below w.heap.size w w') : CellsStay w w' := fun k vs ty fr h1 => by
  rw [h.block k (Array.getElem?_eq_some_iff.1 h1).1]
  exact h1
theorem CellsStay.grown {w w' : World} {m : Nat} {es : Array MapEntry} {c : Nat} (h : w.grownBy w' (some m)) (hm : w.heap[m]? = some (.map es c)) : CellsStay w w' := fun k vs ty fr h1 => by
  rw [h.block k (Array.getElem?_eq_some_iff.1 h1).1 (fun e => by
    injection e with e
    rw [e, hm] at h1
    cases h1)]
  exact h1
theorem CellsStay.cell {w w' : World} (h : CellsStay w w') {p : Addr} {v : Value} (hc : w.cell? p = some v) : w'.cell? p = some v := by
  unfold World.cell? at hc ⊢
  cases hb : w.heap[p.block]? with
  | none => rw [hb] at hc; cases hc
  | some o =>
    cases o with
    | cells vs ty fr =>
      rw [h _ _ _ _ hb]
      rw [hb] at hc
      exact hc
    | _ => rw [hb] at hc; cases hc
theorem CellsStay.netKept {w w' : World} (h : CellsStay w w') : NetKept w w' := fun k vs ty fr h1 _ => h k vs ty fr h1
theorem NetAt.stay {w0 w w' : World} {b : Nat} {A : NetA} (h : NetAt w0 w b A) (hb : Below w0.heap.size w0 w') (hs : CellsStay w w') : NetAt w0 w' b A := by
  obtain ⟨M, ga, cap, ra, rc, h0, hbel, hbox, hown, hrows, hd⟩ := h
  refine ⟨M, ga, cap, ra, rc, h0, hb, hs _ _ _ _ hbox, own_move hown (fun x hx => ?_), fun q hq => (hrows q hq).move (fun x hx => ?_) hs.netKept, hd⟩
  · obtain ⟨cur, _, _, h3⟩ := own_ty hown hx
    rw [hs _ _ _ _ h3, h3]
  · obtain ⟨cur, _, _, h3⟩ := (hrows q hq).ty hx
    rw [hs _ _ _ _ h3, h3]

/-- Arrows as they are read. -/
def ArrAt (w0 w : World) (a : Option Addr) (l : List Arr) : Prop := ∀ (i : Nat) (x : Arr), l[i]? = some x → ∃ (rb off : Nat) (f : Value) (M : Nat), a = some ⟨rb, off, none⟩ ∧ rb < w.heap.size ∧
  w.cell? ⟨rb, off + i * 3, none⟩ = some (.int .i64 x.dst) ∧ w.cell? ⟨rb, off + i * 3 + 1, none⟩ = some (.bool x.takes.isNone) ∧ w.cell? ⟨rb, off + i * 3 + 2, none⟩ = some f ∧ FnOk M w0 w f x.takes
theorem ArrAt.stay {w0 w w' : World} {a : Option Addr} {l : List Arr} (h : ArrAt w0 w a l) (hs : CellsStay w w') : ArrAt w0 w' a l := fun i x hx => by
  obtain ⟨rb, off, f, M, h1, _, h3, h4, h5, h6⟩ := h i x hx
  have h3' := hs.cell h3
  exact ⟨rb, off, f, M, h1, cell_lt h3', h3', hs.cell h4, hs.cell h5, h6.kept hs.netKept⟩
theorem RowAt.arrows {M : Nat} {w0 w : World} {a : Option Addr} {c : Nat} {l : List Arr} (h : RowAt M w0 w a c l) : ArrAt w0 w a l := by
  intro i x hx
  obtain ⟨fs, hl, hown, hf⟩ := h
  have hil := (List.getElem?_eq_some_iff.1 hx).1
  obtain ⟨f, hfi⟩ : ∃ f, fs[i]? = some f := ⟨_, List.getElem?_eq_getElem (by omega)⟩
  obtain ⟨g, rfl, hg, cur, hcur, htk⟩ : ∃ g, a = some ⟨g, 0, none⟩ ∧ g < w.heap.size ∧ ∃ cur : Array Value, w.heap[g]? = some (.cells cur 128 (0, 0)) ∧ cur.toList.take (l.length * 3) = rowCells l fs := by
    rcases hown.2 with ⟨_, h0⟩ | ⟨g, c', cur, hv, h1, h2, h3, h4, h5, h6⟩
    · omega
    · injection hv with e1 _ _
      exact ⟨g, e1, (Array.getElem?_eq_some_iff.1 h2).1, cur, h2, h6⟩
  have hz : (List.zipWith arrCells l fs)[i]? = some (arrCells x f) := by
    rw [List.getElem?_zipWith, hx, hfi]
  have hcell : ∀ j u, (arrCells x f)[j]? = some u → w.cell? ⟨g, 0 + i * 3 + j, none⟩ = some u := fun j u hu => by
    have hj : j < 3 := (List.getElem?_eq_some_iff.1 hu).1
    have hf := flat_get 3 (by decide) (List.zipWith arrCells l fs) (fun r hr => by
      obtain ⟨k, hk, rfl⟩ := List.getElem_of_mem hr
      rw [List.getElem_zipWith]
      rfl) (i * 3 + j)
    rw [show (i * 3 + j) / 3 = i by omega, show (i * 3 + j) % 3 = j by omega, hz, Option.bind_some, hu] at hf
    have h7 : (rowCells l fs)[i * 3 + j]? = some u := hf
    rw [← htk, List.getElem?_take_of_lt (by omega)] at h7
    rw [Nat.zero_add]
    simp only [World.cell?, hcur]
    simpa using h7
  exact ⟨g, 0, f, M, rfl, hg, hcell 0 _ rfl, hcell 1 _ rfl, hcell 2 _ rfl, hf i x f hx hfi⟩
/-- A state's arrows. -/
theorem NetAt.heads {w0 w : World} {b : Nat} {A : NetA} (h : NetAt w0 w b A) {s : Nat} (hs : s < A.length) : ∃ (gb cap : Nat) (a : Option Addr) (c : Nat), w.cell? ⟨b, 0, none⟩ = some (.slice (some ⟨gb, 0, none⟩) A.length cap) ∧
    w.cell? ⟨gb, s, none⟩ = some (.slice a (rowN A s).length c) ∧ ArrAt w0 w a (rowN A s) := by
  obtain ⟨M, ga, cap, ra, rc, h0, hbel, hbox, hown, hrows, hd⟩ := h
  obtain ⟨gb, rfl⟩ : ∃ gb, ga = some ⟨gb, 0, none⟩ := by
    rcases hown.2 with ⟨_, h0⟩ | ⟨g, c, cur, hv, _⟩
    · omega
    · injection hv with e1
      exact ⟨g, e1⟩
  have hov : (outerV A ra rc)[s]? = some (.slice (ra s) (rowN A s).length (rc s)) := by
    unfold outerV
    rw [List.getElem?_map, List.getElem?_range hs]
    rfl
  exact ⟨gb, cap, ra s, rc s, BoxIs.cell (j := 0) hbox rfl, (own_cell hown hov).1, (hrows s hs).arrows⟩

theorem elem_intQ : ElemOk Tryz.prog 59 3 (.int .i64 0) 8 := by
  obtain ⟨i0, hi, hz0, hz1, hz2⟩ := info_parts (show (Tryz.prog.info? 3).map (fun i => (i.zero, i.size, i.bytes)) = some (some (.int .i64 0), 1, 8) by kernel_rfl)
  exact ⟨i0, Tryz.underlying59, hi, hz0, hz1, hz2, rfl⟩
set_option maxRecDepth 100000 in
/-- A number more. -/
theorem wp_appQ {ops : Array Oper} {rest : List Oper} {o : Oper} {act : Act} {Q : Exit → Act → World → Prop} {te : TypeId} {base : Nat} {wx : World} {a : Option Addr} {n cap : Nat} {xs : List Value} {q : Int}
    (hz : base ≤ wx.heap.size) (hO : wx.ownsRow base 3 1 (.slice a n cap) n xs) (hby : n ≤ 1000000000) (hgd : o.guard = none) (s x : Operand)
    (ho : o.op = .call { callee := .builtin .append, args := #[s, x], argTypes := #[59, 59] }) (hs : act.eval s = .slice a n cap) (hx : act.eval x = .slice (some ⟨wx.heap.size, 0, none⟩) 1 1)
    (h : ∀ g cap' w', w'.ownsRow base 3 1 (.slice (some ⟨g, 0, none⟩) (n + 1) cap') (n + 1) (xs ++ [.int .i64 q]) → wx.grownBy w' (Value.slice a n cap).ownBlock → wpList Tryz.prog ops Q rest (act.put o.dst (.slice (some ⟨g, 0, none⟩) (n + 1) cap')) w') :
    wpList Tryz.prog ops Q (o :: rest) act (wx.alloc (.cells #[.int .i64 q] te)) := by
  obtain ⟨i, ht, hi, hz0, hz1, hz2, hz3⟩ := elem_intQ
  have hba : base ≤ (wx.alloc (.cells #[.int .i64 q] te)).heap.size := by simp; omega
  refine wpList_append_lies _ hgd s x 59 ho base 3 i _ 1 8 ht hi hz0 hz1 hz2 hz3 (by decide) _ n xs hs (hO.alloc _) ⟨wx.heap.size, 0, none⟩ 1 1 [.int .i64 q] hx rfl (World.news_of_block (heap_alloc_new wx (.cells #[.int .i64 q] te))) (by simp [Value.oneCell']) (by decide) (by unfold maxLen; omega) (by omega) hba _ rfl ?_
  intro g cap' w' hown hgrow hat hlt
  refine h g cap' w' hown ?_
  exact (World.grownBy_alloc wx _ _).andThen hgrow (fun j hj => .inr hj)

/-- Where a map or a loop over one lies, an append to a row of the call's own changes nothing. -/
theorem grown_other {w w' : World} {base n size k : Nat} {e : TypeId} {v : Value} {xs : List Value} (hg : w.grownBy w' v.ownBlock) (ho : w.ownsRow base e size v n xs) (hk : k < w.heap.size) (hn : ∀ (vs : Array Value) (ty : TypeId) (fr : Nat × Nat), w.heap[k]? ≠ some (.cells vs ty fr)) : w'.heap[k]? = w.heap[k]? :=
  hg.block k hk (fun e1 => by
    obtain ⟨_, _, cur, h3⟩ := stk_block ho e1.symm
    exact hn _ _ _ h3)
theorem SetAt.notCells {P : Program} {k e : TypeId} {α : Type} {w : World} {m n : Nat} {S : α → Bool} {K : KeyEnc P k α} (h : SetAt w K e m n S) : ∀ (vs : Array Value) (ty : TypeId) (fr : Nat × Nat), w.heap[m]? ≠ some (.cells vs ty fr) := by
  obtain ⟨es, c, h1⟩ := h.map
  intro vs ty fr h2
  rw [h1] at h2
  cases h2
theorem RangeAt.notCells {P : Program} {k e : TypeId} {α : Type} {w : World} {m r n cnt : Nat} {S left : α → Bool} {K : KeyEnc P k α} (h : RangeAt w K e m r n S left cnt) : ∀ (vs : Array Value) (ty : TypeId) (fr : Nat × Nat), w.heap[r]? ≠ some (.cells vs ty fr) := by
  obtain ⟨D, L, ⟨es, clock, since, seen, c0, hb, _, _, _, hr, _⟩, _⟩ := h
  intro vs ty fr h2
  rw [hr] at h2
  cases h2

theorem zeroBool (w : World) : (zeroValue 4).run Tryz.prog w = .ok (.bool false) w := by kernel_rfl
section
variable {w : World} {ops : Array Oper} {rest : List Oper} {o : Oper} {a : Act} {Q : Exit → Act → World → Prop} {N m n r cnt : Nat} {hN : N ≤ 9223372036854775808} {S left : Nat → Bool}
/-- 'range' over a set of states. -/
theorem wp_rangeN (hg : o.guard = none) (x : Operand) (hop : o.op = Op.range 65 x) (hx : a.eval x = .map (some m)) (h : SetAt w (keyN N hN) 4 m n S)
    (hK : ∀ w' cnt, RangeAt w' (keyN N hN) 4 m w.heap.size n S S cnt → w.grownBy w' none → cnt ≤ n → wpList Tryz.prog ops Q rest (a.put o.dst (.pointer (some ⟨w.heap.size, 0, none⟩))) w') : wpList Tryz.prog ops Q (o :: rest) a w := by
  refine wpList_plain hg fun K' hK' => ?_
  obtain ⟨w', cnt, hrun, h1, h2, _, h4⟩ := h.range keyedInt Tryz.underlying65
  unfold Oper.wp
  simp [execOp, hop, hx, hrun, Result.andThen]
  exact hK' _ _ (hK w' cnt h1 h2 h4)
/-- The next one. -/
theorem wp_nextN (hg : o.guard = none) (it : Operand) (hop : o.op = Op.next it false) (hit : a.eval it = .pointer (some ⟨r, 0, none⟩)) (h : RangeAt w (keyN N hN) 4 m r n S left cnt)
    (hDone : (∀ q, left q = false) → wpList Tryz.prog ops Q rest (a.put o.dst (.tuple #[.bool false])) w)
    (hMore : ∀ (q : Nat) w' cnt', left q = true → q < N → RangeAt w' (keyN N hN) 4 m r n S (fun y => left y && !decide (y = q)) cnt' → cnt' < cnt → w.grownBy w' (some r) →
      (Instr.entry (.pointer (some ⟨r, 0, none⟩))).run Tryz.prog w' = .ok (.tuple #[.int .i64 q, .bool true]) w' → wpList Tryz.prog ops Q rest (a.put o.dst (.tuple #[.bool true, .int .i64 q, .bool true])) w') :
    wpList Tryz.prog ops Q (o :: rest) a w := by
  refine wpList_plain hg fun K' hK' => ?_
  unfold Oper.wp
  rcases h.next keyedInt Tryz.underlying4 o.type with ⟨hl, hrun⟩ | ⟨q, w', cnt', hl, hq, hrun, h1, h2, h3, _, h5⟩
  · simp [execOp, hop, hit, hrun, Result.andThen]
    exact hK' _ _ (hDone hl)
  · simp [execOp, hop, hit, hrun, Result.andThen]
    exact hK' _ _ (hMore q w' cnt' hl hq h1 h2 h3 h5)
theorem lookN (h : SetAt w (keyN N hN) 4 m n S) {q : Nat} (hq : q < N) : (Instr.lookup 65 (.map (some m)) (.int .i64 q) false).run Tryz.prog w = .ok (.bool (S q)) w :=
  h.look (a := q) keyedInt Tryz.underlying65 Tryz.underlying4 (zeroBool w) hq
theorem storeN (h : SetAt w (keyN N hN) 4 m n S) {q : Nat} (hq : q < N) (hn : n < 1000000000) :
    ∃ w', (Instr.mapUpdate 65 (.map (some m)) (.int .i64 q) (.bool true)).run Tryz.prog w = .ok () w' ∧ SetAt w' (keyN N hN) 4 m (n + 1) (ins S q) ∧ w.grownBy w' (some m) :=
  h.store (a := q) keyedInt Tryz.underlying65 Tryz.underlying4 (by unfold maxLen; omega) hq
end
end Go.Proofs.YtnpcbcnclncniaaGreatDoor
namespace Go.Proofs.YtnpcbcnclncniaaGreatDoor
open Go.RowKit

theorem list_ok : ∀ n, ListOk n
  | 0 => list_zero
  | n + 1 => list_of_part (part_of_list (list_ok n))

theorem RangeAt.sub {P : Program} {k e : TypeId} {α : Type} {w : World} {m r n cnt : Nat} {S left : α → Bool} {K : KeyEnc P k α} (h : RangeAt w K e m r n S left cnt) {q : α} (hq : left q = true) : S q = true := by
  obtain ⟨D, L, _, _, h3, _⟩ := h
  exact h3 q hq
abbrev vN (q : Nat) : Value := .int .i64 q
/-- A stack of states. -/
def StkN (base : Nat) (wx : World) (ga : Option Addr) (len cap : Nat) (l : List Nat) : Prop := l.length = len ∧ wx.ownsRow base 3 1 (.slice ga len cap) len (l.map vN)
theorem StkN.nil (base : Nat) (wx : World) : StkN base wx none 0 0 [] := ⟨rfl, World.ownsRow_nil _ _ _ _⟩
theorem StkN.keep {base : Nat} {w w' : World} {ga : Option Addr} {len cap k : Nat} {l : List Nat} (h : StkN base w ga len cap l) (hg : w.grownBy w' (some k)) (hn : ∀ (vs : Array Value) (ty : TypeId) (fr : Nat × Nat), w.heap[k]? ≠ some (.cells vs ty fr)) : StkN base w' ga len cap l := by
  refine ⟨h.1, stk_same h.2 (fun j hj => ?_)⟩
  obtain ⟨_, h2, cur, h3⟩ := stk_block h.2 hj
  exact hg.block j h2 (fun e => by
    injection e with e
    exact hn _ _ _ (e ▸ h3))
theorem StkN.alloc {base : Nat} {w : World} {ga : Option Addr} {len cap : Nat} {l : List Nat} (h : StkN base w ga len cap l) (o : Obj) : StkN base (w.alloc o) ga len cap l := ⟨h.1, h.2.alloc o⟩
theorem StkN.pop {base : Nat} {w : World} {ga : Option Addr} {k cap : Nat} {l : List Nat} (h : StkN base w ga (k + 1) cap l) : ∃ (g s : Nat) (l' : List Nat), ga = some ⟨g, 0, none⟩ ∧ l = l' ++ [s] ∧ StkN base w (some ⟨g, 0, none⟩) k cap l' ∧ w.cell? ⟨g, k, none⟩ = some (vN s) ∧ k + 1 ≤ cap ∧ cap ≤ maxLen := by
  obtain ⟨h1, h2⟩ := h
  obtain ⟨g, rfl, _, h3, h4, _⟩ := stk_some h2
  obtain ⟨l', s, rfl⟩ : ∃ l' s, l = l' ++ [s] := by
    rcases List.eq_nil_or_concat l with rfl | ⟨l', s, rfl⟩
    · cases h1
    · exact ⟨l', s, by simp⟩
  rw [List.map_append] at h2
  obtain ⟨h5, h6⟩ := stk_pop h2 rfl
  rw [List.length_append, List.length_singleton] at h1
  have h7 := h6 0 _ rfl
  rw [Nat.mul_one, Nat.add_zero] at h7
  exact ⟨g, s, l', rfl, rfl, ⟨by omega, h5⟩, h7, h3, h4⟩

/-- What names.net.closure leaves. -/
def ClosRes (A : NetA) (hN : A.length ≤ 9223372036854775808) (S : Nat → Bool) (m n : Nat) (w : World) (e : Ending) (w' : World) : Prop :=
  e = .returned (.tuple #[]) ∧ w.grownBy w' (some m) ∧ ∃ (T : Nat → Bool) (n' : Nat), SetAt w' (keyN A.length hN) 4 m n' T ∧ n' ≤ n + A.length ∧ ∀ q, T q = true ↔ fclos A (fun p => S p = true) q

/-- The gathering of a set's states. -/
def Gath (A : NetA) (hN : A.length ≤ 9223372036854775808) (S : Nat → Bool) (m r n : Nat) (w wx : World) (ga : Option Addr) (len cap c : Nat) : Prop :=
  ∃ (l : List Nat) (left : Nat → Bool), StkN w.heap.size wx ga len cap l ∧ RangeAt wx (keyN A.length hN) 4 m r n S left c ∧ w.grownBy wx none ∧ ∀ q, q ∈ l ↔ S q = true ∧ left q = false
/-- The closing, under way. -/
def Clsg (A : NetA) (hN : A.length ≤ 9223372036854775808) (S : Nat → Bool) (m n : Nat) (w wx : World) (ga : Option Addr) (len cap g : Nat) : Prop :=
  ∃ (l : List Nat) (T : Nat → Bool) (n' : Nat), StkN w.heap.size wx ga len cap l ∧ SetAt wx (keyN A.length hN) 4 m n' T ∧ w.grownBy wx (some m) ∧ Work (freeE A) (fun p => S p = true) (fun _ => False) T l ∧ n' + miss (List.range A.length) T ≤ n + A.length ∧ miss (List.range A.length) T + len ≤ g
/-- .. while one state's arrows are followed. -/
def Clin (A : NetA) (hN : A.length ≤ 9223372036854775808) (S : Nat → Bool) (m n s j : Nat) (w wx : World) (ga : Option Addr) (len cap g : Nat) : Prop :=
  ∃ (l : List Nat) (T : Nat → Bool) (n' : Nat), StkN w.heap.size wx ga len cap l ∧ SetAt wx (keyN A.length hN) 4 m n' T ∧ w.grownBy wx (some m) ∧ Mid (freeE A) (fun p => S p = true) (fun _ => False) T l s ∧ (∀ a ∈ (rowN A s).take j, a.takes = none → T a.dst = true) ∧ n' + miss (List.range A.length) T ≤ n + A.length ∧ miss (List.range A.length) T + len ≤ g

section
variable {A : NetA} {hN : A.length ≤ 9223372036854775808} {S : Nat → Bool} {m n r s j : Nat} {w wx w2 w3 : World} {ga : Option Addr} {len cap c g : Nat}
theorem Gath.more {l : List Nat} {left : Nat → Bool} {q cap' g' : Nat} {c2 : Nat} (h1 : StkN w.heap.size wx ga len cap l) (h3 : w.grownBy wx none) (h4 : ∀ q, q ∈ l ↔ S q = true ∧ left q = false) (hr : w.heap.size ≤ r) (hq : left q = true) (hSq : S q = true)
    (h5 : RangeAt w2 (keyN A.length hN) 4 m r n S (fun y => left y && !decide (y = q)) c2) (h6 : wx.grownBy w2 (some r)) (h0 : StkN w.heap.size w2 ga len cap l)
    (h7 : w3.ownsRow w.heap.size 3 1 (.slice (some ⟨g', 0, none⟩) (len + 1) cap') (len + 1) (l.map vN ++ [vN q])) (h8 : w2.grownBy w3 (Value.slice ga len cap).ownBlock) : Gath A hN S m r n w w3 (some ⟨g', 0, none⟩) (len + 1) cap' c2 := by
  refine ⟨l ++ [q], _, ⟨by rw [List.length_append, h1.1]; rfl, by rw [List.map_append]; exact h7⟩, h5.same (grown_other h8 h0.2 h5.lt.2.1 h5.set.notCells) (grown_other h8 h0.2 h5.lt.1 h5.notCells), ?_, fun x => ?_⟩
  · refine (h3.andThen h6 (fun k hk => .inl ?_)).andThen h8 (fun k hk => .inl (stk_block h0.2 hk).1)
    injection hk with hk
    omega
  · rw [List.mem_append, List.mem_singleton, h4]
    by_cases e : x = q
    · subst e
      simp [hSq]
    · simp [e]
/-- All are gathered. -/
theorem Gath.done {l : List Nat} {left : Nat → Bool} (h1 : StkN w.heap.size wx ga len cap l) (h2 : RangeAt wx (keyN A.length hN) 4 m r n S left c) (h3 : w.grownBy wx none) (h4 : ∀ q, q ∈ l ↔ S q = true ∧ left q = false) (hl : ∀ q, left q = false) :
    Clsg A hN S m n w wx ga len cap (A.length + len) := by
  have hm : miss (List.range A.length) S ≤ A.length := by
    have := miss_le (List.range A.length) S
    rwa [List.length_range] at this
  refine ⟨l, S, n, h1, h2.set, h3.but _, Work.begun (fun x => Iff.rfl) (fun x => ?_), by omega, by omega⟩
  rw [h4 x]
  simp [hl x]
theorem Clsg.pop {k : Nat} (h : Clsg A hN S m n w wx ga (k + 1) cap (g + 1)) : ∃ (g' s : Nat), ga = some ⟨g', 0, none⟩ ∧ wx.cell? ⟨g', k, none⟩ = some (vN s) ∧ k + 1 ≤ cap ∧ cap ≤ maxLen ∧ s < A.length ∧ Clin A hN S m n s 0 w wx (some ⟨g', 0, none⟩) k cap g := by
  obtain ⟨l, T, n', h1, h2, h3, h4, h5, h6⟩ := h
  obtain ⟨g', s, l', rfl, rfl, h7, h8, h9, h10⟩ := h1.pop
  refine ⟨g', s, rfl, h8, h9, h10, ?_, l', T, n', h7, h2, h3, h4.pop, fun a ha => by simp at ha, h5, by omega⟩
  obtain ⟨D, _, hok, _⟩ := h2
  exact hok s (h4.todo s (by simp))
theorem Clsg.none (h : Clsg A hN S m n w wx ga 0 cap g) : w.grownBy wx (some m) ∧ ∃ (T : Nat → Bool) (n' : Nat), SetAt wx (keyN A.length hN) 4 m n' T ∧ n' ≤ n + A.length ∧ ∀ q, T q = true ↔ fclos A (fun p => S p = true) q := by
  obtain ⟨l, T, n', h1, h2, h3, h4, h5, h6⟩ := h
  obtain rfl : l = [] := List.length_eq_zero_iff.1 h1.1
  exact ⟨h3, T, n', h2, by omega, clos_all h4⟩
/-- An arrow that changes nothing. -/
theorem Clin.skip {x : Arr} {l : List Nat} {T : Nat → Bool} {n' : Nat} (h1 : StkN w.heap.size wx ga len cap l) (h2 : SetAt wx (keyN A.length hN) 4 m n' T) (h3 : w.grownBy wx (some m)) (h4 : Mid (freeE A) (fun p => S p = true) (fun _ => False) T l s)
    (h5 : ∀ a ∈ (rowN A s).take j, a.takes = none → T a.dst = true) (h6 : n' + miss (List.range A.length) T ≤ n + A.length) (h7 : miss (List.range A.length) T + len ≤ g) (hx : (rowN A s)[j]? = some x) (hs : x.takes = none → T x.dst = true) : Clin A hN S m n s (j + 1) w wx ga len cap g := by
  refine ⟨l, T, n', h1, h2, h3, h4, fun a ha ht => ?_, h6, h7⟩
  rw [List.take_add_one, hx, Option.toList_some, List.mem_append, List.mem_singleton] at ha
  rcases ha with ha | rfl
  · exact h5 a ha ht
  · exact hs ht
theorem Clin.finish (h : Clin A hN S m n s j w wx ga len cap g) (hj : (rowN A s).length ≤ j) : Clsg A hN S m n w wx ga len cap g := by
  obtain ⟨l, T, n', h1, h2, h3, h4, h5, h6, h7⟩ := h
  refine ⟨l, T, n', h1, h2, h3, h4.finish id (fun y hy => ?_), h6, h7⟩
  obtain ⟨a, ha, ht, rfl⟩ := hy
  exact h5 a (by rw [List.take_of_length_le hj]; exact ha) ht
theorem Clin.alloc (h : Clin A hN S m n s j w wx ga len cap g) (o : Obj) : Clin A hN S m n s j w (wx.alloc o) ga len cap g := by
  obtain ⟨l, T, n', h1, h2, h3, h4, h5, h6, h7⟩ := h
  exact ⟨l, T, n', h1.alloc o, h2.same (Below.heap_alloc _ _ _ h2.lt), h3.andThen (World.grownBy_alloc wx o none) (fun k hk => by cases hk), h4, h5, h6, h7⟩
/-- A state is found. -/
theorem Clin.push {x : Arr} {l : List Nat} {T : Nat → Bool} {n' cap' g' : Nat} (hw : WF A) (h1 : StkN w.heap.size wx ga len cap l) (h3 : w.grownBy wx (some m)) (h4 : Mid (freeE A) (fun p => S p = true) (fun _ => False) T l s)
    (h5 : ∀ a ∈ (rowN A s).take j, a.takes = none → T a.dst = true) (h6 : n' + miss (List.range A.length) T ≤ n + A.length) (h7 : miss (List.range A.length) T + len ≤ g) (hx : (rowN A s)[j]? = some x) (ht : x.takes = none) (hT : T x.dst = false)
    (h8 : SetAt w2 (keyN A.length hN) 4 m (n' + 1) (ins T x.dst)) (h9 : wx.grownBy w2 (some m)) (h0 : StkN w.heap.size w2 ga len cap l)
    (ho : w3.ownsRow w.heap.size 3 1 (.slice (some ⟨g', 0, none⟩) (len + 1) cap') (len + 1) (l.map vN ++ [vN x.dst])) (hg : w2.grownBy w3 (Value.slice ga len cap).ownBlock) : Clin A hN S m n s (j + 1) w w3 (some ⟨g', 0, none⟩) (len + 1) cap' g := by
  have hmem := List.mem_of_getElem? hx
  have hd : x.dst < A.length := hw s x hmem
  have hms := miss_ins (U := List.range A.length) (T := T) (a := x.dst) List.nodup_range (List.mem_range.2 hd) hT
  refine ⟨l ++ [x.dst], ins T x.dst, n' + 1, ⟨by rw [List.length_append, h1.1]; rfl, by rw [List.map_append]; exact ho⟩, h8.same (grown_other hg h0.2 h8.lt h8.notCells), ?_, h4.push ⟨x, hmem, ht, rfl⟩, fun a ha hta => ?_, by omega, by omega⟩
  · exact (h3.andThen h9 (fun k hk => .inr hk)).andThen hg (fun k hk => .inl (stk_block h0.2 hk).1)
  · rw [List.take_add_one, hx, Option.toList_some, List.mem_append, List.mem_singleton] at ha
    rcases ha with ha | rfl
    · exact ins_of (h5 a ha hta)
    · exact ins_self T _
end

/-- The net stays while the set is written. -/
theorem NetAt.during {w0 w wx : World} {b m : Nat} {A : NetA} (h : NetAt w0 w b A) (h0 : w0.heap.size ≤ m) {es : Array MapEntry} {cl : Nat} (hm : w.heap[m]? = some (.map es cl)) (hg : w.grownBy wx (some m)) : NetAt w0 wx b A :=
  h.stay (h.below.grown hg h.below.size (fun k hk => by cases hk; exact h0)) (CellsStay.grown hg hm)
end Go.Proofs.YtnpcbcnclncniaaGreatDoor
namespace Go.Proofs.YtnpcbcnclncniaaGreatDoor
open Go.RowKit

set_option maxHeartbeats 4000000 in
set_option maxRecDepth 100000 in
theorem closure_any {w0 : World} {b m n : Nat} {A : NetA} {S : Nat → Bool} (hN : A.length ≤ 9223372036854775808) (w : World) (h : NetAt w0 w b A) (hw : WF A) (hA : mA A ≤ 100000000) (hS : SetAt w (keyN A.length hN) 4 m n S) (hn : n ≤ 500000000) :
    Calls Tryz.prog 51 #[.pointer (some ⟨b, 0, none⟩), .map (some m)] w (ClosRes A hN S m n w) := by
  have hAl : A.length ≤ 100000000 := Nat.le_trans (mA_len A) hA
  have HNet := Lib.hid h
  have HStay := Lib.hid (fun wx (hg : w.grownBy wx (some m)) => (by obtain ⟨es, cl, hm⟩ := hS.map; exact CellsStay.grown hg hm : CellsStay w wx))
  have HRow := Lib.hid (fun s => Nat.le_trans (mA_row A s) hA)
  have HW := Lib.hid hw
  have HS := Lib.hid hS
  clear h hw hA hS
  go_enter Tryz.func51, Tryz.ntmps51
  go_wp2_with (at_range; refine wp_rangeN rfl (.tmp 9) rfl rfl HS.out ?_; intro w1 c1 hR1 hg1 hc1)
  go_frame
  have HI : Hid (Gath A hN S m w.heap.size n w w1 none 0 0 c1) := Lib.hid ⟨[], S, StkN.nil _ _, hR1, hg1, fun q => by
    cases hq : S q <;> simp⟩
  clear hR1 hg1
  go_loopg [4] n (fun g s4 wx => ∃ (ga : Option Addr) (len cap c : Nat), s4 = .slice ga len cap ∧ c ≤ g ∧ len + c ≤ n ∧ Hid (Gath A hN S m w.heap.size n w wx ga len cap c))
  case atStart => exact ⟨none, 0, 0, c1, rfl, hc1, by omega, HI⟩
  case round =>
    clear HI
    obtain ⟨ga, len, cap, c, rfl, hcg, hlen, HG⟩ := hrel
    obtain ⟨l, left, h1, h2, h3, h4⟩ := HG.out
    have H1 := Lib.hid h1
    have H3 := Lib.hid h3
    have H4 := Lib.hid h4
    have hz : w.heap.size ≤ wr.heap.size := h3.size
    clear h1 h3 h4 HG
    go_wp2_with (at_next; refine wp_nextN rfl (.tmp 10) rfl rfl h2 ?_ ?_)
    · intro hl
      have HD := Lib.hid (Gath.done H1.out h2 H3.out H4.out hl)
      clear h2 hl H1 H3 H4
      go_wp2_with fail
      go_loopg [4] (A.length + len) (fun g s4 wx => ∃ (ga : Option Addr) (len cap : Nat), s4 = .slice ga len cap ∧ g ≤ 700000000 ∧ Hid (Clsg A hN S m n w wx ga len cap g))
      case atStart => exact ⟨ga, len, cap, rfl, by omega, HD⟩
      case round =>
        clear HD hcg hlen hz
        obtain ⟨ga, len, cap, rfl, hgb, HC⟩ := hrel
        rcases Nat.eq_zero_or_pos len with rfl | hpos
        · obtain ⟨hg, T, n', hT⟩ := HC.out.none
          have HT := Lib.hid (And.intro hg hT)
          clear hg hT HC
          go_wp2_with fail
          go_end0
          exact ⟨rfl, HT.out.1, _, _, HT.out.2⟩
        · obtain ⟨g, rfl⟩ : ∃ g, gk = g + 1 := ⟨gk - 1, by
            obtain ⟨l, T, n', _, _, _, _, _, h6⟩ := HC.out
            omega⟩
          obtain ⟨k, hk⟩ : ∃ k, len = k + 1 := ⟨len - 1, by omega⟩
          obtain ⟨g', s, rfl, hcell, hcap, hcm, hs, HCl⟩ := (hk ▸ HC.out : Clsg A hN S m n w wr ga (k + 1) cap (g + 1)).pop
          have hposI : (0 : Int) < (len : Int) := by omega
          have hdec : decide (0 < len) = true := decide_eq_true hpos
          have hkI : (len : Int) - 1 = (k : Int) := by omega
          have hkl : (k : Int) < (len : Int) := by omega
          have hkc : (k : Int) ≤ (cap : Int) := by omega
          have hk0 : (0 : Int) ≤ (k : Int) := by omega
          have hlm : len ≤ maxLen := by omega
          have HClin := Lib.hid HCl
          have hgr : w.grownBy wr (some m) := by
            obtain ⟨l, T, n', _, _, h3, _⟩ := HC.out
            exact h3
          obtain ⟨gb, cap2, ra, rc, cb0, cgb0, harr⟩ := HNet.out.heads hs
          have cb := (HStay.out wr hgr).cell cb0
          have cgb := (HStay.out wr hgr).cell cgb0
          have HArr := Lib.hid harr
          have HRl := Lib.hid (HRow.out s)
          have hsI : (s : Int) < (A.length : Int) := by omega
          have hkb : (k : Int) ≤ 9223372036854775806 := by
            have : maxLen = 9223372036854775807 := rfl
            omega
          have HKl := Lib.hid hk
          clear hgr harr HCl HC hk hpos cb0 cgb0
          change wr.cell? ⟨g', k, none⟩ = some (.int .i64 s) at hcell
          generalize hRL : (rowN A s).length = RL at *
          have HRL := Lib.hid hRL
          clear hRL
          go_wp2_with fail
          go_loopg [4, 41] RL (fun gi s4 s41 wx => ∃ (j : Nat) (ga : Option Addr) (len cap : Nat), j + gi = RL ∧ s41 = .int .i64 j ∧ s4 = .slice ga len cap ∧ Hid (Clin A hN S m n s j w wx ga len cap g))
          case atStart => exact ⟨0, _, k, cap, by omega, rfl, by go_num, HClin⟩
          case round =>
            clear HClin hcell hcap hcm hposI hkI hkl hkc hk0 hlm hkb cb cgb
            obtain ⟨j, ga, len, cap, hj, rfl, rfl, HI⟩ := hrel
            by_cases hlt : j < RL
            · obtain ⟨gi, rfl⟩ : ∃ gi, gk = gi + 1 := ⟨gk - 1, by omega⟩
              have hltI : (j : Int) < (RL : Int) := by omega
              have hj0 : (0 : Int) ≤ (j : Int) := by omega
              have hRl := HRl.out
              obtain ⟨x, hx⟩ : ∃ x, (rowN A s)[j]? = some x := ⟨_, List.getElem?_eq_getElem (by rw [HRL.out]; exact hlt)⟩
              have hgr2 : w.grownBy wr (some m) := by
                obtain ⟨l, T, n', _, _, h3, _⟩ := HI.out
                exact h3
              obtain ⟨rb, off, f, M, ha, hrb, r0, r1, r2, hf⟩ := (HArr.out.stay (HStay.out wr hgr2)) j x hx
              subst ha
              have HX := Lib.hid hx
              have hzz : w.heap.size ≤ wr.heap.size := hgr2.size
              have hdst : x.dst < A.length := HW.out s x (List.mem_of_getElem? hx)
              clear hgr2 hx
              cases htk : x.takes with
              | some t =>
                rw [htk] at hf r1
                obtain ⟨F, kb, vs, ty, rfl, _⟩ := hf
                have HNx := Lib.hid (((by
                  obtain ⟨l, T, n', h1, h2, h3, h4, h5, h6, h7⟩ := HI.out
                  exact Clin.skip h1 h2 h3 h4 h5 h6 h7 HX.out (fun h => by rw [htk] at h; cases h)) : Clin A hN S m n s (j + 1) w wr ga len cap g).alloc (.cells #[.int .i64 x.dst, .bool false, .func (.func F) #[] #[.pointer (some ⟨kb, 0, none⟩)]] 128))
                clear HI htk
                go_wp2_with fail
                go_roundg gi
                case measure => omega
                case rel => exact ⟨j + 1, ga, len, cap, by omega, by go_num, rfl, HNx⟩
              | none =>
                rw [htk] at hf r1
                obtain rfl := hf
                have HTk := Lib.hid htk
                clear htk
                have HI1 := Lib.hid (HI.out.alloc (.cells #[.int .i64 x.dst, .bool true, .nilFunc] 128))
                have HB := Lib.hid (BoxIs.new wr #[.int .i64 x.dst, .bool true, .nilFunc] 128)
                have hz2 : w.heap.size ≤ (wr.alloc (.cells #[.int .i64 x.dst, .bool true, .nilFunc] 128)).heap.size := Nat.le_trans hzz (by simp)
                clear HI
                go_upto_region 11 with fail
                clear r0 r1 r2
                have c0 := BoxIs.cell (j := 0) HB.out rfl
                have c1 := BoxIs.cell (j := 1) HB.out rfl
                obtain ⟨l, T, n', h1, h2, h3, h4, h5, h6, h7⟩ := HI1.out
                have HC := Lib.hid (And.intro h1 (And.intro h2 (And.intro h3 (And.intro h4 (And.intro h5 (And.intro h6 h7))))))
                have hlook := lookN h2 hdst
                clear HI1 h1 h3 h4 h5 h6 h7
                generalize hbx : wr.heap.size = bx at *
                generalize hw4 : wr.alloc _ = w4 at *
                clear hw4
                cases hT : T x.dst with
                | true =>
                  rw [hT] at hlook
                  have HNx : Hid (Clin A hN S m n s (j + 1) w w4 ga len cap g) := Lib.hid (Clin.skip HC.out.1 HC.out.2.1 HC.out.2.2.1 HC.out.2.2.2.1 HC.out.2.2.2.2.1 HC.out.2.2.2.2.2.1 HC.out.2.2.2.2.2.2 HX.out (fun _ => hT))
                  clear hT h2 HC
                  go_wp2_with fail
                  go_roundg gi
                  case measure => omega
                  case rel => exact ⟨j + 1, ga, len, cap, by omega, by go_num, rfl, HNx⟩
                | false =>
                  rw [hT] at hlook
                  obtain ⟨w5, hrun, h8, h9⟩ := storeN h2 hdst (by have := HC.out.2.2.2.2.2.1; omega)
                  have h0 := HC.out.1.keep h9 h2.notCells
                  have hst : CellsStay w4 w5 := by
                    obtain ⟨es, cl, hm⟩ := h2.map
                    exact CellsStay.grown h9 hm
                  have d0 := hst.cell c0
                  have d1 := hst.cell c1
                  have HO := Lib.hid h0.2
                  have hz5 : w.heap.size ≤ w5.heap.size := Nat.le_trans hz2 h9.size
                  have hl9 : len ≤ 1000000000 := by
                    have h7 := HC.out.2.2.2.2.2.2
                    omega
                  have HP := Lib.hid (fun g' cap' w6 (ho : w6.ownsRow w.heap.size 3 1 (.slice (some ⟨g', 0, none⟩) (len + 1) cap') (len + 1) (l.map vN ++ [vN x.dst])) (hg : w5.grownBy w6 (Value.slice ga len cap).ownBlock) => Clin.push HW.out HC.out.1 HC.out.2.2.1 HC.out.2.2.2.1 HC.out.2.2.2.2.1 HC.out.2.2.2.2.2.1 HC.out.2.2.2.2.2.2 HX.out HTk.out hT h8 h9 h0 ho hg)
                  clear hT h2 HC h8 h9 h0 hst
                  go_wp2_with (at_builtin; refine wp_appQ hz5 HO.out hl9 rfl (.tmp 57) (.tmp 60) rfl rfl rfl ?_; intro g' cap' w6 hown6 hg6; have HN6 := Lib.hid (HP.out g' cap' w6 hown6 hg6); clear hown6 hg6)
                  go_roundg gi
                  case measure => omega
                  case rel => exact ⟨j + 1, _, len + 1, cap', by omega, by go_num, rfl, HN6⟩
            · have HD : Hid (Clsg A hN S m n w wr ga len cap g) := Lib.hid (HI.out.finish (by rw [HRL.out]; omega))
              have hltF : ¬ (j : Int) < (RL : Int) := by omega
              clear HI
              go_wp2_with fail
              go_roundg g
              case measure => omega
              case rel => exact ⟨ga, len, cap, rfl, by omega, HD⟩
    · intro q w2 c2 hlq hqN hR2 hc2 hg2 hen
      have HR2 := Lib.hid hR2
      have HG2 := Lib.hid hg2
      have HQ := Lib.hid (And.intro hlq (h2.sub hlq))
      have H1' := Lib.hid (H1.out.keep hg2 h2.notCells)
      have HO := Lib.hid H1'.out.2
      have hz2 : w.heap.size ≤ w2.heap.size := Nat.le_trans hz hg2.size
      have hl9 : len ≤ 1000000000 := by omega
      obtain ⟨g, rfl⟩ : ∃ g, gk = g + 1 := ⟨gk - 1, by omega⟩
      clear hlq hR2 hg2 h2
      go_wp2_with (at_builtin; refine wp_appQ hz2 HO.out hl9 rfl (.tmp 15) (.tmp 17) rfl rfl rfl ?_; intro g' cap' w3 hown3 hg3; have HN3 := Lib.hid (Gath.more H1.out H3.out H4.out (Nat.le_refl _) HQ.out.1 HQ.out.2 HR2.out HG2.out H1'.out hown3 hg3); clear hown3 hg3)
      go_roundg g
      case measure => omega
      case rel => exact ⟨_, len + 1, cap', c2, by go_num, by omega, by omega, HN3⟩
end Go.Proofs.YtnpcbcnclncniaaGreatDoor
namespace Go.Proofs.YtnpcbcnclncniaaGreatDoor
open Go.RowKit

theorem nodup_le {β : Type} [DecidableEq β] : ∀ (l U : List β), l.Nodup → (∀ x ∈ l, x ∈ U) → l.length ≤ U.length
  | [], _, _, _ => Nat.zero_le _
  | x :: l, U, hn, hs => by
    obtain ⟨h1, h2⟩ := List.nodup_cons.1 hn
    have hx := hs x (by simp)
    have h3 := nodup_le l (U.erase x) h2 (fun y hy => by
      have hyx : y ≠ x := fun e => h1 (e ▸ hy)
      exact (List.mem_erase_of_ne hyx).2 (hs y (by simp [hy])))
    rw [List.length_erase_of_mem hx] at h3
    have := List.length_pos_of_mem hx
    rw [List.length_cons]
    omega
/-- A set has no more members than there are keys. -/
theorem SetAt.few {P : Program} {k e : TypeId} {α : Type} {w : World} {m n : Nat} {S : α → Bool} {K : KeyEnc P k α} (h : SetAt w K e m n S) (Kd : Maps.Keyed P k) (U : List α) (hU : ∀ a, K.ok a → a ∈ U) : SetAt w K e m U.length S := by
  classical
  obtain ⟨D, h1, hok, h2, h3⟩ := h
  have ht := h1.tidy Kd
  refine ⟨D, ?_, hok, h2, h3⟩
  obtain ⟨es, clock, hb, F, hs, hD⟩ := h1
  refine ⟨es, clock, hb, F, ?_, hD⟩
  obtain ⟨l, hl, hp⟩ := ht
  have e1 : l.length = es.size := by
    rw [hl] at hD
    injection hD with hD
    rw [hD, length_sorted]
    simp
  rw [← e1]
  have h4 := nodup_le (l.map (·.1)) (U.map K.enc) (List.pairwise_map.2 hp) (fun kl hkl => by
    obtain ⟨p, hp1, rfl⟩ := List.mem_map.1 hkl
    have hk : WideAt.IsKeyLit p.1 := by
      rw [hl] at hD
      injection hD with hD
      rw [hD] at hp1
      obtain ⟨x, hx, rfl⟩ := List.mem_map.1 (mem_sorted.1 hp1)
      obtain ⟨y, hy⟩ := F.reads x hx
      rw [WideElems.rg_of hy]
      exact Kd.key (WideElems.rd_key hy)
    obtain ⟨a, ha, hae⟩ := (h2 p.1).1 (by
      rw [hl]
      exact List.any_eq_true.2 ⟨p, hp1, WideAt.sameKey_self hk⟩)
    exact List.mem_map.2 ⟨a, hU a (hok a ha), hae⟩)
  rw [List.length_map, List.length_map] at h4
  exact h4
theorem SetAt.small {w : World} {N m n : Nat} {hN : N ≤ 9223372036854775808} {S : Nat → Bool} {e : TypeId} (h : SetAt w (keyN N hN) e m n S) : SetAt w (keyN N hN) e m N S := by
  have h1 := h.few keyedInt (List.range N) (fun a ha => List.mem_range.2 ha)
  rwa [List.length_range] at h1
/-- A set of the net's states. -/
def StSet (A : NetA) (hN : A.length ≤ 9223372036854775808) (w : World) (m : Nat) (S : Nat → Bool) : Prop := SetAt w (keyN A.length hN) 4 m A.length S

/-- An arrow leads from a state to another by a byte. -/
def hit (A : NetA) (c : UInt8) (p q : Nat) : Prop := ∃ a ∈ rowN A p, ∃ t, a.takes = some t ∧ t c = true ∧ a.dst = q
theorem step_hit {A : NetA} {S : Nat → Prop} {T : Nat → Bool} {c : UInt8} (h : ∀ q, T q = true ↔ ∃ p, S p ∧ hit A c p q) (q : Nat) : fclos A (fun p => T p = true) q ↔ stepN A S c q := by
  unfold fclos stepN
  constructor
  · rintro ⟨d, hd, hp⟩
    obtain ⟨p, h1, a, h2, t, h3, h4, rfl⟩ := (h d).1 hd
    exact ⟨p, a, t, h1, h2, h3, h4, hp⟩
  · rintro ⟨p, a, t, h1, h2, h3, h4, hp⟩
    exact ⟨a.dst, (h _).2 ⟨p, h1, a, h2, t, h3, h4, rfl⟩, hp⟩

/-- What names.net.step leaves. -/
def StepRes (A : NetA) (hN : A.length ≤ 9223372036854775808) (S : Nat → Bool) (c : UInt8) (w : World) (e : Ending) (w' : World) : Prop :=
  ∃ (m' : Nat) (T : Nat → Bool), e = .returned (.map (some m')) ∧ w.heap.size ≤ m' ∧ StSet A hN w' m' T ∧ Below w.heap.size w w' ∧ ∀ q, T q = true ↔ stepN A (fun p => S p = true) c q

/-- The step, under way. -/
def Stpg (A : NetA) (hN : A.length ≤ 9223372036854775808) (S : Nat → Bool) (c : UInt8) (m r m1 : Nat) (w wx : World) (cnt : Nat) : Prop :=
  ∃ T left : Nat → Bool, StSet A hN wx m1 T ∧ RangeAt wx (keyN A.length hN) 4 m r A.length S left cnt ∧ Below w.heap.size w wx ∧ ∀ q, T q = true ↔ ∃ p, (S p = true ∧ left p = false) ∧ hit A c p q
/-- .. while one state's arrows are followed. -/
def Stpi (A : NetA) (hN : A.length ≤ 9223372036854775808) (S T0 left : Nat → Bool) (c : UInt8) (m r m1 s j : Nat) (w wx : World) (cnt : Nat) : Prop :=
  ∃ T : Nat → Bool, StSet A hN wx m1 T ∧ RangeAt wx (keyN A.length hN) 4 m r A.length S left cnt ∧ Below w.heap.size w wx ∧ ∀ q, T q = true ↔ T0 q = true ∨ ∃ a ∈ (rowN A s).take j, ∃ t, a.takes = some t ∧ t c = true ∧ a.dst = q

section
variable {A : NetA} {hN : A.length ≤ 9223372036854775808} {S T0 left : Nat → Bool} {m m1 r s j cnt : Nat} {c : UInt8} {w wx w2 : World}
theorem StSet.under {T : Nat → Bool} (h : StSet A hN wx m1 T) (hb : Below wx.heap.size wx w2) : StSet A hN w2 m1 T := SetAt.same h (hb.block m1 h.lt)
theorem RangeAt.under {P : Program} {k e : TypeId} {α : Type} {n : Nat} {S left : α → Bool} {K : KeyEnc P k α} (h : RangeAt wx K e m r n S left cnt) (hb : Below wx.heap.size wx w2) : RangeAt w2 K e m r n S left cnt := h.same (hb.block m h.lt.2.1) (hb.block r h.lt.1)
theorem Stpi.under (h : Stpi A hN S T0 left c m r m1 s j w wx cnt) (hb : Below wx.heap.size wx w2) : Stpi A hN S T0 left c m r m1 s j w w2 cnt := by
  obtain ⟨T, h1, h2, h3, h4⟩ := h
  exact ⟨T, h1.under hb, h2.under hb, bTrans h3 hb, h4⟩
theorem Stpi.skip {x : Arr} (h : Stpi A hN S T0 left c m r m1 s j w wx cnt) (hx : (rowN A s)[j]? = some x) (hs : ∀ t, x.takes = some t → t c = false) : Stpi A hN S T0 left c m r m1 s (j + 1) w wx cnt := by
  obtain ⟨T, h1, h2, h3, h4⟩ := h
  refine ⟨T, h1, h2, h3, fun q => ?_⟩
  rw [h4, List.take_add_one, hx, Option.toList_some]
  constructor
  · rintro (h | ⟨a, ha, h⟩)
    · exact .inl h
    · exact .inr ⟨a, List.mem_append.2 (.inl ha), h⟩
  · rintro (h | ⟨a, ha, t, h5, h6, h7⟩)
    · exact .inl h
    · rcases List.mem_append.1 ha with ha | ha
      · exact .inr ⟨a, ha, t, h5, h6, h7⟩
      · rw [List.mem_singleton.1 ha] at h5
        rw [hs t h5] at h6
        cases h6
theorem Stpi.add {x : Arr} {T : Nat → Bool} {t : UInt8 → Bool} (h2 : RangeAt wx (keyN A.length hN) 4 m r A.length S left cnt) (h3 : Below w.heap.size w wx) (h4 : ∀ q, T q = true ↔ T0 q = true ∨ ∃ a ∈ (rowN A s).take j, ∃ t, a.takes = some t ∧ t c = true ∧ a.dst = q)
    (hx : (rowN A s)[j]? = some x) (ht : x.takes = some t) (htc : t c = true) (h5 : SetAt w2 (keyN A.length hN) 4 m1 (A.length + 1) (ins T x.dst)) (h6 : wx.grownBy w2 (some m1)) (hm : w.heap.size ≤ m1) (hne : m ≠ m1) (hne2 : r ≠ m1) : Stpi A hN S T0 left c m r m1 s (j + 1) w w2 cnt := by
  refine ⟨ins T x.dst, h5.small, h2.same (h6.block m h2.lt.2.1 (fun e => hne (by injection e))) (h6.block r h2.lt.1 (fun e => hne2 (by injection e))), h3.grown h6 h3.size (fun k hk => by cases hk; exact hm), fun q => ?_⟩
  rw [ins_iff, h4, List.take_add_one, hx, Option.toList_some]
  constructor
  · rintro (rfl | h | ⟨a, ha, h⟩)
    · exact .inr ⟨x, by simp, t, ht, htc, rfl⟩
    · exact .inl h
    · exact .inr ⟨a, List.mem_append.2 (.inl ha), h⟩
  · rintro (h | ⟨a, ha, h⟩)
    · exact .inr (.inl h)
    · rcases List.mem_append.1 ha with ha | ha
      · exact .inr (.inr ⟨a, ha, h⟩)
      · rw [List.mem_singleton.1 ha] at h
        obtain ⟨_, _, _, h⟩ := h
        exact .inl h.symm
theorem Stpi.finish {left0 : Nat → Bool} (h : Stpi A hN S T0 (fun y => left0 y && !decide (y = s)) c m r m1 s j w wx cnt) (hj : (rowN A s).length ≤ j) (hS : S s = true) (h0 : ∀ q, T0 q = true ↔ ∃ p, (S p = true ∧ left0 p = false) ∧ hit A c p q) (hl : left0 s = true) : Stpg A hN S c m r m1 w wx cnt := by
  obtain ⟨T, h1, h2, h3, h4⟩ := h
  refine ⟨T, _, h1, h2, h3, fun q => ?_⟩
  rw [h4, h0, List.take_of_length_le hj]
  constructor
  · rintro (⟨p, ⟨h5, h6⟩, h7⟩ | h)
    · exact ⟨p, ⟨h5, by simp [h6]⟩, h7⟩
    · exact ⟨s, ⟨hS, by simp⟩, h⟩
  · rintro ⟨p, ⟨h5, h6⟩, h7⟩
    by_cases e : p = s
    · subst e
      exact .inr h7
    · simp [e] at h6
      exact .inl ⟨p, ⟨h5, h6⟩, h7⟩
end

set_option maxHeartbeats 4000000 in
set_option maxRecDepth 100000 in
theorem step_any {w0 : World} {b m : Nat} {A : NetA} {S : Nat → Bool} (hN : A.length ≤ 9223372036854775808) (c : UInt8) (w : World) (h : NetAt w0 w b A) (hw : WF A) (hA : mA A ≤ 100000000) (hS : StSet A hN w m S) :
    Calls Tryz.prog 52 #[.pointer (some ⟨b, 0, none⟩), .map (some m), .int .u8 c.toNat] w (StepRes A hN S c w) := by
  have hAl : A.length ≤ 100000000 := Nat.le_trans (mA_len A) hA
  have HNet := Lib.hid h
  have HRow := Lib.hid (fun s => Nat.le_trans (mA_row A s) hA)
  have HW := Lib.hid hw
  have HmA := Lib.hid hA
  have hml : m < w.heap.size := hS.lt
  have hb1 : Below w.heap.size w (w.alloc (.map #[] 0)) := bAlloc (Below.refl _ _) _
  have HM1 : Hid (StSet A hN (w.alloc (.map #[] 0)) w.heap.size (fun _ => false)) := Lib.hid (SetAt.made w (keyN A.length hN) 4).small
  have HS := Lib.hid (StSet.under hS hb1)
  have hsz1 : (w.alloc (.map #[] 0)).heap.size = w.heap.size + 1 := by simp
  have hmm := @run_makeMap Tryz.prog
  clear h hw hA hS
  go_enter Tryz.func52, Tryz.ntmps52
  go_upto_region 2 with fail
  obtain ⟨W1, hW1⟩ : ∃ W1, w.alloc (.map #[] 0) = W1 := ⟨_, rfl⟩
  rw [hW1] at hb1 HM1 HS hsz1 ⊢
  clear hW1 hmm
  have Hsz := Lib.hid hsz1
  clear hsz1
  go_wp2_with (at_range; refine wp_rangeN rfl (.tmp 12) rfl rfl HS.out ?_; intro w1 c1 hR1 hg1 hc1)
  go_frame
  have HI : Hid (Stpg A hN S c m W1.heap.size w.heap.size w w1 c1) := Lib.hid ⟨_, S, SetAt.same HM1.out (hg1.block _ HM1.out.lt (by simp)), hR1, hb1.grown hg1 hb1.size (fun k hk => by cases hk), fun q => by
    constructor
    · intro h
      cases h
    · rintro ⟨p, ⟨h1, h2⟩, _⟩
      rw [h1] at h2
      cases h2⟩
  clear hR1 hg1 hb1 HM1 HS
  go_loopg [] A.length (fun g wx => ∃ k : Nat, k ≤ g ∧ Hid (Stpg A hN S c m W1.heap.size w.heap.size w wx k))
  case atStart => exact ⟨c1, hc1, HI⟩
  case round =>
    clear HI hc1
    obtain ⟨k, hkg, HG⟩ := hrel
    obtain ⟨T0, left, h1, h2, h3, h4⟩ := HG.out
    have H1 := Lib.hid h1
    have H3 := Lib.hid h3
    have H4 := Lib.hid h4
    clear h1 h3 h4 HG
    go_wp2_with (at_next; refine wp_nextN rfl (.tmp 13) rfl rfl h2 ?_ ?_)
    · intro hl
      have HT : Hid (∀ q, T0 q = true ↔ ∃ p, S p = true ∧ hit A c p q) := Lib.hid (fun q => by
        rw [H4.out q]
        simp [hl])
      have HC := Lib.hid (closure_any (S := T0) (m := w.heap.size) (n := A.length) hN wr (HNet.out.under H3.out) HW.out HmA.out H1.out (by omega))
      clear h2 hl
      go_wp2_with (go_at_call 51; refine HC.out.mono ?_; rintro e w5 ⟨rfl, hg5, T, n', hT, _, hq⟩; have H5 := Lib.hid (And.intro hg5 (And.intro hT.small hq)); clear hg5 hT hq)
      go_ret
      exact ⟨w.heap.size, T, rfl, Nat.le_refl _, H5.out.2.1, H3.out.grown H5.out.1 H3.out.size (fun k hk => by cases hk; exact Nat.le_refl _), fun q => (H5.out.2.2 q).trans (step_hit HT.out q)⟩
    · intro s w2 k2 hls hsN hR2 hk2 hg2 hen
      obtain ⟨g, rfl⟩ : ∃ g, gk = g + 1 := ⟨gk - 1, by omega⟩
      have hrw : w.heap.size ≤ W1.heap.size := by rw [Hsz.out]; omega
      have hb2 : Below w.heap.size w w2 := H3.out.grown hg2 H3.out.size (fun k hk => by cases hk; exact hrw)
      obtain ⟨gb, cap2, ra, rc, cb0, cgb0, harr⟩ := HNet.out.heads hsN
      have cb := (CellsStay.below hb2).cell cb0
      have cgb := (CellsStay.below hb2).cell cgb0
      have HArr := Lib.hid harr
      have HS0 := Lib.hid (And.intro hls (h2.sub hls))
      have hsI : (s : Int) < (A.length : Int) := by omega
      have HI : Hid (Stpi A hN S T0 (fun y => left y && !decide (y = s)) c m W1.heap.size w.heap.size s 0 w w2 k2) := Lib.hid ⟨T0, SetAt.same H1.out (hg2.block _ H1.out.lt (fun e => by
        injection e with e
        have := Hsz.out
        omega)), hR2, hb2, fun q => by simp⟩
      have HRl := Lib.hid (HRow.out s)
      clear hls hR2 hg2 h2 hb2 harr hrw cb0 cgb0
      generalize hRL : (rowN A s).length = RL at *
      have HRL := Lib.hid hRL
      clear hRL
      go_wp2_with fail
      go_loopg [26] RL (fun gi s26 wx => ∃ j : Nat, j + gi = RL ∧ s26 = .int .i64 j ∧ Hid (Stpi A hN S T0 (fun y => left y && !decide (y = s)) c m W1.heap.size w.heap.size s j w wx k2))
      case atStart => exact ⟨0, by omega, rfl, HI⟩
      case round =>
        clear HI cb cgb hen
        obtain ⟨j, hj, rfl, HI⟩ := hrel
        by_cases hlt : j < RL
        · obtain ⟨gi, rfl⟩ : ∃ gi, gk = gi + 1 := ⟨gk - 1, by omega⟩
          have hltI : (j : Int) < (RL : Int) := by omega
          have hj0 : (0 : Int) ≤ (j : Int) := by omega
          have hRl := HRl.out
          obtain ⟨x, hx⟩ : ∃ x, (rowN A s)[j]? = some x := ⟨_, List.getElem?_eq_getElem (by rw [HRL.out]; exact hlt)⟩
          have hbr : Below w.heap.size w wr := by
            obtain ⟨T, _, _, h3, _⟩ := HI.out
            exact h3
          obtain ⟨rb, off, f, M, ha, hrb, r0, r1, r2, hf⟩ := (HArr.out.stay (CellsStay.below hbr)) j x hx
          subst ha
          have HX := Lib.hid hx
          have hdst : x.dst < A.length := HW.out s x (List.mem_of_getElem? hx)
          have HBr := Lib.hid hbr
          clear hbr hx
          cases htk : x.takes with
          | none =>
            rw [htk] at hf r1
            obtain rfl := hf
            have HNx := Lib.hid ((HI.out.skip HX.out (fun t h => by rw [htk] at h; cases h)).under (bAlloc (Below.refl _ _) (.cells #[.int .i64 x.dst, .bool true, .nilFunc] 128)))
            clear HI htk
            go_wp2_with fail
            go_roundg gi
            case measure => omega
            case rel => exact ⟨j + 1, by omega, by go_num, HNx⟩
          | some t =>
            rw [htk] at hf r1
            have HTk := Lib.hid htk
            clear htk
            obtain ⟨F, kb, vs, ty, rfl, _, _, hbox, hen, hcall⟩ := hf
            have hb4 : Below wr.heap.size wr (wr.alloc (.cells #[.int .i64 x.dst, .bool false, .func (.func F) #[] #[.pointer (some ⟨kb, 0, none⟩)]] 128)) := bAlloc (Below.refl _ _) _
            have HI4 := Lib.hid (HI.out.under hb4)
            have HB := Lib.hid (BoxIs.new wr #[.int .i64 x.dst, .bool false, .func (.func F) #[] #[.pointer (some ⟨kb, 0, none⟩)]] 128)
            have HC := Lib.hid (hcall _ c (bTrans (HNet.out.under HBr.out).below hb4) ((hb4.block kb (Array.getElem?_eq_some_iff.1 hbox).1).trans hbox))
            clear HI hbox hcall hb4
            go_upto_region 8 with fail
            clear r0 r1 r2
            generalize hbx : wr.heap.size = bx at *
            generalize hw4 : wr.alloc _ = w4 at *
            clear hw4
            have c0 := BoxIs.cell (j := 0) HB.out rfl
            have c1 := BoxIs.cell (j := 1) HB.out rfl
            have c2 := BoxIs.cell (j := 2) HB.out rfl
            cases htc : t c with
            | false =>
              rw [htc] at HC
              have HTc := Lib.hid htc
              clear htc
              go_wp2_with (refine HC.out.mono ?_; rintro e w5 ⟨rfl, hb5⟩; have HNx : Hid (Stpi A hN S T0 (fun y => left y && !decide (y = s)) c m W1.heap.size w.heap.size s (j + 1) w w5 k2) := Lib.hid ((HI4.out.skip HX.out (fun t' h => by rw [HTk.out] at h; injection h with h; rw [← h]; exact HTc.out)).under hb5); clear c0 c1 c2 HB HI4)
              go_roundg gi
              case measure => omega
              case rel => exact ⟨j + 1, by omega, by go_num, HNx⟩
            | true =>
              rw [htc] at HC
              have HTc := Lib.hid htc
              clear htc
              go_upto_region 9 with (refine HC.out.mono ?_; rintro e w5 ⟨rfl, hb5⟩; have HI5 := Lib.hid (HI4.out.under hb5); have HB5 := Lib.hid (HB.out.under hb5); clear c0 c1 c2 HB HI4 hb5)
              have c0 := BoxIs.cell (j := 0) HB5.out rfl
              obtain ⟨T, h1, h2, h3, h4⟩ := HI5.out
              obtain ⟨w6, hrun, h8, h9⟩ := storeN h1 hdst (by omega)
              have HNx := Lib.hid (Stpi.add h2 h3 h4 HX.out HTk.out HTc.out h8 h9 (Nat.le_refl _) (by omega) (by have := Hsz.out; omega))
              clear h1 h2 h3 h4 h8 h9 HI5 HB5
              go_wp2_with fail
              go_roundg gi
              case measure => omega
              case rel => exact ⟨j + 1, by omega, by go_num, HNx⟩
        · have HD : Hid (Stpg A hN S c m W1.heap.size w.heap.size w wr k2) := Lib.hid (HI.out.finish (by rw [HRL.out]; omega) HS0.out.2 H4.out HS0.out.1)
          have hltF : ¬ (j : Int) < (RL : Int) := by omega
          clear HI
          go_wp2_with fail
          go_roundg g
          case measure => omega
          case rel => exact ⟨k2, by omega, HD⟩
end Go.Proofs.YtnpcbcnclncniaaGreatDoor
namespace Go.Proofs.YtnpcbcnclncniaaGreatDoor
open Go.RowKit

set_option maxHeartbeats 1000000 in
theorem grown_any (k : Nat) (hk : k ≤ 3) (c : UInt8) (w : World) : Calls Tryz.prog 89 #[.int .i64 k, .int .u8 c.toNat] w fun e w' => e = .returned (.tuple #[.int .i64 ((grownN k c).getD 0), .bool (grownN k c).isSome]) ∧ Below w.heap.size w w' := by
  by_cases h47 : c = 47
  · subst h47
    by_cases h3 : k = 3
    · subst h3
      go_enter Tryz.func89, Tryz.ntmps89
      go_wp2
      go_ret2
      exact ⟨rfl, Below.refl _ _⟩
    · have h3b : ((k : Int) == 3) = false := by simp; omega
      have hg : Hid (grownN k 47 = none) := Lib.hid (by simp [grownN, h3])
      clear h3
      go_enter Tryz.func89, Tryz.ntmps89
      go_wp2
      go_ret2
      rw [hg.out]
      exact ⟨rfl, Below.refl _ _⟩
  · have e47 : ((c.toNat : Int) == 47) = false := by
      have := byte_beq c 47
      rw [show ((47 : UInt8).toNat : Int) = 47 from rfl] at this
      rw [this]
      simp [h47]
    by_cases h46 : c = 46
    · have e46 : ((c.toNat : Int) == 46) = true := by rw [h46]; rfl
      by_cases h3 : k = 3
      · subst h3
        have hg : Hid (grownN 3 c = some 3) := Lib.hid (by simp [grownN, h47])
        clear h47 h46
        go_enter Tryz.func89, Tryz.ntmps89
        go_wp2
        go_ret2
        rw [hg.out]
        exact ⟨rfl, Below.refl _ _⟩
      · have h3b : ((k : Int) != 3) = true := by simp; omega
        have hg : Hid (grownN k c = some (k + 1)) := Lib.hid (by simp [grownN, h46, h3])
        clear h47 h46 h3
        go_enter Tryz.func89, Tryz.ntmps89
        go_wp2
        go_ret2
        rw [hg.out]
        exact ⟨by go_num, Below.refl _ _⟩
    · have e46 : ((c.toNat : Int) == 46) = false := by
        have := byte_beq c 46
        rw [show ((46 : UInt8).toNat : Int) = 46 from rfl] at this
        rw [this]
        simp [h46]
      have hg : Hid (grownN k c = some 3) := Lib.hid (by simp [grownN, h47, h46])
      clear h47 h46
      go_enter Tryz.func89, Tryz.ntmps89
      go_wp2
      go_ret2
      rw [hg.out]
      exact ⟨rfl, Below.refl _ _⟩

/-- All places. -/
def places (N : Nat) : List (Nat × Nat) := (List.range (4 * N)).map (fun i => (i / 4, i % 4))
theorem places_len (N : Nat) : (places N).length = 4 * N := by simp [places]
theorem places_nodup (N : Nat) : (places N).Nodup := by
  refine List.pairwise_map.2 (List.Pairwise.imp (fun {a b} hab e => hab ?_) List.nodup_range)
  injection e with e1 e2
  omega
theorem places_mem {N : Nat} {x : Nat × Nat} (h : x.1 < N ∧ x.2 ≤ 3) : x ∈ places N :=
  List.mem_map.2 ⟨x.1 * 4 + x.2, List.mem_range.2 (by omega), by
    obtain ⟨a, b⟩ := x
    dsimp only at h ⊢
    rw [show (a * 4 + b) / 4 = a by omega, show (a * 4 + b) % 4 = b by omega]⟩

/-- What a visit does to what is found and to what is still to be looked at. -/
def vis (T : Nat × Nat → Bool) (l : List (Nat × Nat)) (x : Nat × Nat) : (Nat × Nat → Bool) × List (Nat × Nat) := if T x = true then (T, l) else (ins T x, l ++ [x])
theorem vis_self (T : Nat × Nat → Bool) (l : List (Nat × Nat)) (x : Nat × Nat) : (vis T l x).1 x = true := by
  unfold vis
  split
  · assumption
  · exact ins_self T x
theorem vis_of {T : Nat × Nat → Bool} {x y : Nat × Nat} (l : List (Nat × Nat)) (h : T y = true) : (vis T l x).1 y = true := by
  unfold vis
  split
  · exact h
  · exact ins_of h
theorem vis_mid {E : Nat × Nat → Nat × Nat → Prop} {S bad : Nat × Nat → Prop} {T : Nat × Nat → Bool} {l : List (Nat × Nat)} {x y : Nat × Nat} (h : Mid E S bad T l x) (hy : E x y) : Mid E S bad (vis T l y).1 (vis T l y).2 x := by
  unfold vis
  split
  · exact h
  · exact h.push hy
theorem vis_miss {N : Nat} {T : Nat × Nat → Bool} {x : Nat × Nat} (l : List (Nat × Nat)) (h : x.1 < N ∧ x.2 ≤ 3) : miss (places N) (vis T l x).1 + (vis T l x).2.length = miss (places N) T + l.length := by
  unfold vis
  split
  · rfl
  · next hT =>
    have := miss_ins (T := T) (places_nodup N) (places_mem h) (by simpa using hT)
    dsimp only
    rw [List.length_append, List.length_singleton]
    omega

abbrev plCells (x : Nat × Nat) : List Value := [.int .i64 x.1, .int .i64 x.2]
/-- What the search has in memory; X: blocks that it does not touch. -/
def SomeSt (N : Nat) (hN : N ≤ 9223372036854775808) (B bs bt : Nat) (X : Nat → Prop) (wx : World) (T : Nat × Nat → Bool) (l : List (Nat × Nat)) : Prop :=
  ∃ (ms : Nat) (ga : Option Addr) (cap : Nat), BoxIs wx bs #[.map (some ms)] 129 ∧ BoxIs wx bt #[.slice ga l.length cap] 130 ∧ SetAt wx (keyP N hN) 4 ms (4 * N) T ∧
    wx.ownsRow B 132 2 (.slice ga l.length cap) l.length (l.map plCells).flatten ∧ B ≤ bs ∧ B ≤ bt ∧ B ≤ ms ∧ ∀ k, X k → k < wx.heap.size ∧ k ≠ ms ∧ k ≠ bt ∧ (Value.slice ga l.length cap).ownBlock ≠ some k

theorem elem_place : ∃ i : TypeInfo, Tryz.prog.underlying 130 = some (.slice 132) ∧ Tryz.prog.info? 132 = some i ∧ i.zero = some (.agg #[.int .i64 0, .int .i64 0]) ∧ i.size = 2 ∧ i.bytes = 16 := by
  obtain ⟨i0, hi, hz0, hz1, hz2⟩ := info_parts (show (Tryz.prog.info? 132).map (fun i => (i.zero, i.size, i.bytes)) = some (some (.agg #[.int .i64 0, .int .i64 0]), 2, 16) by kernel_rfl)
  exact ⟨i0, Tryz.underlying130, hi, hz0, hz1, hz2⟩
set_option maxRecDepth 100000 in
/-- A place more. -/
theorem wp_appP {ops : Array Oper} {rest : List Oper} {o : Oper} {act : Act} {Q : Exit → Act → World → Prop} {te : TypeId} {base : Nat} {wx : World} {a : Option Addr} {n cap : Nat} {xs : List Value} {p q : Nat}
    (hz : base ≤ wx.heap.size) (hO : wx.ownsRow base 132 2 (.slice a n cap) n xs) (hby : n ≤ 1000000000) (hgd : o.guard = none) (s x : Operand)
    (ho : o.op = .call { callee := .builtin .append, args := #[s, x], argTypes := #[130, 130] }) (hs : act.eval s = .slice a n cap) (hx : act.eval x = .slice (some ⟨wx.heap.size, 0, none⟩) 1 1)
    (h : ∀ g cap' w', w'.ownsRow base 132 2 (.slice (some ⟨g, 0, none⟩) (n + 1) cap') (n + 1) (xs ++ plCells (p, q)) → wx.grownBy w' (Value.slice a n cap).ownBlock → ((Value.slice a n cap).ownBlock = some g ∨ wx.heap.size ≤ g) → wpList Tryz.prog ops Q rest (act.put o.dst (.slice (some ⟨g, 0, none⟩) (n + 1) cap')) w') :
    wpList Tryz.prog ops Q (o :: rest) act (wx.alloc (.cells #[.int .i64 p, .int .i64 q] te)) := by
  obtain ⟨i, ht, hi, hz0, hz1, hz2⟩ := elem_place
  have hba : base ≤ (wx.alloc (.cells #[.int .i64 p, .int .i64 q] te)).heap.size := by simp; omega
  refine wpList_append_lies _ hgd s x 130 ho base 132 i _ 2 16 ht hi hz0 hz1 hz2 rfl (by decide) _ n xs hs (hO.alloc _) ⟨wx.heap.size, 0, none⟩ 1 1 [.int .i64 p, .int .i64 q] hx rfl (World.news_of_block (heap_alloc_new wx (.cells #[.int .i64 p, .int .i64 q] te))) (by intro u hu; simp only [List.mem_cons, List.not_mem_nil, or_false] at hu; rcases hu with rfl | rfl <;> rfl) (by decide) (by unfold maxLen; omega) (by omega) hba _ rfl ?_
  intro g cap' w' hown hgrow hat hlt
  refine h g cap' w' hown ((World.grownBy_alloc wx _ _).andThen hgrow (fun j hj => .inr hj)) ?_
  rcases hat with h' | h'
  · exact .inl h'
  · right
    rw [h']
    simp

section
variable {N B bs bt : Nat} {hN : N ≤ 9223372036854775808} {X : Nat → Prop} {wx w2 w3 : World} {T : Nat × Nat → Bool} {l : List (Nat × Nat)}
theorem notType {w : World} {k : Nat} {vs cur : Array Value} {t t' : TypeId} {fr fr' : Nat × Nat} {k' : Nat} (h : w.heap[k]? = some (.cells vs t fr)) (h' : w.heap[k']? = some (.cells cur t' fr')) (ht : t ≠ t') : k ≠ k' := fun e => by
  rw [e, h'] at h
  injection h with h
  injection h with _ h _
  exact ht h.symm
/-- Blocks that are not touched may be lost sight of. -/
theorem SomeSt.weaken (h : SomeSt N hN B bs bt X wx T l) {Y : Nat → Prop} (hY : ∀ k, Y k → X k) : SomeSt N hN B bs bt Y wx T l := by
  obtain ⟨ms, ga, cap, h1, h2, h3, h4, h5, h6, h7, h8⟩ := h
  exact ⟨ms, ga, cap, h1, h2, h3, h4, h5, h6, h7, fun k hk => h8 k (hY k hk)⟩
/-- A new block: it is not touched. -/
theorem SomeSt.alloc (h : SomeSt N hN B bs bt X wx T l) (o : Obj) : SomeSt N hN B bs bt (fun k => X k ∨ k = wx.heap.size) (wx.alloc o) T l := by
  obtain ⟨ms, ga, cap, h1, h2, h3, h4, h5, h6, h7, h8⟩ := h
  have hb := bAlloc (Below.refl wx.heap.size wx) o
  refine ⟨ms, ga, cap, h1.under hb, h2.under hb, h3.same (hb.block ms h3.lt), h4.alloc o, h5, h6, h7, fun k hk => ?_⟩
  rcases hk with hk | rfl
  · obtain ⟨a1, a2⟩ := h8 k hk
    exact ⟨by simp; omega, a2⟩
  · refine ⟨by simp, fun e => ?_, fun e => ?_, fun e => ?_⟩
    · have := h3.lt
      omega
    · have := h2.lt
      omega
    · have := (stk_block h4 e).2.1
      omega
/-- Nothing that is there has changed. -/
theorem SomeSt.under (h : SomeSt N hN B bs bt X wx T l) (hb : Below wx.heap.size wx w2) : SomeSt N hN B bs bt X w2 T l := by
  obtain ⟨ms, ga, cap, h1, h2, h3, h4, h5, h6, h7, h8⟩ := h
  exact ⟨ms, ga, cap, h1.under hb, h2.under hb, h3.same (hb.block ms h3.lt), stk_same h4 (fun k hk => hb.block k (stk_block h4 hk).2.1), h5, h6, h7, fun k hk => ⟨Nat.lt_of_lt_of_le (h8 k hk).1 hb.size, (h8 k hk).2⟩⟩
/-- A block that is not touched is written. -/
theorem SomeSt.other (h : SomeSt N hN B bs bt X wx T l) {r : Nat} (hr : X r) (hbs : r ≠ bs) (hg : wx.grownBy w2 (some r)) : SomeSt N hN B bs bt X w2 T l := by
  obtain ⟨ms, ga, cap, h1, h2, h3, h4, h5, h6, h7, h8⟩ := h
  obtain ⟨a1, a2, a3, a4⟩ := h8 r hr
  have hk : ∀ k, k < wx.heap.size → k ≠ r → w2.heap[k]? = wx.heap[k]? := fun k hk hne => hg.block k hk (fun e => hne (by injection e))
  refine ⟨ms, ga, cap, (hk _ h1.lt (Ne.symm hbs)).trans h1, (hk _ h2.lt (Ne.symm a3)).trans h2, h3.same (hk _ h3.lt (Ne.symm a2)), stk_same h4 (fun k hk2 => hk k (stk_block h4 hk2).2.1 (fun e => a4 (e ▸ hk2))), h5, h6, h7, fun k hk => ⟨Nat.lt_of_lt_of_le (h8 k hk).1 hg.size, (h8 k hk).2⟩⟩

/-- A place is found: behind the stores. -/
theorem SomeSt.push {x : Nat × Nat} {ms g cap cap' : Nat} {ga : Option Addr} {o : Obj} (h1 : BoxIs wx bs #[.map (some ms)] 129) (h2 : BoxIs wx bt #[.slice ga l.length cap] 130) (h3 : SetAt wx (keyP N hN) 4 ms (4 * N) T)
    (h4 : wx.ownsRow B 132 2 (.slice ga l.length cap) l.length (l.map plCells).flatten) (h5 : B ≤ bs) (h6 : B ≤ bt) (h7 : B ≤ ms) (h8 : ∀ k, X k → k < wx.heap.size ∧ k ≠ ms ∧ k ≠ bt ∧ (Value.slice ga l.length cap).ownBlock ≠ some k)
    (g1 : SetAt w2 (keyP N hN) 4 ms (4 * N + 1) (ins T x)) (g2 : (wx.alloc o).grownBy w2 (some ms)) (g3 : w3.ownsRow B 132 2 (.slice (some ⟨g, 0, none⟩) (l.length + 1) cap') (l.length + 1) ((l.map plCells).flatten ++ plCells x)) (g4 : w2.grownBy w3 (Value.slice ga l.length cap).ownBlock) (g5 : (Value.slice ga l.length cap).ownBlock = some g ∨ w2.heap.size ≤ g) :
    SomeSt N hN B bs bt X (w3.setCell ⟨bt, 0, none⟩ (.slice (some ⟨g, 0, none⟩) (l.length + 1) cap')) (ins T x) (l ++ [x]) ∧ ∀ k, k < wx.heap.size → k ≠ ms → k ≠ bt → (Value.slice ga l.length cap).ownBlock ≠ some k → (w3.setCell ⟨bt, 0, none⟩ (.slice (some ⟨g, 0, none⟩) (l.length + 1) cap')).heap[k]? = wx.heap[k]? := by
  have hty : 129 ≠ 132 ∧ 130 ≠ 132 ∧ 129 ≠ 130 := by decide
  have hsz1 : wx.heap.size ≤ w2.heap.size := Nat.le_trans (by simp) g2.size
  have k2 : ∀ k, k < wx.heap.size → k ≠ ms → w2.heap[k]? = wx.heap[k]? := fun k hk hne => by
    rw [g2.block k (by simp; omega) (fun e => hne (by injection e))]
    exact Below.heap_alloc _ _ _ hk
  have k3 : ∀ k, k < w2.heap.size → (Value.slice ga l.length cap).ownBlock ≠ some k → w3.heap[k]? = w2.heap[k]? := fun k hk hne => g4.block k hk (fun e => hne e.symm)
  have k4 : ∀ k, k ≠ bt → (w3.setCell ⟨bt, 0, none⟩ (.slice (some ⟨g, 0, none⟩) (l.length + 1) cap')).heap[k]? = w3.heap[k]? := fun k hk => Below.heap_setCell _ _ _ _ (fun e => hk e)
  have hmap := h3.notCells
  have nms : ∀ {k : Nat} {vs : Array Value} {t : TypeId}, BoxIs wx k vs t → k ≠ ms := fun hb e => hmap _ _ _ (e ▸ hb)
  have nown : ∀ {k : Nat} {vs : Array Value} {t : TypeId}, BoxIs wx k vs t → t ≠ 132 → (Value.slice ga l.length cap).ownBlock ≠ some k := fun {k vs t} hb ht e => by
    obtain ⟨_, _, cur, h⟩ := stk_block h4 e
    exact notType hb h ht rfl
  have hbb : bs ≠ bt := notType h1 h2 hty.2.2
  have b2 : w3.heap[bt]? = some (.cells #[.slice ga l.length cap] 130 (0, 0)) := ((k3 bt (Nat.lt_of_lt_of_le h2.lt hsz1) (nown h2 hty.2.1)).trans (k2 bt h2.lt (nms h2))).trans h2
  have hmo : (Value.slice ga l.length cap).ownBlock ≠ some ms := fun e => by
    obtain ⟨_, _, cur, h⟩ := stk_block h4 e
    exact hmap _ _ _ h
  have hmb : ms ≠ bt := Ne.symm (nms h2)
  obtain ⟨_, gl, cur, hcur⟩ := stk_block g3 rfl
  have hgb : g ≠ bt := (notType b2 hcur hty.2.1).symm
  have hlen : (l ++ [x]).length = l.length + 1 := by simp
  refine ⟨⟨ms, some ⟨g, 0, none⟩, cap', ?_, ?_, ?_, ?_, h5, h6, h7, fun k hk => ?_⟩, fun k hk hm hb ho => ?_⟩
  · show (w3.setCell _ _).heap[bs]? = _
    rw [k4 bs hbb, k3 bs (Nat.lt_of_lt_of_le h1.lt hsz1) (nown h1 hty.1), k2 bs h1.lt (nms h1)]
    exact h1
  · rw [hlen]
    exact set_box b2
  · have h9 := g1.few keyedPlace (places N) (fun a ha => places_mem ha)
    rw [places_len] at h9
    refine h9.same ?_
    rw [k4 ms hmb]
    exact k3 ms (Nat.lt_of_lt_of_le h3.lt hsz1) hmo
  · rw [hlen, List.map_append, List.flatten_append]
    refine stk_same (xs := (l.map plCells).flatten ++ ([x].map plCells).flatten) ?_ (fun k hk => ?_) (w := w3)
    · simpa using g3
    · injection hk with hk
      rw [k4 k (hk ▸ hgb)]
  · obtain ⟨a1, a2, a3, a4⟩ := h8 k hk
    refine ⟨by have := g4.size; simp [World.setCell]; omega, a2, a3, fun e => ?_⟩
    injection e with e
    rcases g5 with g5 | g5
    · exact a4 (e ▸ g5)
    · have e2 : g = k := e
      omega
  · rw [k4 k hb, k3 k (Nat.lt_of_lt_of_le hk hsz1) ho, k2 k hk hm]
end
end Go.Proofs.YtnpcbcnclncniaaGreatDoor
namespace Go.Proofs.YtnpcbcnclncniaaGreatDoor
open Go.RowKit

section
variable {w : World} {N m n : Nat} {hN : N ≤ 9223372036854775808} {S : Nat × Nat → Bool}
theorem lookP (h : SetAt w (keyP N hN) 4 m n S) {x : Nat × Nat} (hx : x.1 < N ∧ x.2 ≤ 3) : (Instr.lookup 129 (.map (some m)) (.agg #[.int .i64 x.1, .int .i64 x.2]) false).run Tryz.prog w = .ok (.bool (S x)) w :=
  h.look (a := x) keyedPlace Tryz.underlying129 Tryz.underlying4 (zeroBool w) hx
theorem storeP (h : SetAt w (keyP N hN) 4 m n S) {x : Nat × Nat} (hx : x.1 < N ∧ x.2 ≤ 3) (hn : n < 1000000000) :
    ∃ w', (Instr.mapUpdate 129 (.map (some m)) (.agg #[.int .i64 x.1, .int .i64 x.2]) (.bool true)).run Tryz.prog w = .ok () w' ∧ SetAt w' (keyP N hN) 4 m (n + 1) (ins S x) ∧ w.grownBy w' (some m) :=
  h.store (a := x) keyedPlace Tryz.underlying129 Tryz.underlying4 (by unfold maxLen; omega) hx
end

/-- What a visit leaves. -/
def VisRes (N : Nat) (hN : N ≤ 9223372036854775808) (B bs bt : Nat) (X : Nat → Prop) (T : Nat × Nat → Bool) (l : List (Nat × Nat)) (x : Nat × Nat) (w : World) (e : Ending) (w' : World) : Prop :=
  e = .returned (.tuple #[]) ∧ SomeSt N hN B bs bt X w' (vis T l x).1 (vis T l x).2 ∧ Below B w w' ∧ ∀ k, X k → w'.heap[k]? = w.heap[k]?

set_option maxHeartbeats 4000000 in
set_option maxRecDepth 100000 in
theorem visit_any {N B bs bt : Nat} {hN : N ≤ 9223372036854775808} {X : Nat → Prop} {T : Nat × Nat → Bool} {l : List (Nat × Nat)} (w : World) (h : SomeSt N hN B bs bt X w T l) (x : Nat × Nat) (hx : x.1 < N ∧ x.2 ≤ 3) (hl : l.length ≤ 1000000000) (hN4 : N ≤ 100000000) (hB : B ≤ w.heap.size) :
    Calls Tryz.prog 88 #[.agg #[.int .i64 x.1, .int .i64 x.2], .pointer (some ⟨bs, 0, none⟩), .pointer (some ⟨bt, 0, none⟩)] w (VisRes N hN B bs bt X T l x w) := by
  obtain ⟨ms, ga, cap, h1, h2, h3, h4, h5, h6, h7, h8⟩ := h
  have hb1 : Below w.heap.size w (w.alloc (.cells #[.int .i64 x.1, .int .i64 x.2] 132)) := bAlloc (Below.refl _ _) _
  have H1 := Lib.hid h1
  have H2 := Lib.hid h2
  have H3 := Lib.hid h3
  have H4 := Lib.hid h4
  have H8 := Lib.hid h8
  have g1 := h1.under hb1
  have g2 := h2.under hb1
  have g3 := h3.same (hb1.block ms h3.lt)
  have HP := Lib.hid (BoxIs.new w #[.int .i64 x.1, .int .i64 x.2] 132)
  have s0 := BoxIs.cell (j := 0) g1 rfl
  have p0 := BoxIs.cell (j := 0) HP.out rfl
  have p1 := BoxIs.cell (j := 1) HP.out rfl
  have hlook := lookP g3 hx
  cases hT : T x with
  | true =>
    rw [hT] at hlook
    have hv : vis T l x = (T, l) := by simp [vis, hT]
    have HF : Hid (SomeSt N hN B bs bt X (w.alloc (.cells #[.int .i64 x.1, .int .i64 x.2] 132)) T l ∧ Below B w (w.alloc (.cells #[.int .i64 x.1, .int .i64 x.2] 132)) ∧ ∀ k, X k → (w.alloc (.cells #[.int .i64 x.1, .int .i64 x.2] 132)).heap[k]? = w.heap[k]?) :=
      Lib.hid ⟨(SomeSt.alloc ⟨ms, ga, cap, h1, h2, h3, h4, h5, h6, h7, h8⟩ _).weaken (fun k hk => .inl hk), hb1.mono hB, fun k hk => hb1.block k (h8 k hk).1⟩
    have HV := Lib.hid hv
    clear h1 h2 h3 h4 h8 hT hv g1 g2 g3 hb1
    go_enter Tryz.func88, Tryz.ntmps88
    go_wp2_with fail
    go_end0
    refine ⟨rfl, ?_, HF.out.2⟩
    rw [HV.out]
    exact HF.out.1
  | false =>
    rw [hT] at hlook
    have hv : vis T l x = (ins T x, l ++ [x]) := by simp [vis, hT]
    obtain ⟨w2, hrun, k1, k2⟩ := storeP g3 hx (by omega)
    have hmt := h3.notCells
    have hst : CellsStay (w.alloc (.cells #[.int .i64 x.1, .int .i64 x.2] 132)) w2 := by
      obtain ⟨es, cl, hm⟩ := g3.map
      exact CellsStay.grown k2 hm
    have q0 := hst.cell p0
    have q1 := hst.cell p1
    have q2 := hst.cell s0
    have G2 : Hid (BoxIs w2 bt #[.slice ga l.length cap] 130) := Lib.hid (hst _ _ _ _ g2)
    have q3 := BoxIs.cell (j := 0) G2.out rfl
    have HO : Hid (w2.ownsRow B 132 2 (.slice ga l.length cap) l.length (l.map plCells).flatten) := Lib.hid (stk_same (h4.alloc _) (fun k hk => by
      obtain ⟨_, _, cur, h⟩ := stk_block (h4.alloc (.cells #[.int .i64 x.1, .int .i64 x.2] 132)) hk
      rw [h, hst _ _ _ _ h]))
    have hz2 : B ≤ w2.heap.size := Nat.le_trans hB (Nat.le_trans (by simp) k2.size)
    have HQ := Lib.hid (fun (g cap' : Nat) (w3 : World) (k3 : w3.ownsRow B 132 2 (.slice (some ⟨g, 0, none⟩) (l.length + 1) cap') (l.length + 1) ((l.map plCells).flatten ++ plCells x)) (k4 : w2.grownBy w3 (Value.slice ga l.length cap).ownBlock) (k5 : (Value.slice ga l.length cap).ownBlock = some g ∨ w2.heap.size ≤ g) =>
      SomeSt.push h1 h2 h3 h4 h5 h6 h7 h8 k1 k2 k3 k4 k5)
    have HBl := Lib.hid (fun (w3 : World) (k4 : w2.grownBy w3 (Value.slice ga l.length cap).ownBlock) (v : Value) =>
      (Below.setCell (((hb1.mono hB).grown k2 (Nat.le_trans hB (by simp)) (fun k hk => by cases hk; exact h7)).grown k4 hz2 (fun k hk => (stk_block h4 hk).1)) (p := ⟨bt, 0, none⟩) h6 v : Below B w (w3.setCell ⟨bt, 0, none⟩ v)))
    have HV := Lib.hid hv
    have HBo := Lib.hid (fun (w3 : World) (k4 : w2.grownBy w3 (Value.slice ga l.length cap).ownBlock) => (by
      refine (k4.block bt G2.out.lt (fun e => ?_)).trans G2.out
      obtain ⟨_, _, cur, h⟩ := stk_block h4 e.symm
      exact notType h2 h (by decide) rfl : w3.heap[bt]? = some (.cells #[.slice ga l.length cap] 130 (0, 0))))
    clear h1 h2 h3 h4 h8 hT hv g1 g2 g3 hb1 k1 k2 hst hmt
    generalize hL : l.length = L at *
    have HL := Lib.hid hL
    clear hL
    go_enter Tryz.func88, Tryz.ntmps88
    go_wp2_with (at_builtin; refine wp_appP (p := x.1) (q := x.2) hz2 HO.out hl rfl (.tmp 10) (.tmp 12) rfl rfl rfl ?_; intro g cap' w3 k3 k4 k5; have HF := Lib.hid (And.intro (HQ.out g cap' w3 k3 k4 k5) (HBl.out w3 k4 (.slice (some ⟨g, 0, none⟩) (L + 1) cap'))); have b3 := HBo.out w3 k4; have t0 := BoxIs.cell (j := 0) b3 rfl; have f0 := Lib.frozen_of_heap b3 0; clear k3 k4 k5 b3 q3)
    go_end0
    refine ⟨rfl, ?_, HF.out.2, fun k hk => ?_⟩
    · rw [HV.out]
      exact HF.out.1.1
    · obtain ⟨a1, a2, a3, a4⟩ := H8.out k hk
      exact HF.out.1.2 k a1 a2 a3 a4
end Go.Proofs.YtnpcbcnclncniaaGreatDoor
namespace Go.Proofs.YtnpcbcnclncniaaGreatDoor
open Go.RowKit

theorem vis_iff {T : Nat × Nat → Bool} {l : List (Nat × Nat)} (h : ∀ x, T x = true ↔ x ∈ l) (y : Nat × Nat) : (∀ x, (vis T l y).1 x = true ↔ x ∈ (vis T l y).2) ∧ (∀ x, x ∈ (vis T l y).2 ↔ x ∈ l ∨ x = y) ∧ (vis T l y).2.length ≤ l.length + 1 := by
  unfold vis
  split
  · next hT => exact ⟨h, fun x => ⟨.inl, fun hx => hx.elim id (fun e => e ▸ (h y).1 hT)⟩, Nat.le_succ _⟩
  · refine ⟨fun x => ?_, fun x => by simp, by simp⟩
    rw [ins_iff, h x]
    simp
    exact Or.comm

theorem enters_some1 : ∀ args w, (callFunc 88 args).run Tryz.prog w = .ok (.enter 88 args) w := enters_of Tryz.func88 (by kernel_rfl) rfl

section
variable {A : NetA} {hN : A.length ≤ 9223372036854775808} {S : Nat → Bool} {e bs bt m r n c g : Nat} {w wx w2 : World}
/-- The begin: the states of a set, with nothing of a name. -/
def Sch1 (A : NetA) (hN : A.length ≤ 9223372036854775808) (S : Nat → Bool) (bs bt m r n : Nat) (w wx : World) (c : Nat) : Prop :=
  ∃ (T : Nat × Nat → Bool) (l : List (Nat × Nat)) (left : Nat → Bool), SomeSt A.length hN w.heap.size bs bt (fun k => k = r) wx T l ∧ RangeAt wx (keyN A.length hN) 4 m r n S left c ∧ Below w.heap.size w wx ∧ (∀ x, T x = true ↔ x ∈ l) ∧ (∀ x, x ∈ l ↔ (S x.1 = true ∧ left x.1 = false) ∧ x.2 = 0) ∧ l.length + c ≤ n
/-- The search. -/
def Srch (A : NetA) (hN : A.length ≤ 9223372036854775808) (S : Nat → Bool) (e bs bt : Nat) (w wx : World) (g : Nat) : Prop :=
  ∃ (T : Nat × Nat → Bool) (l : List (Nat × Nat)), SomeSt A.length hN w.heap.size bs bt (fun _ => False) wx T l ∧ Below w.heap.size w wx ∧ Work (placeE A) (startP (fun p => S p = true)) (fun y => y = (e, 3)) T l ∧ miss (places A.length) T + l.length ≤ g
abbrev plBox (x : Nat × Nat) : Array Value := #[.int .i64 x.1, .int .i64 x.2]
/-- .. while one place is looked at: X: blocks that are not touched; Y: what is seen to be found. -/
def Sch (A : NetA) (hN : A.length ≤ 9223372036854775808) (S : Nat → Bool) (e bs bt : Nat) (x : Nat × Nat) (pb : Nat) (X : Nat → Prop) (Y : Nat × Nat → Prop) (w wx : World) (g : Nat) : Prop :=
  ∃ (T : Nat × Nat → Bool) (l : List (Nat × Nat)), SomeSt A.length hN w.heap.size bs bt X wx T l ∧ BoxIs wx pb (plBox x) 132 ∧ X pb ∧ Below w.heap.size w wx ∧ Mid (placeE A) (startP (fun p => S p = true)) (fun y => y = (e, 3)) T l x ∧ (∀ y, Y y → T y = true) ∧ miss (places A.length) T + l.length ≤ g

/-- One more state to begin with. -/
theorem Sch1.more {T : Nat × Nat → Bool} {l : List (Nat × Nat)} {left : Nat → Bool} {q c2 : Nat} {w3 : World} {ed : Ending} (h3 : Below w.heap.size w wx) (h4 : ∀ x, T x = true ↔ x ∈ l) (h5 : ∀ x, x ∈ l ↔ (S x.1 = true ∧ left x.1 = false) ∧ x.2 = 0) (h6 : l.length + c ≤ n)
    (hr : w.heap.size ≤ r) (hm : m < w.heap.size) (hq : left q = true) (hSq : S q = true) (k1 : RangeAt w2 (keyN A.length hN) 4 m r n S (fun y => left y && !decide (y = q)) c2) (k2 : c2 < c) (k3 : wx.grownBy w2 (some r)) (hv : VisRes A.length hN w.heap.size bs bt (fun k => k = r) T l (q, 0) w2 ed w3) : Sch1 A hN S bs bt m r n w w3 c2 := by
  obtain ⟨_, v1, v2, v3⟩ := hv
  obtain ⟨i1, i2, i3⟩ := vis_iff h4 (q, 0)
  refine ⟨_, _, _, v1, k1.same (v2.block m hm) (v3 r rfl), ?_, i1, fun x => ?_, by omega⟩
  · have hb2 : Below w.heap.size w w2 := h3.grown k3 h3.size (fun k hk => by cases hk; exact hr)
    exact ⟨v2.os.trans hb2.os, v2.tape.trans hb2.tape, v2.output.trans hb2.output, Nat.le_trans hb2.size v2.size, fun i hi => (v2.block i hi).trans (hb2.block i hi)⟩
  · rw [i2, h5]
    obtain ⟨x1, x2⟩ := x
    dsimp only
    by_cases e : x1 = q
    · subst e
      simp [hSq, hq]
    · simp [e]
theorem Sch1.done {T : Nat × Nat → Bool} {l : List (Nat × Nat)} {left : Nat → Bool} (h1 : SomeSt A.length hN w.heap.size bs bt (fun k => k = r) wx T l) (h3 : Below w.heap.size w wx) (h4 : ∀ x, T x = true ↔ x ∈ l) (h5 : ∀ x, x ∈ l ↔ (S x.1 = true ∧ left x.1 = false) ∧ x.2 = 0) (h6 : l.length + c ≤ n) (hl : ∀ q, left q = false) : Srch A hN S e bs bt w wx (4 * A.length + n) := by
  have := miss_le (places A.length) T
  rw [places_len] at this
  refine ⟨T, l, h1.weaken (fun k hk => hk.elim), h3, Work.begun (fun x => ?_) h4, by omega⟩
  rw [h4, h5]
  simp [startP, hl]

variable {x : Nat × Nat} {pb : Nat} {X : Nat → Prop} {Y : Nat × Nat → Prop}
theorem Sch.under (h : Sch A hN S e bs bt x pb X Y w wx g) (hb : Below wx.heap.size wx w2) : Sch A hN S e bs bt x pb X Y w w2 g := by
  obtain ⟨T, l, h1, h2, h3, h4, h5⟩ := h
  exact ⟨T, l, h1.under hb, h2.under hb, h3, bTrans h4 hb, h5⟩
theorem Sch.alloc (h : Sch A hN S e bs bt x pb X Y w wx g) (o : Obj) : Sch A hN S e bs bt x pb (fun k => X k ∨ k = wx.heap.size) Y w (wx.alloc o) g := by
  obtain ⟨T, l, h1, h2, h3, h4, h5⟩ := h
  exact ⟨T, l, h1.alloc o, h2.under (bAlloc (Below.refl _ _) o), .inl h3, bTrans h4 (bAlloc (Below.refl _ _) o), h5⟩
theorem Sch.weaken (h : Sch A hN S e bs bt x pb X Y w wx g) {X' : Nat → Prop} {Y' : Nat × Nat → Prop} (hX : ∀ k, X' k → X k) (hp : X' pb) (hY : ∀ y, Y' y → Y y) : Sch A hN S e bs bt x pb X' Y' w wx g := by
  obtain ⟨T, l, h1, h2, h3, h4, h5, h6, h7⟩ := h
  exact ⟨T, l, h1.weaken hX, h2, hp, h4, h5, fun y hy => h6 y (hY y hy), h7⟩
theorem Sch.below (h : Sch A hN S e bs bt x pb X Y w wx g) : Below w.heap.size w wx := by
  obtain ⟨T, l, h1, h2, h3, h4, h5⟩ := h
  exact h4
theorem Sch.box (h : Sch A hN S e bs bt x pb X Y w wx g) : BoxIs wx pb (plBox x) 132 := by
  obtain ⟨T, l, h1, h2, h3, h4, h5⟩ := h
  exact h2
theorem Sch.ok (h : Sch A hN S e bs bt x pb X Y w wx g) : x.1 < A.length ∧ x.2 ≤ 3 := by
  obtain ⟨T, l, ⟨ms, ga, cap, _, _, ⟨D, _, hok, _⟩, _⟩, _, _, _, h5, _⟩ := h
  exact hok x h5.this
theorem Sch.finish (h : Sch A hN S e bs bt x pb X Y w wx g) (hb : ¬ x = (e, 3)) (hY : ∀ y, placeE A x y → Y y) : Srch A hN S e bs bt w wx g := by
  obtain ⟨T, l, h1, h2, h3, h4, h5, h6, h7⟩ := h
  exact ⟨T, l, h1.weaken (fun k hk => hk.elim), h4, h5.finish hb (fun y hy => h6 y (hY y hy)), h7⟩
/-- A visit on the way. -/
theorem Sch.visit (h : Sch A hN S e bs bt x pb X Y w wx g) {y : Nat × Nat} (hy : placeE A x y) (hyo : y.1 < A.length ∧ y.2 ≤ 3) (hg : g ≤ 1000000000) (hA : A.length ≤ 100000000) :
    Calls Tryz.prog 88 #[.agg #[.int .i64 y.1, .int .i64 y.2], .pointer (some ⟨bs, 0, none⟩), .pointer (some ⟨bt, 0, none⟩)] wx fun ed w' => ed = .returned (.tuple #[]) ∧ Sch A hN S e bs bt x pb X (fun z => Y z ∨ z = y) w w' g ∧ ∀ k, X k → w'.heap[k]? = wx.heap[k]? := by
  obtain ⟨T, l, h1, h2, h3, h4, h5, h6, h7⟩ := h
  refine (visit_any wx h1 y hyo (by omega) hA h4.size).mono ?_
  rintro ed w' ⟨he, v1, v2, v3⟩
  refine ⟨he, ⟨_, _, v1, (v3 pb h3).trans h2, h3, ⟨v2.os.trans h4.os, v2.tape.trans h4.tape, v2.output.trans h4.output, Nat.le_trans h4.size v2.size, fun i hi => (v2.block i hi).trans (h4.block i hi)⟩, vis_mid h5 hy, fun z hz => ?_, by rw [vis_miss l hyo]; exact h7⟩, v3⟩
  rcases hz with hz | rfl
  · exact vis_of l (h6 z hz)
  · exact vis_self T l z

/-- The last place off. -/
theorem Srch.pop {T : Nat × Nat → Bool} {l : List (Nat × Nat)} {ms gb cap : Nat} (h1 : BoxIs wx bs #[.map (some ms)] 129) (h2 : BoxIs wx bt #[.slice (some ⟨gb, 0, none⟩) (l.length + 1) cap] 130) (h3 : SetAt wx (keyP A.length hN) 4 ms (4 * A.length) T)
    (h4 : wx.ownsRow w.heap.size 132 2 (.slice (some ⟨gb, 0, none⟩) (l.length + 1) cap) (l.length + 1) (((l ++ [x]).map plCells).flatten)) (h5 : w.heap.size ≤ bs) (h6 : w.heap.size ≤ bt) (h7 : w.heap.size ≤ ms) (hb : Below w.heap.size w wx)
    (hw : Work (placeE A) (startP (fun p => S p = true)) (fun y => y = (e, 3)) T (l ++ [x])) (hg : miss (places A.length) T + (l.length + 1) ≤ g + 1) :
    Sch A hN S e bs bt x wx.heap.size (fun k => k = wx.heap.size) (fun _ => False) w ((wx.alloc (.cells (plBox x) 132)).setCell ⟨bt, 0, none⟩ (.slice (some ⟨gb, 0, none⟩) l.length cap)) g := by
  have hty : 129 ≠ 132 ∧ 130 ≠ 132 ∧ 129 ≠ 130 := by decide
  have hb1 : Below wx.heap.size wx (wx.alloc (.cells (plBox x) 132)) := bAlloc (Below.refl _ _) _
  rw [List.map_append, List.flatten_append] at h4
  obtain ⟨h8, _⟩ := stk_pop (ys := ([x].map plCells).flatten) h4 rfl
  obtain ⟨_, gl, cur, hcur⟩ := stk_block h8 rfl
  have k4 : ∀ k, k ≠ bt → ((wx.alloc (.cells (plBox x) 132)).setCell ⟨bt, 0, none⟩ (.slice (some ⟨gb, 0, none⟩) l.length cap)).heap[k]? = (wx.alloc (.cells (plBox x) 132)).heap[k]? := fun k hk => Below.heap_setCell _ _ _ _ (fun e => hk e)
  have nb : bs ≠ bt := notType h1 h2 hty.2.2
  have ng : gb ≠ bt := (notType h2 hcur hty.2.1).symm
  have nm : ms ≠ bt := fun e2 => h3.notCells _ _ _ (e2 ▸ h2)
  have np : wx.heap.size ≠ bt := by have := h2.lt; omega
  refine ⟨T, l, ⟨ms, some ⟨gb, 0, none⟩, cap, ?_, ?_, ?_, ?_, h5, h6, h7, fun k hk => ?_⟩, ?_, rfl, Below.setCell (bTrans hb hb1) (p := ⟨bt, 0, none⟩) h6 _, hw.pop, fun y hy => hy.elim, by omega⟩
  · exact (k4 bs nb).trans (h1.under hb1)
  · exact set_box (h2.under hb1)
  · exact h3.same ((k4 ms nm).trans (hb1.block ms h3.lt))
  · refine stk_same h8 (fun k hk => ?_)
    injection hk with hk
    subst hk
    exact (k4 gb ng).trans (hb1.block gb gl)
  · subst hk
    refine ⟨by simp [World.setCell], fun e2 => ?_, np, fun e2 => ?_⟩
    · have := h3.lt
      omega
    · injection e2 with e2
      have e3 : gb = wx.heap.size := e2
      omega
  · exact (k4 _ np).trans (BoxIs.new wx (plBox x) 132)
theorem place_cells {l : List (Nat × Nat)} {gb cap B : Nat} (h4 : wx.ownsRow B 132 2 (.slice (some ⟨gb, 0, none⟩) (l.length + 1) cap) (l.length + 1) (((l ++ [x]).map plCells).flatten)) :
    wx.cell? ⟨gb, l.length * 2, none⟩ = some (.int .i64 x.1) ∧ wx.cell? ⟨gb, l.length * 2 + 1, none⟩ = some (.int .i64 x.2) := by
  rw [List.map_append, List.flatten_append] at h4
  obtain ⟨_, h9⟩ := stk_pop (ys := ([x].map plCells).flatten) h4 rfl
  exact ⟨h9 0 _ rfl, h9 1 _ rfl⟩
end
end Go.Proofs.YtnpcbcnclncniaaGreatDoor
namespace Go.Proofs.YtnpcbcnclncniaaGreatDoor
open Go.RowKit

/-- What names.net.some leaves. -/
def SomeRes (A : NetA) (S : Nat → Bool) (e : Nat) (w : World) (ed : Ending) (w' : World) : Prop := ∃ r : Bool, ed = .returned (.bool r) ∧ (r = true ↔ someN A (fun p => S p = true) e) ∧ Below w.heap.size w w'

theorem grown_none {w w' : World} (hg : w.grownBy w' none) : Below w.heap.size w w' := ⟨hg.os, hg.tape, hg.output, hg.size, fun k hk => hg.block k hk (by simp)⟩
theorem SomeSt.grows {N B bs bt : Nat} {hN : N ≤ 9223372036854775808} {X : Nat → Prop} {wx w2 : World} {T : Nat × Nat → Bool} {l : List (Nat × Nat)} (h : SomeSt N hN B bs bt X wx T l) (hg : wx.grownBy w2 none) (hlt : wx.heap.size < w2.heap.size) : SomeSt N hN B bs bt (fun k => X k ∨ k = wx.heap.size) w2 T l := by
  have hb := grown_none hg
  obtain ⟨ms, ga, cap, h1, h2, h3, h4, h5, h6, h7, h8⟩ := h
  refine ⟨ms, ga, cap, h1.under hb, h2.under hb, h3.same (hb.block ms h3.lt), stk_same h4 (fun k hk => hb.block k (stk_block h4 hk).2.1), h5, h6, h7, fun k hk => ?_⟩
  rcases hk with hk | rfl
  · obtain ⟨a1, a2⟩ := h8 k hk
    exact ⟨by omega, a2⟩
  · refine ⟨hlt, fun e => ?_, fun e => ?_, fun e => ?_⟩
    · have := h3.lt
      omega
    · have := h2.lt
      omega
    · have := (stk_block h4 e).2.1
      omega
/-- Along one arrow. -/
def viaE (a : Arr) (x y : Nat × Nat) : Prop := (a.takes = none ∧ y = (a.dst, x.2)) ∨ ∃ t c, a.takes = some t ∧ c ≠ 0 ∧ t c = true ∧ ∃ k, grownN x.2 c = some k ∧ y = (a.dst, k)
/-- Along the first arrows of a state. -/
def viaJ (A : NetA) (x : Nat × Nat) (j : Nat) (y : Nat × Nat) : Prop := ∃ a ∈ (rowN A x.1).take j, viaE a x y
/-- .. and along one more, by the first bytes. -/
def viaC (A : NetA) (x : Nat × Nat) (j : Nat) (d : Nat) (t : UInt8 → Bool) (ci : Nat) (y : Nat × Nat) : Prop := viaJ A x j y ∨ ∃ c : UInt8, c ≠ 0 ∧ c.toNat < ci ∧ t c = true ∧ ∃ k, grownN x.2 c = some k ∧ y = (d, k)
theorem viaJ_zero {A : NetA} {x y : Nat × Nat} : ¬ viaJ A x 0 y := by
  rintro ⟨a, ha, _⟩
  simp at ha
theorem viaJ_succ {A : NetA} {x : Nat × Nat} {j : Nat} {a : Arr} (h : (rowN A x.1)[j]? = some a) {y : Nat × Nat} (hy : viaJ A x (j + 1) y) : viaJ A x j y ∨ viaE a x y := by
  obtain ⟨b, hb, h2⟩ := hy
  rw [List.take_add_one, h, Option.toList_some, List.mem_append, List.mem_singleton] at hb
  rcases hb with hb | rfl
  · exact .inl ⟨b, hb, h2⟩
  · exact .inr h2
theorem viaJ_free {A : NetA} {x : Nat × Nat} {j : Nat} {a : Arr} (h : (rowN A x.1)[j]? = some a) (ht : a.takes = none) {y : Nat × Nat} (hy : viaJ A x (j + 1) y) : viaJ A x j y ∨ y = (a.dst, x.2) := by
  rcases viaJ_succ h hy with h1 | ⟨_, h1⟩ | ⟨t, c, h1, _⟩
  · exact .inl h1
  · exact .inr h1
  · rw [ht] at h1
    cases h1
theorem viaJ_byte {A : NetA} {x : Nat × Nat} {j : Nat} {a : Arr} {t : UInt8 → Bool} (h : (rowN A x.1)[j]? = some a) (ht : a.takes = some t) {y : Nat × Nat} (hy : viaJ A x (j + 1) y) : viaC A x j a.dst t 256 y := by
  rcases viaJ_succ h hy with h1 | ⟨h1, _⟩ | ⟨t', c, h1, h2, h3, h4⟩
  · exact .inl h1
  · rw [ht] at h1
    cases h1
  · rw [ht] at h1
    injection h1 with h1
    subst h1
    exact .inr ⟨c, h2, UInt8.toNat_lt c, h3, h4⟩
theorem viaC_one {A : NetA} {x : Nat × Nat} {j d : Nat} {t : UInt8 → Bool} {y : Nat × Nat} (hy : viaC A x j d t 1 y) : viaJ A x j y := by
  rcases hy with h | ⟨c, h1, h2, _⟩
  · exact h
  · exact absurd (UInt8.toNat_inj.1 (show c.toNat = (0 : UInt8).toNat by
      show c.toNat = 0
      omega)) h1
theorem viaC_succ {A : NetA} {x : Nat × Nat} {j d ci : Nat} {t : UInt8 → Bool} {cc : UInt8} (hc : cc.toNat = ci) {y : Nat × Nat} (hy : viaC A x j d t (ci + 1) y) : viaC A x j d t ci y ∨ (t cc = true ∧ ∃ k, grownN x.2 cc = some k ∧ y = (d, k)) := by
  rcases hy with h | ⟨c, h1, h2, h3, h4⟩
  · exact .inl (.inl h)
  · by_cases e : c.toNat = ci
    · obtain rfl : c = cc := UInt8.toNat_inj.1 (by omega)
      exact .inr ⟨h3, h4⟩
    · exact .inl (.inr ⟨c, h1, by omega, h3, h4⟩)
/-- The search's memory, made. -/
def someW (w : World) : World := ((w.alloc (.map #[] 0)).alloc (.cells #[.map (some w.heap.size)] 129)).alloc (.cells #[.slice none 0 0] 130)
theorem some_start {N : Nat} {hN : N ≤ 9223372036854775808} (w : World) : SomeSt N hN w.heap.size (w.heap.size + 1) (w.heap.size + 1 + 1) (fun _ => False) (someW w) (fun _ => false) [] ∧ Below w.heap.size w (someW w) ∧ (someW w).heap.size = w.heap.size + 1 + 1 + 1 := by
  have e1 : (w.alloc (.map #[] 0)).heap.size = w.heap.size + 1 := by simp
  have e2 : ((w.alloc (.map #[] 0)).alloc (.cells #[.map (some w.heap.size)] 129)).heap.size = w.heap.size + 1 + 1 := by simp
  have b2 : Below (w.alloc (.map #[] 0)).heap.size (w.alloc (.map #[] 0)) ((w.alloc (.map #[] 0)).alloc (.cells #[.map (some w.heap.size)] 129)) := bAlloc (Below.refl _ _) _
  have b3 : Below ((w.alloc (.map #[] 0)).alloc (.cells #[.map (some w.heap.size)] 129)).heap.size ((w.alloc (.map #[] 0)).alloc (.cells #[.map (some w.heap.size)] 129)) (someW w) := bAlloc (Below.refl _ _) _
  have b1 : Below w.heap.size w (w.alloc (.map #[] 0)) := bAlloc (Below.refl _ _) _
  have h1 := BoxIs.new (w.alloc (.map #[] 0)) #[.map (some w.heap.size)] 129
  have h2 := BoxIs.new ((w.alloc (.map #[] 0)).alloc (.cells #[.map (some w.heap.size)] 129)) #[.slice none 0 0] 130
  rw [e1] at h1
  rw [e2] at h2
  have hs : SetAt (w.alloc (.map #[] 0)) (keyP N hN) 4 w.heap.size 0 (fun _ => false) := SetAt.made w _ _
  refine ⟨⟨w.heap.size, none, 0, h1.under b3, h2, ?_, World.ownsRow_nil _ _ _ _, by omega, by omega, Nat.le_refl _, fun k hk => hk.elim⟩, bTrans b1 (bTrans b2 b3), ?_⟩
  · have h9 := (hs.same ((b3.block _ (by rw [e2]; omega)).trans (b2.block _ hs.lt)) (w' := someW w)).few keyedPlace (places N) (fun a ha => places_mem ha)
    rwa [places_len] at h9
  · simp [someW]

set_option maxHeartbeats 8000000 in
set_option maxRecDepth 100000 in
theorem some_any {w0 : World} {b m : Nat} {A : NetA} {S : Nat → Bool} (hN : A.length ≤ 9223372036854775808) (e : Nat) (w : World) (h : NetAt w0 w b A) (hw : WF A) (hA : mA A ≤ 100000000) (hS : StSet A hN w m S) :
    Calls Tryz.prog 53 #[.pointer (some ⟨b, 0, none⟩), .map (some m), .int .i64 e] w (SomeRes A S e w) := by
  have hAl : A.length ≤ 100000000 := Nat.le_trans (mA_len A) hA
  have HNet := Lib.hid h
  have HRow := Lib.hid (fun s => Nat.le_trans (mA_row A s) hA)
  have HW := Lib.hid hw
  have hml : m < w.heap.size := hS.lt
  have HS := Lib.hid hS
  have hmm := @run_makeMap Tryz.prog
  have hen := enters_some1
  clear h hw hA hS
  go_enter Tryz.func53, Tryz.ntmps53
  go_upto_region 4 with fail
  have HW3 := Lib.hid (some_start (N := A.length) (hN := hN) w)
  obtain ⟨W3, hW3⟩ : ∃ W3, someW w = W3 := ⟨_, rfl⟩
  have hW3' : ((w.alloc (.map #[] 0)).alloc (.cells #[.map (some w.heap.size)] 129)).alloc (.cells #[.slice none 0 0] 130) = W3 := hW3
  rw [hW3'] at ⊢
  rw [hW3] at HW3
  clear hW3 hW3'
  generalize hbt : w.heap.size + 1 + 1 = bt at *
  generalize hbs : w.heap.size + 1 = bs at *
  have HBB := Lib.hid (And.intro hbs hbt)
  clear hbs hbt hmm
  have HS3 : Hid (StSet A hN W3 m S) := Lib.hid (StSet.under HS.out (by have := HW3.out.2.1; exact this))
  go_wp2_with (at_range; refine wp_rangeN rfl (.tmp 19) rfl rfl HS3.out ?_; intro w1 c1 hR1 hg1 hc1)
  go_frame
  have hr : w.heap.size ≤ W3.heap.size ∧ bs < W3.heap.size := by
    have h1 := HW3.out.2.2
    have h2 := HBB.out
    omega
  have HI : Hid (Sch1 A hN S bs bt m W3.heap.size A.length w w1 c1) := Lib.hid ⟨_, [], S, (HW3.out.1.grows hg1 hR1.lt.1).weaken (fun k hk => .inr hk), hR1, HW3.out.2.1.grown hg1 HW3.out.2.1.size (fun k hk => by cases hk), fun x => by simp, fun x => by
      cases hq : S x.1 <;> simp, by simpa using hc1⟩
  clear hR1 hg1 HS3
  go_loopg [] A.length (fun g wx => ∃ c : Nat, c ≤ g ∧ Hid (Sch1 A hN S bs bt m W3.heap.size A.length w wx c))
  case atStart => exact ⟨c1, hc1, HI⟩
  case round =>
    clear HI hc1
    obtain ⟨c, hcg, HG⟩ := hrel
    obtain ⟨T, l, left, h1, h2, h3, h4, h5, h6⟩ := HG.out
    have H := Lib.hid (And.intro h1 (And.intro h3 (And.intro h4 (And.intro h5 h6))))
    clear h1 h3 h4 h5 h6 HG
    go_wp2_with (at_next; refine wp_nextN rfl (.tmp 20) rfl rfl h2 ?_ ?_)
    · intro hl
      have HD : Hid (Srch A hN S e bs bt w wr (4 * A.length + A.length)) := Lib.hid (Sch1.done H.out.1 H.out.2.1 H.out.2.2.1 H.out.2.2.2.1 H.out.2.2.2.2 hl)
      clear h2 hl H
      go_wp2_with fail
      go_loopg [] (4 * A.length + A.length) (fun g wx => g ≤ 500000000 ∧ Hid (Srch A hN S e bs bt w wx g))
      case atStart => exact ⟨by omega, HD⟩
      case round =>
        clear HD hcg
        obtain ⟨hgb, HG⟩ := hrel
        obtain ⟨T, l, h1, h2, h3, h4⟩ := HG.out
        obtain ⟨ms, ga, cap, k1, k2, k3, k4, k5, k6, k7, _⟩ := h1
        rcases List.eq_nil_or_concat l with rfl | ⟨l', x, hlx⟩
        · have c0 := BoxIs.cell (j := 0) k2 rfl
          have HF := Lib.hid (And.intro (some_none h3) h2)
          clear k1 k2 k3 k4 k5 k6 k7 h2 h3 h4 HG
          go_wp2_with fail
          go_ret
          exact ⟨false, rfl, ⟨fun h => absurd h (by decide), fun h => absurd h HF.out.1⟩, HF.out.2⟩
        · obtain rfl : l = l' ++ [x] := by simpa using hlx
          have hll : (l' ++ [x]).length = l'.length + 1 := by simp
          rw [hll] at k2 k4 h4
          obtain ⟨g', rfl, _, hcap, hcm, _⟩ := stk_some k4
          obtain ⟨g, rfl⟩ : ∃ g, gk = g + 1 := ⟨gk - 1, by omega⟩
          have HPop := Lib.hid (Srch.pop (S := S) (e := e) k1 k2 k3 k4 k5 k6 k7 h2 h3 h4)
          have HW2 := Lib.hid h3
          obtain ⟨p0, p1⟩ := place_cells k4
          have hbt' := k2
          have HBt := Lib.hid k2
          obtain ⟨k, hk⟩ : ∃ k, l'.length = k := ⟨_, rfl⟩
          rw [hk] at k2 p0 p1 hcap HPop HBt
          obtain ⟨len, hlen⟩ : ∃ len, k + 1 = len := ⟨_, rfl⟩
          rw [hlen] at k2 HBt hcap
          have hposI : (0 : Int) < (len : Int) := by omega
          have hdec : decide (0 < len) = true := decide_eq_true (by omega)
          have hkI : (len : Int) - 1 = (k : Int) := by omega
          have hkl : (k : Int) < (len : Int) := by omega
          have hkc : (k : Int) ≤ (cap : Int) := by omega
          have hk0 : (0 : Int) ≤ (k : Int) := by omega
          have hlm : len ≤ maxLen := by omega
          have hkb : (k : Int) ≤ 9223372036854775806 := by
            have : maxLen = 9223372036854775807 := rfl
            omega
          have c0 := BoxIs.cell (j := 0) k2 rfl
          have hx : x.1 < A.length ∧ x.2 ≤ 3 := HPop.out.ok
          have HLen := Lib.hid hlen
          clear k1 k2 k3 k4 k5 k6 k7 h2 h3 h4 HG hk hlen hll hbt' hlx
          have HBt2 := Lib.hid (HBt.out.under (bAlloc (Below.refl wr.heap.size wr) (.cells #[.int .i64 x.1, .int .i64 x.2] 132)))
          change Hid (Sch A hN S e bs bt x wr.heap.size (fun k => k = wr.heap.size) (fun _ => False) w (World.setCell (wr.alloc (.cells #[.int .i64 x.1, .int .i64 x.2] 132)) ⟨bt, 0, none⟩ (.slice (some ⟨g', 0, none⟩) k cap)) g) at HPop
          go_upto_region 10 with fail
          clear c0 p0 p1
          have c0 := BoxIs.cell (j := 0) HBt2.out rfl
          have f0 := Lib.frozen_of_heap HBt2.out 0
          go_upto_region 11 with fail
          clear c0 f0 HBt2 HBt hkI hkl hkc hk0 hlm hkb
          generalize World.setCell (wr.alloc _) _ _ = w6 at *
          generalize wr.heap.size = pb at *
          have p0 := BoxIs.cell (j := 0) HPop.out.box rfl
          have p1 := BoxIs.cell (j := 1) HPop.out.box rfl
          by_cases hbad : x = (e, 3)
          · have e1 : ((x.1 : Int) == (e : Int)) = true := by rw [hbad]; simp
            have e2 : ((x.2 : Int) == 3) = true := by rw [hbad]; rfl
            have HF := Lib.hid (And.intro (some_found (e := e) HW2.out (by simp [hbad])) HPop.out.below)
            clear hbad
            go_wp2_with fail
            go_ret
            exact ⟨true, rfl, ⟨fun _ => HF.out.1, fun _ => rfl⟩, HF.out.2⟩
          have hor : ((x.1 : Int) == (e : Int)) = false ∨ (((x.1 : Int) == (e : Int)) = true ∧ ((x.2 : Int) == 3) = false) := by
            obtain ⟨x1, x2⟩ := x
            by_cases h1 : x1 = e
            · subst h1
              right
              refine ⟨by simp, ?_⟩
              by_cases h2 : x2 = 3
              · subst h2
                exact absurd rfl hbad
              · simp
                omega
            · left
              simp
              omega
          have HBad := Lib.hid hbad
          obtain ⟨gb, cap2, ra, rc, cb0, cgb0, harr⟩ := HNet.out.heads hx.1
          have cb := (CellsStay.below HPop.out.below).cell cb0
          have cgb := (CellsStay.below HPop.out.below).cell cgb0
          have HArr := Lib.hid harr
          have hsI : (x.1 : Int) < (A.length : Int) := by omega
          have hRl := HRow.out x.1
          clear hbad cb0 cgb0 harr
          generalize hRL : (rowN A x.1).length = RL at *
          have HRL := Lib.hid hRL
          clear hRL
          rcases hor with e1 | ⟨e1, e2⟩
          all_goals
            go_upto_region 13 with fail
            go_quiet (fail)
            have HS6 : Hid (Sch A hN S e bs bt x pb (fun k => k = pb) (viaJ A x 0) w (w6.drewN nq) g) := Lib.hid (Sch.weaken (wx := w6.drewN nq) (Y' := viaJ A x 0) (Sch.under (w2 := w6.drewN nq) HPop.out ⟨rfl, rfl, rfl, Nat.le_refl _, fun _ _ => rfl⟩) (fun _ h => h) rfl (fun _ h => absurd h viaJ_zero))
            clear p0 p1 cb cgb HPop
            go_wp2_with fail
            go_loopg [61] RL (fun gi s61 wx => ∃ j : Nat, j + gi = RL ∧ s61 = .int .i64 j ∧ Hid (Sch A hN S e bs bt x pb (fun k => k = pb) (viaJ A x j) w wx g))
            case atStart => exact ⟨0, by omega, rfl, HS6⟩
            case round =>
              clear HS6
              obtain ⟨j, hj, rfl, HI⟩ := hrel
              by_cases hlt : j < RL
              · obtain ⟨gi, rfl⟩ : ∃ gi, gk = gi + 1 := ⟨gk - 1, by omega⟩
                have hltI : (j : Int) < (RL : Int) := by omega
                have hj0 : (0 : Int) ≤ (j : Int) := by omega
                obtain ⟨a, hja⟩ : ∃ a, (rowN A x.1)[j]? = some a := ⟨_, List.getElem?_eq_getElem (by rw [HRL.out]; exact hlt)⟩
                obtain ⟨rb, off, f, M, ha, hrb, q0, q1, q2, hf⟩ := HArr.out j a hja
                have hst := CellsStay.below HI.out.below
                have r0 := hst.cell q0
                have r1 := hst.cell q1
                have r2 := hst.cell q2
                subst ha
                have HJa := Lib.hid hja
                have hdst : a.dst < A.length := HW.out x.1 a (List.mem_of_getElem? hja)
                clear hst hja q0 q1 q2 hrb
                cases htk : a.takes with
                | none =>
                  rw [htk] at hf r1
                  obtain rfl := hf
                  have HTk := Lib.hid htk
                  clear htk
                  have HI1 := Lib.hid (HI.out.alloc (.cells #[.int .i64 a.dst, .bool true, .nilFunc] 128))
                  have HB := Lib.hid (BoxIs.new wr #[.int .i64 a.dst, .bool true, .nilFunc] 128)
                  clear HI
                  go_upto_region 16 with fail
                  clear r0 r1 r2
                  generalize hbx : wr.heap.size = ab at *
                  generalize hw4 : wr.alloc _ = w4 at *
                  clear hw4 hbx
                  have d0 := BoxIs.cell (j := 0) HB.out rfl
                  have d1 := BoxIs.cell (j := 1) HB.out rfl
                  have p1 := BoxIs.cell (j := 1) HI1.out.box rfl
                  have HV := Lib.hid (HI1.out.visit (y := (a.dst, x.2)) ⟨a, List.mem_of_getElem? HJa.out, .inl ⟨HTk.out, rfl⟩⟩ ⟨hdst, hx.2⟩ (by omega) hAl)
                  go_wp2_with (refine HV.out.mono ?_; rintro ed w7 ⟨rfl, hv, _⟩; have HNx : Hid (Sch A hN S e bs bt x pb (fun k => k = pb) (viaJ A x (j + 1)) w w7 g) := Lib.hid (hv.weaken (fun k h => .inl h) rfl (fun y hy => viaJ_free HJa.out HTk.out hy)); clear hv HV HI1 HB d0 d1 p1)
                  go_roundg gi
                  case measure => omega
                  case rel => exact ⟨j + 1, by omega, by go_num, HNx⟩
                | some t =>
                  rw [htk] at hf r1
                  have HTk := Lib.hid htk
                  clear htk
                  obtain ⟨F, kb, vs, ty, rfl, _, _, hbox, hen2, hcall⟩ := hf
                  have HF := Lib.hid (And.intro hbox hcall)
                  have HI1 := Lib.hid (HI.out.alloc (.cells #[.int .i64 a.dst, .bool false, .func (.func F) #[] #[.pointer (some ⟨kb, 0, none⟩)]] 128))
                  have HB := Lib.hid (BoxIs.new wr #[.int .i64 a.dst, .bool false, .func (.func F) #[] #[.pointer (some ⟨kb, 0, none⟩)]] 128)
                  clear HI hbox hcall
                  go_upto_region 16 with fail
                  clear r0 r1 r2
                  generalize hbx : wr.heap.size = ab at *
                  generalize hw4 : wr.alloc _ = w4 at *
                  clear hw4 hbx
                  have d1 := BoxIs.cell (j := 1) HB.out rfl
                  have HI4 : Hid (Sch A hN S e bs bt x pb (fun k => k = pb ∨ k = ab) (viaC A x j a.dst t 1) w w4 g) := Lib.hid (HI1.out.weaken (fun k h => h) (.inl rfl) (fun y hy => viaC_one hy))
                  clear HI1
                  go_wp2_with fail
                  clear d1
                  go_loopg [14] 255 (fun gc s14 wx => ∃ ci : Nat, ci + gc = 256 ∧ 1 ≤ ci ∧ s14 = .int .i64 ci ∧ Hid (Sch A hN S e bs bt x pb (fun k => k = pb ∨ k = ab) (viaC A x j a.dst t ci) w wx g ∧ BoxIs wx ab #[.int .i64 a.dst, .bool false, .func (.func F) #[] #[.pointer (some ⟨kb, 0, none⟩)]] 128))
                  case atStart => exact ⟨1, by omega, by omega, rfl, Lib.hid ⟨HI4.out, HB.out⟩⟩
                  case round =>
                    clear HI4 HB
                    obtain ⟨ci, hci, hci1, rfl, HI⟩ := hrel
                    by_cases hlc : ci < 256
                    · obtain ⟨gc, rfl⟩ : ∃ gc, gk = gc + 1 := ⟨gk - 1, by omega⟩
                      have hlcI : (ci : Int) < 256 := by omega
                      obtain ⟨cc, rfl⟩ : ∃ cc : UInt8, cc.toNat = ci := ⟨UInt8.ofNat ci, by simp; omega⟩
                      have hc0 : cc ≠ 0 := fun h0 => by
                        rw [h0] at hci1
                        exact absurd hci1 (by decide)
                      have d0 := BoxIs.cell (j := 0) HI.out.2 rfl
                      have d2 := BoxIs.cell (j := 2) HI.out.2 rfl
                      have HC := Lib.hid (HF.out.2 wr cc (bTrans HNet.out.below HI.out.1.below) ((CellsStay.below HI.out.1.below) _ _ _ _ HF.out.1))
                      have HCc := Lib.hid hc0
                      clear hc0
                      cases htc : t cc with
                      | false =>
                        rw [htc] at HC
                        have HTc := Lib.hid htc
                        clear htc
                        go_wp2_with (refine HC.out.mono ?_; rintro ed w7 ⟨rfl, hb7⟩; have HNx : Hid (Sch A hN S e bs bt x pb (fun k => k = pb ∨ k = ab) (viaC A x j a.dst t (cc.toNat + 1)) w w7 g ∧ BoxIs w7 ab #[.int .i64 a.dst, .bool false, .func (.func F) #[] #[.pointer (some ⟨kb, 0, none⟩)]] 128) := Lib.hid ⟨(HI.out.1.under hb7).weaken (fun _ h => h) (.inl rfl) (fun y hy => (viaC_succ rfl hy).resolve_right (fun h => by rw [HTc.out] at h; exact absurd h.1 (by decide))), HI.out.2.under hb7⟩; clear hb7 HC HI d0 d2)
                        go_roundg gc
                        case measure => omega
                        case rel => exact ⟨cc.toNat + 1, by omega, by omega, by go_num, HNx⟩
                      | true =>
                        rw [htc] at HC
                        have HTc := Lib.hid htc
                        clear htc
                        go_upto_region 22 with (refine HC.out.mono ?_; rintro ed w7 ⟨rfl, hb7⟩; have HI7 := Lib.hid (And.intro (HI.out.1.under hb7) (HI.out.2.under hb7)); clear hb7 HC HI d0 d2)
                        have p1 := BoxIs.cell (j := 1) HI7.out.1.box rfl
                        have HGr := Lib.hid (fun W => grown_any x.2 hx.2 cc W)
                        cases hgr : grownN x.2 cc with
                        | none =>
                          rw [hgr] at HGr
                          have HGn := Lib.hid hgr
                          clear hgr
                          go_wp2_with (go_at_call 89; refine (HGr.out _).mono ?_; rintro ed w8 ⟨rfl, hb8⟩; have HNx : Hid (Sch A hN S e bs bt x pb (fun k => k = pb ∨ k = ab) (viaC A x j a.dst t (cc.toNat + 1)) w w8 g ∧ BoxIs w8 ab #[.int .i64 a.dst, .bool false, .func (.func F) #[] #[.pointer (some ⟨kb, 0, none⟩)]] 128) := Lib.hid ⟨(HI7.out.1.under hb8).weaken (fun _ h => h) (.inl rfl) (fun y hy => (viaC_succ rfl hy).resolve_right (fun h => by obtain ⟨_, k, h, _⟩ := h; rw [HGn.out] at h; cases h)), HI7.out.2.under hb8⟩; clear hb8 HGr HI7 p1)
                          go_roundg gc
                          case measure => omega
                          case rel => exact ⟨cc.toNat + 1, by omega, by omega, by go_num, HNx⟩
                        | some kk =>
                          rw [hgr] at HGr
                          have HGn := Lib.hid hgr
                          have hkk := grownN_le hx.2 hgr
                          clear hgr
                          go_upto_region 24 with (go_at_call 89; refine (HGr.out _).mono ?_; rintro ed w8 ⟨rfl, hb8⟩; have HI8 := Lib.hid (And.intro (HI7.out.1.under hb8) (HI7.out.2.under hb8)); clear hb8 HGr HI7 p1)
                          have d0 := BoxIs.cell (j := 0) HI8.out.2 rfl
                          have HV := Lib.hid (HI8.out.1.visit (y := (a.dst, kk)) ⟨a, List.mem_of_getElem? HJa.out, .inr ⟨t, cc, HTk.out, HCc.out, HTc.out, kk, HGn.out, rfl⟩⟩ ⟨hdst, hkk⟩ (by omega) hAl)
                          go_wp2_with (refine HV.out.mono ?_; rintro ed w9 ⟨rfl, hv, hkeep⟩; have HNx : Hid (Sch A hN S e bs bt x pb (fun k => k = pb ∨ k = ab) (viaC A x j a.dst t (cc.toNat + 1)) w w9 g ∧ BoxIs w9 ab #[.int .i64 a.dst, .bool false, .func (.func F) #[] #[.pointer (some ⟨kb, 0, none⟩)]] 128) := Lib.hid ⟨hv.weaken (fun _ h => h) (.inl rfl) (fun y hy => (viaC_succ rfl hy).imp id (fun h => by obtain ⟨_, k, h, h2⟩ := h; rw [HGn.out] at h; injection h with h; rw [h2, h])), (hkeep ab (.inr rfl)).trans HI8.out.2⟩; clear hv hkeep HV HI8 d0)
                          go_roundg gc
                          case measure => omega
                          case rel => exact ⟨cc.toNat + 1, by omega, by omega, by go_num, HNx⟩
                    · obtain rfl : ci = 256 := by omega
                      have HNx : Hid (Sch A hN S e bs bt x pb (fun k => k = pb) (viaJ A x (j + 1)) w wr g) := Lib.hid (HI.out.1.weaken (fun k h => .inl h) rfl (fun y hy => viaJ_byte HJa.out HTk.out hy))
                      clear HI
                      go_wp2_with fail
                      go_roundg gi
                      case measure => omega
                      case rel => exact ⟨j + 1, by omega, by go_num, HNx⟩
              · have HD : Hid (Srch A hN S e bs bt w wr g) := Lib.hid (HI.out.finish HBad.out (fun y hy => by
                  obtain ⟨a, h1, h2⟩ := hy
                  exact ⟨a, by rw [List.take_of_length_le (by rw [HRL.out]; omega)]; exact h1, h2⟩))
                have hltF : ¬ (j : Int) < (RL : Int) := by omega
                clear HI
                go_wp2_with fail
                go_roundg g
                case measure => omega
                case rel => exact ⟨by omega, HD⟩
    · intro q w2 c2 hlq hqN hR2 hc2 hg2 hen2
      obtain ⟨g, rfl⟩ : ∃ g, gk = g + 1 := ⟨gk - 1, by omega⟩
      have HQ := Lib.hid (fun w3 ed (hv : VisRes A.length hN w.heap.size bs bt (fun k => k = W3.heap.size) T l (q, 0) w2 ed w3) => Sch1.more H.out.2.1 H.out.2.2.1 H.out.2.2.2.1 H.out.2.2.2.2 hr.1 hml hlq (h2.sub hlq) hR2 hc2 hg2 hv)
      have hl9 : l.length ≤ 1000000000 := by have := H.out.2.2.2.2; omega
      have HV := Lib.hid (visit_any w2 (H.out.1.other (r := W3.heap.size) rfl (by omega) hg2) (q, 0) ⟨hqN, by omega⟩ hl9 hAl (Nat.le_trans H.out.2.1.size hg2.size))
      clear hlq hR2 hg2 h2
      go_wp2_with (refine HV.out.mono ?_; rintro ed w3 hv; have HN := Lib.hid (HQ.out w3 ed hv); obtain ⟨rfl, _⟩ := hv; clear HV HQ)
      go_roundg g
      case measure => omega
      case rel => exact ⟨c2, by omega, HN⟩
end Go.Proofs.YtnpcbcnclncniaaGreatDoor
