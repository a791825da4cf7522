/-
  A plan under construction: its box, the rows of its steps and refusals.
-/
import Derived.Test.YtfenmeacimfiaaaGreatDoorPw4
import Derived.Test.YtfenmeacimfiaaaGreatDoorPl4
import Derived.Test.YtfenmeacimfiaaaGreatDoorSeqT
namespace Go.Proofs.YtfenmeacimfiaaaGreatDoor
open Go.RowKit

structure PRef where
  path : ByteArray
  err : Int
def stepCells (s : PStep) : List Value := [.int .i64 s.kind, .string s.path, .string s.dst, .int .i64 s.size, .int .i64 s.time]
def refCells (x : PRef) : List Value := [.string x.path, .int .i64 x.err]
abbrev refTy : TypeId := 151
abbrev planTy : TypeId := 26

/-- A row of structs of the call's own. -/
def OwnR {α : Type} (ty : TypeId) (n : Nat) (cells : α → List Value) (z : Nat) (W : World) (a : Option Addr) (cap : Nat) (xs : List α) : Prop :=
  W.ownsRow z ty n (.slice a xs.length cap) xs.length (xs.map cells).flatten
theorem OwnR.nil {α : Type} (ty : TypeId) (n : Nat) (cells : α → List Value) (z : Nat) (W : World) : OwnR ty n cells z W none 0 [] := ⟨by simp, .inl ⟨rfl, rfl⟩⟩
theorem OwnR.keep {α : Type} {ty : TypeId} {n : Nat} {cells : α → List Value} {z : Nat} {W W' : World} {a : Option Addr} {cap : Nat} {xs : List α} (h : OwnR ty n cells z W a cap xs) (hk : ∀ k c fz, z ≤ k → W.heap[k]? = some (.cells c ty fz) → W'.heap[k]? = W.heap[k]?) : OwnR ty n cells z W' a cap xs := by
  refine ⟨h.1, ?_⟩
  rcases h.2 with hn | ⟨g, c, cur, hv, h1, h2, h3⟩
  · exact .inl hn
  · refine .inr ⟨g, c, cur, hv, h1, ?_, h3⟩
    rw [hk g _ _ h1 h2]
    exact h2
theorem OwnR.base {α : Type} {ty : TypeId} {n : Nat} {cells : α → List Value} {z : Nat} {W : World} {a : Option Addr} {cap : Nat} {xs : List α} (h : OwnR ty n cells z W a cap xs) : ∀ k, (Value.slice a xs.length cap).ownBlock = some k → z ≤ k ∧ ∃ c, W.heap[k]? = some (.cells c ty (0, 0)) := by
  intro k hk
  rcases h.2 with ⟨hv, _⟩ | ⟨g, c, cur, hv, h1, h2, _⟩
  · rw [hv] at hk
    simp [Value.ownBlock] at hk
  · rw [hv] at hk
    simp [Value.ownBlock] at hk
    subst hk
    exact ⟨h1, cur, h2⟩

theorem elemSt : ∃ i : TypeInfo, Tryz.prog.underlying 23 = some (.slice stepTy) ∧ Tryz.prog.info? stepTy = some i ∧ i.zero = some (.agg #[.int .i64 0, .string ByteArray.empty, .string ByteArray.empty, .int .i64 0, .int .i64 0]) ∧ i.size = 5 ∧ i.bytes = 56 := by
  obtain ⟨i0, hi, hz0, hz1, hz2⟩ := info_parts (show (Tryz.prog.info? stepTy).map (fun i => (i.zero, i.size, i.bytes)) = some (some (.agg #[.int .i64 0, .string ByteArray.empty, .string ByteArray.empty, .int .i64 0, .int .i64 0]), 5, 56) by kernel_rfl)
  exact ⟨i0, Tryz.underlying23, hi, hz0, hz1, hz2⟩
theorem elemRf : ∃ i : TypeInfo, Tryz.prog.underlying 24 = some (.slice refTy) ∧ Tryz.prog.info? refTy = some i ∧ i.zero = some (.agg #[.string ByteArray.empty, .int .i64 0]) ∧ i.size = 2 ∧ i.bytes = 24 := by
  obtain ⟨i0, hi, hz0, hz1, hz2⟩ := info_parts (show (Tryz.prog.info? refTy).map (fun i => (i.zero, i.size, i.bytes)) = some (some (.agg #[.string ByteArray.empty, .int .i64 0]), 2, 24) by kernel_rfl)
  exact ⟨i0, Tryz.underlying24, hi, hz0, hz1, hz2⟩

set_option maxRecDepth 100000 in
theorem wp_appSt {o : Oper} {act : Act} {K : Act → World → Prop} {Q : Exit → Act → World → Prop} {te : TypeId} {z : Nat} {wx : World} {a : Option Addr} {cap : Nat} {xs : List PStep}
    (hz : z ≤ wx.heap.size) (hO : OwnR stepTy 5 stepCells z wx a cap xs) (hby : xs.length ≤ 2000000) (u : PStep) (s x : Operand)
    (ho : o.op = .call { callee := .builtin .append, args := #[s, x], argTypes := #[23, 23] }) (hs : act.eval s = .slice a xs.length cap) (hx : act.eval x = .slice (some ⟨wx.heap.size, 0, none⟩) 1 1)
    (h : ∀ g cap' w', OwnR stepTy 5 stepCells z w' (some ⟨g, 0, none⟩) cap' (xs ++ [u]) → (wx.alloc (.cells #[.int .i64 u.kind, .string u.path, .string u.dst, .int .i64 u.size, .int .i64 u.time] te)).grownBy w' (Value.slice a xs.length cap).ownBlock → K (act.put o.dst (.slice (some ⟨g, 0, none⟩) (xs.length + 1) cap')) w') :
    o.wp Tryz.prog act (wx.alloc (.cells #[.int .i64 u.kind, .string u.path, .string u.dst, .int .i64 u.size, .int .i64 u.time] te)) K Q := by
  obtain ⟨i, ht, hi, hz0, hz1, hz2⟩ := elemSt
  have hba : z ≤ (wx.alloc (.cells #[.int .i64 u.kind, .string u.path, .string u.dst, .int .i64 u.size, .int .i64 u.time] te)).heap.size := by simp; omega
  refine wp_append_lies _ s x 23 ho z stepTy i _ 5 56 ht hi hz0 hz1 hz2 rfl (by decide) _ xs.length (xs.map stepCells).flatten hs (World.ownsRow.alloc hO _) ⟨wx.heap.size, 0, none⟩ 1 1 (stepCells u) hx rfl (World.news_of_block (heap_alloc_new wx (.cells #[.int .i64 u.kind, .string u.path, .string u.dst, .int .i64 u.size, .int .i64 u.time] te))) (by simp [stepCells, Value.oneCell']) (by decide) (by unfold maxLen; omega) (by omega) hba _ rfl ?_
  intro g cap' w' hown hgrow hat hlt
  refine h g cap' w' ?_ hgrow
  unfold OwnR
  rw [List.map_append, List.flatten_append, List.length_append]
  simpa using hown

set_option maxRecDepth 100000 in
theorem wp_appRf {o : Oper} {act : Act} {K : Act → World → Prop} {Q : Exit → Act → World → Prop} {te : TypeId} {z : Nat} {wx : World} {a : Option Addr} {cap : Nat} {xs : List PRef}
    (hz : z ≤ wx.heap.size) (hO : OwnR refTy 2 refCells z wx a cap xs) (hby : xs.length ≤ 2000000) (u : PRef) (s x : Operand)
    (ho : o.op = .call { callee := .builtin .append, args := #[s, x], argTypes := #[24, 24] }) (hs : act.eval s = .slice a xs.length cap) (hx : act.eval x = .slice (some ⟨wx.heap.size, 0, none⟩) 1 1)
    (h : ∀ g cap' w', OwnR refTy 2 refCells z w' (some ⟨g, 0, none⟩) cap' (xs ++ [u]) → (wx.alloc (.cells #[.string u.path, .int .i64 u.err] te)).grownBy w' (Value.slice a xs.length cap).ownBlock → K (act.put o.dst (.slice (some ⟨g, 0, none⟩) (xs.length + 1) cap')) w') :
    o.wp Tryz.prog act (wx.alloc (.cells #[.string u.path, .int .i64 u.err] te)) K Q := by
  obtain ⟨i, ht, hi, hz0, hz1, hz2⟩ := elemRf
  have hba : z ≤ (wx.alloc (.cells #[.string u.path, .int .i64 u.err] te)).heap.size := by simp; omega
  refine wp_append_lies _ s x 24 ho z refTy i _ 2 24 ht hi hz0 hz1 hz2 rfl (by decide) _ xs.length (xs.map refCells).flatten hs (World.ownsRow.alloc hO _) ⟨wx.heap.size, 0, none⟩ 1 1 (refCells u) hx rfl (World.news_of_block (heap_alloc_new wx (.cells #[.string u.path, .int .i64 u.err] te))) (by simp [refCells, Value.oneCell']) (by decide) (by unfold maxLen; omega) (by omega) hba _ rfl ?_
  intro g cap' w' hown hgrow hat hlt
  refine h g cap' w' ?_ hgrow
  unfold OwnR
  rw [List.map_append, List.flatten_append, List.length_append]
  simpa using hown

/-- A plan in memory, in block p; its rows are the call's own, above z. -/
def PlanAt (z : Nat) (W : World) (p : Nat) (S : List PStep) (R : List PRef) (same bytes : Int) : Prop :=
  z ≤ p ∧ ∃ sa sc ra rc, BoxIs W p #[.slice sa S.length sc, .slice ra R.length rc, .int .i64 same, .int .i64 bytes] planTy ∧ OwnR stepTy 5 stepCells z W sa sc S ∧ OwnR refTy 2 refCells z W ra rc R
/-- All blocks but the plan's and its rows' are as they were. -/
structure PKept (z p : Nat) (w w' : World) : Prop where
  below : Below z w w'
  block : ∀ k o, w.heap[k]? = some o → k ≠ p → (∀ c fz, o ≠ .cells c stepTy fz) → (∀ c fz, o ≠ .cells c refTy fz) → w'.heap[k]? = some o
theorem PKept.refl (z p : Nat) (w : World) : PKept z p w w := ⟨Below.refl _ _, fun _ _ h _ _ _ => h⟩
theorem PKept.trans {z p : Nat} {u v w : World} (h : PKept z p u v) (k : PKept z p v w) : PKept z p u w := ⟨h.below.trans k.below, fun i o h1 h2 h3 h4 => k.block i o (h.block i o h1 h2 h3 h4) h2 h3 h4⟩
theorem PKept.of {z p : Nat} {w w' : World} (h : Below w.heap.size w w') (hz : z ≤ w.heap.size) : PKept z p w w' := ⟨h.mono hz, fun k o h1 _ _ _ => (h.block k (Array.getElem?_eq_some_iff.1 h1).1).trans h1⟩
theorem BoxIs.pkept {z p k : Nat} {w w' : World} {vs : Array Value} {t : TypeId} (h : BoxIs w k vs t) (hk : PKept z p w w') (hne : k ≠ p) (h1 : t ≠ stepTy) (h2 : t ≠ refTy) : BoxIs w' k vs t :=
  hk.block k _ h hne (fun _ _ e => h1 (by injection e)) (fun _ _ e => h2 (by injection e))
theorem PlanAt.under {z p : Nat} {W W' : World} {S : List PStep} {R : List PRef} {same bytes : Int} (h : PlanAt z W p S R same bytes) (hb : Below W.heap.size W W') : PlanAt z W' p S R same bytes := by
  obtain ⟨h0, sa, sc, ra, rc, h1, h2, h3⟩ := h
  have key : ∀ (k : Nat) (o : Obj), W.heap[k]? = some o → W'.heap[k]? = W.heap[k]? := fun k o hk => hb.block k (Array.getElem?_eq_some_iff.1 hk).1
  exact ⟨h0, sa, sc, ra, rc, h1.under hb, h2.keep (fun k _ _ _ hk => key k _ hk), h3.keep (fun k _ _ _ hk => key k _ hk)⟩
/-- Beside a box of another type. -/
theorem PlanAt.aside {z p b : Nat} {W W' : World} {S : List PStep} {R : List PRef} {same bytes : Int} {vs : Array Value} {t : TypeId} (h : PlanAt z W p S R same bytes) (ha : Aside b W W') (hb : BoxIs W b vs t) (t1 : t ≠ planTy) (t2 : t ≠ stepTy) (t3 : t ≠ refTy) : PlanAt z W' p S R same bytes := by
  obtain ⟨h0, sa, sc, ra, rc, h1, h2, h3⟩ := h
  have key : ∀ (k : Nat) (c : Array Value) (ty : TypeId) (fz : Nat × Nat), W.heap[k]? = some (.cells c ty fz) → t ≠ ty → W'.heap[k]? = W.heap[k]? := fun k c ty fz hk hne => ha.block k (Array.getElem?_eq_some_iff.1 hk).1 (fun e => by
    subst e
    unfold BoxIs at hb
    rw [hk] at hb
    injection hb with hb
    injection hb with _ hb
    exact hne hb.symm)
  refine ⟨h0, sa, sc, ra, rc, (key p _ _ _ h1 t1).trans h1, h2.keep (fun k _ _ _ hk => key k _ _ _ hk t2), h3.keep (fun k _ _ _ hk => key k _ _ _ hk t3)⟩

/-- A step more: behind the append and the store. -/
theorem planAt_step {z p : Nat} {W w' : World} {S : List PStep} {R : List PRef} {same bytes : Int} {sa : Option Addr} {sc : Nat} {ra : Option Addr} {rc g cap' : Nat} {u : PStep} {o : Obj} (h0 : z ≤ p) (hzw : z ≤ W.heap.size)
    (h1 : BoxIs W p #[.slice sa S.length sc, .slice ra R.length rc, .int .i64 same, .int .i64 bytes] planTy) (h2 : OwnR stepTy 5 stepCells z W sa sc S) (h3 : OwnR refTy 2 refCells z W ra rc R)
    (hO : OwnR stepTy 5 stepCells z w' (some ⟨g, 0, none⟩) cap' (S ++ [u])) (hg : (W.alloc o).grownBy w' (Value.slice sa S.length sc).ownBlock) :
    BoxIs w' p #[.slice sa S.length sc, .slice ra R.length rc, .int .i64 same, .int .i64 bytes] planTy ∧
    PlanAt z (w'.setCell ⟨p, 0, none⟩ (.slice (some ⟨g, 0, none⟩) (S.length + 1) cap')) p (S ++ [u]) R same bytes ∧ PKept z p W (w'.setCell ⟨p, 0, none⟩ (.slice (some ⟨g, 0, none⟩) (S.length + 1) cap')) := by
  have hblk : ∀ (k : Nat) (ob : Obj), W.heap[k]? = some ob → (∀ c fz, ob ≠ .cells c stepTy fz) → w'.heap[k]? = some ob := fun k ob hk hne => by
    have hlt : k < W.heap.size := (Array.getElem?_eq_some_iff.1 hk).1
    have hal : (W.alloc o).heap[k]? = some ob := (Lib.alloc_old W o k hlt).trans hk
    rw [hg.block k (Array.getElem?_eq_some_iff.1 hal).1 (fun e => by
      obtain ⟨_, c, hc⟩ := h2.base k e.symm
      rw [hk] at hc
      injection hc with hc
      exact hne _ _ hc)]
    exact hal
  have hbw : Below z W w' := ((Below.refl z W).alloc hzw o).grown hg (by simp; omega) (fun k hk => (h2.base k hk).1)
  have hp := hblk p _ h1 (fun c fz e => by injection e with _ e; exact absurd e (by decide))
  have hset : ∀ k, k ≠ p → (w'.setCell ⟨p, 0, none⟩ (.slice (some ⟨g, 0, none⟩) (S.length + 1) cap')).heap[k]? = w'.heap[k]? := fun k hk => Below.heap_setCell _ _ _ _ (fun e => hk e)
  have hnp : ∀ (W2 : World) (k : Nat) (c : Array Value) (ty : TypeId) (fz : Nat × Nat) (vs : Array Value), W2.heap[p]? = some (.cells vs planTy (0, 0)) → W2.heap[k]? = some (.cells c ty fz) → ty ≠ planTy → k ≠ p := fun W2 k c ty fz vs hpp hk hne e => by
    subst e
    rw [hk] at hpp
    injection hpp with hpp
    injection hpp with _ hpp
    exact hne hpp
  refine ⟨hp, ⟨h0, some ⟨g, 0, none⟩, cap', ra, rc, ?_, ?_, ?_⟩, ⟨Below.setCell hbw h0 _, fun k ob hk hne n1 n2 => ?_⟩⟩
  · have := BoxIs.setAt (w := w') (b := p) hp 0 (.slice (some ⟨g, 0, none⟩) (S.length + 1) cap')
    rw [List.length_append]
    exact this
  · exact hO.keep (fun k c fz _ hk => hset k (hnp w' k c _ fz _ hp hk (by decide)))
  · refine h3.keep (fun k c fz _ hk => ?_)
    rw [hset k (hnp W k c _ fz _ h1 hk (by decide)), hk]
    exact hblk k _ hk (fun c2 fz2 e => by injection e with _ e; exact absurd e (by decide))
  · rw [hset k hne]
    exact hblk k ob hk n1
/-- A refusal more. -/
theorem planAt_ref {z p : Nat} {W w' : World} {S : List PStep} {R : List PRef} {same bytes : Int} {sa : Option Addr} {sc : Nat} {ra : Option Addr} {rc g cap' : Nat} {u : PRef} {o : Obj} (h0 : z ≤ p) (hzw : z ≤ W.heap.size)
    (h1 : BoxIs W p #[.slice sa S.length sc, .slice ra R.length rc, .int .i64 same, .int .i64 bytes] planTy) (h2 : OwnR stepTy 5 stepCells z W sa sc S) (h3 : OwnR refTy 2 refCells z W ra rc R)
    (hO : OwnR refTy 2 refCells z w' (some ⟨g, 0, none⟩) cap' (R ++ [u])) (hg : (W.alloc o).grownBy w' (Value.slice ra R.length rc).ownBlock) :
    BoxIs w' p #[.slice sa S.length sc, .slice ra R.length rc, .int .i64 same, .int .i64 bytes] planTy ∧
    PlanAt z (w'.setCell ⟨p, 1, none⟩ (.slice (some ⟨g, 0, none⟩) (R.length + 1) cap')) p S (R ++ [u]) same bytes ∧ PKept z p W (w'.setCell ⟨p, 1, none⟩ (.slice (some ⟨g, 0, none⟩) (R.length + 1) cap')) := by
  have hblk : ∀ (k : Nat) (ob : Obj), W.heap[k]? = some ob → (∀ c fz, ob ≠ .cells c refTy fz) → w'.heap[k]? = some ob := fun k ob hk hne => by
    have hlt : k < W.heap.size := (Array.getElem?_eq_some_iff.1 hk).1
    have hal : (W.alloc o).heap[k]? = some ob := (Lib.alloc_old W o k hlt).trans hk
    rw [hg.block k (Array.getElem?_eq_some_iff.1 hal).1 (fun e => by
      obtain ⟨_, c, hc⟩ := h3.base k e.symm
      rw [hk] at hc
      injection hc with hc
      exact hne _ _ hc)]
    exact hal
  have hbw : Below z W w' := ((Below.refl z W).alloc hzw o).grown hg (by simp; omega) (fun k hk => (h3.base k hk).1)
  have hp := hblk p _ h1 (fun c fz e => by injection e with _ e; exact absurd e (by decide))
  have hset : ∀ k, k ≠ p → (w'.setCell ⟨p, 1, none⟩ (.slice (some ⟨g, 0, none⟩) (R.length + 1) cap')).heap[k]? = w'.heap[k]? := fun k hk => Below.heap_setCell _ _ _ _ (fun e => hk e)
  have hnp : ∀ (W2 : World) (k : Nat) (c : Array Value) (ty : TypeId) (fz : Nat × Nat) (vs : Array Value), W2.heap[p]? = some (.cells vs planTy (0, 0)) → W2.heap[k]? = some (.cells c ty fz) → ty ≠ planTy → k ≠ p := fun W2 k c ty fz vs hpp hk hne e => by
    subst e
    rw [hk] at hpp
    injection hpp with hpp
    injection hpp with _ hpp
    exact hne hpp
  refine ⟨hp, ⟨h0, sa, sc, some ⟨g, 0, none⟩, cap', ?_, ?_, ?_⟩, ⟨Below.setCell hbw h0 _, fun k ob hk hne n1 n2 => ?_⟩⟩
  · have := BoxIs.setAt (w := w') (b := p) hp 1 (.slice (some ⟨g, 0, none⟩) (R.length + 1) cap')
    rw [List.length_append]
    exact this
  · refine h2.keep (fun k c fz _ hk => ?_)
    rw [hset k (hnp W k c _ fz _ h1 hk (by decide)), hk]
    exact hblk k _ hk (fun c2 fz2 e => by injection e with _ e; exact absurd e (by decide))
  · exact hO.keep (fun k c fz _ hk => hset k (hnp w' k c _ fz _ hp hk (by decide)))
  · rw [hset k hne]
    exact hblk k ob hk n2
end Go.Proofs.YtfenmeacimfiaaaGreatDoor
