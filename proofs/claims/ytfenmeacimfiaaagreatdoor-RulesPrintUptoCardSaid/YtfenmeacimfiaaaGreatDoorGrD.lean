/-
  The texts Gr4, Gr5, Gr6, Gr7, in one.
-/
import Derived.Test.YtfenmeacimfiaaaGreatDoorGlbB
import Derived.Test.YtfenmeacimfiaaaGreatDoorGrA
import Derived.Deep.AppendLies
import Derived.Test.YtfenmeacimfiaaaGreatDoorSeqA
import Derived.IntWalk
import Derived.Test.YtfenmeacimfiaaaGreatDoorGp3
namespace Go.Proofs.YtfenmeacimfiaaaGreatDoor
open Go.RowKit Wh.G

/-- A row of the call's own. -/
def OwnG {α : Type} (ty : TypeId) (n : Nat) (cells : α → List Value) (z : Nat) (W : World) (a : Option Addr) (cap : Nat) (xs : List α) : Prop :=
  W.ownsRow z ty n (.slice a xs.length cap) xs.length (xs.map cells).flatten
theorem OwnG.nil {α : Type} (ty : TypeId) (n : Nat) (cells : α → List Value) (z : Nat) (W : World) : OwnG ty n cells z W none 0 [] := ⟨by simp, .inl ⟨rfl, rfl⟩⟩
theorem OwnG.same {α : Type} {ty : TypeId} {n : Nat} {cells : α → List Value} {z : Nat} {W W' : World} {a : Option Addr} {cap : Nat} {xs : List α} (h : OwnG ty n cells z W a cap xs) (hk : ∀ k, (Value.slice a xs.length cap).ownBlock = some k → k < W.heap.size → W'.heap[k]? = W.heap[k]?) : OwnG ty n cells z W' a cap xs := by
  refine ⟨h.1, ?_⟩
  rcases h.2 with hn | ⟨g, c, cur, hv, h1, h2, h3⟩
  · exact .inl hn
  · refine .inr ⟨g, c, cur, hv, h1, ?_, h3⟩
    rw [hk g (by rw [hv]; rfl) (Array.getElem?_eq_some_iff.1 h2).1]
    exact h2
theorem OwnG.base {α : Type} {ty : TypeId} {n : Nat} {cells : α → List Value} {z : Nat} {W : World} {a : Option Addr} {cap : Nat} {xs : List α} (h : OwnG ty n cells z W a cap xs) : ∀ k, (Value.slice a xs.length cap).ownBlock = some k → z ≤ k ∧ k < W.heap.size ∧ a = some ⟨k, 0, none⟩ := by
  intro k hk
  rcases h.2 with ⟨hv, _⟩ | ⟨g, c, cur, hv, h1, h2, _⟩
  · rw [hv] at hk
    simp [Value.ownBlock] at hk
  · injection hv with hv _ _
    rw [hv] at hk ⊢
    simp [Value.ownBlock] at hk
    subst hk
    exact ⟨h1, (Array.getElem?_eq_some_iff.1 h2).1, rfl⟩
theorem OwnG.under {α : Type} {ty : TypeId} {n : Nat} {cells : α → List Value} {z : Nat} {W W' : World} {a : Option Addr} {cap : Nat} {xs : List α} (h : OwnG ty n cells z W a cap xs) (hb : Below W.heap.size W W') : OwnG ty n cells z W' a cap xs := h.same (fun k _ hk => hb.block k hk)
theorem OwnG.side {α : Type} {ty : TypeId} {n : Nat} {cells : α → List Value} {z b : Nat} {W W' : World} {a : Option Addr} {cap : Nat} {xs : List α} (h : OwnG ty n cells z W a cap xs) (hb : Side b W W') (hz : b < z) : OwnG ty n cells z W' a cap xs :=
  h.same (fun k h1 hk => hb.block k hk (by have := (h.base k h1).1; omega))
theorem flatG_len {α : Type} {n : Nat} {cells : α → List Value} (hc : ∀ x, (cells x).length = n) (xs : List α) : (xs.map cells).flatten.length = xs.length * n := by
  induction xs with
  | nil => simp
  | cons x xs ih => rw [List.map_cons, List.flatten_cons, List.length_append, ih, hc, List.length_cons, Nat.succ_mul]; omega
theorem flatG_get {α : Type} {n : Nat} {cells : α → List Value} (hc : ∀ x, (cells x).length = n) : ∀ (xs : List α) (k j : Nat) (x : α), xs[k]? = some x → j < n → (xs.map cells).flatten[k * n + j]? = (cells x)[j]?
  | [], k, j, x, h, _ => by cases h
  | y :: xs, 0, j, x, h, hj => by
    injection h with h
    subst h
    rw [List.map_cons, List.flatten_cons, Nat.zero_mul, Nat.zero_add, List.getElem?_append_left (by rw [hc]; exact hj)]
  | y :: xs, k + 1, j, x, h, hj => by
    rw [List.map_cons, List.flatten_cons, List.getElem?_append_right (by rw [hc, Nat.succ_mul]; omega), hc, show (k + 1) * n + j - n = k * n + j by rw [Nat.succ_mul]; omega]
    exact flatG_get hc xs k j x h hj
/-- What it holds. -/
theorem OwnG.holds {α : Type} {ty : TypeId} {n : Nat} {cells : α → List Value} {z : Nat} {W : World} {a : Option Addr} {cap : Nat} {xs : List α} (hc : ∀ x, (cells x).length = n) (h : OwnG ty n cells z W a cap xs) : HoldsR W a n (xs.map cells) := by
  rcases h.2 with ⟨hv, h0⟩ | ⟨g, c, cur, hv, h1, h2, h3, h4, h5, h6⟩
  · left
    rw [List.eq_nil_of_length_eq_zero h0]
    rfl
  · injection hv with e1 _ _
    refine .inr ⟨g, 0, e1, (Array.getElem?_eq_some_iff.1 h2).1, fun k row hk j u hu => ?_⟩
    rw [List.getElem?_map] at hk
    cases hx : xs[k]? with
    | none => rw [hx] at hk; cases hk
    | some x =>
      rw [hx] at hk
      injection hk with hk
      subst hk
      have hj : j < n := by rw [← hc x]; exact (List.getElem?_eq_some_iff.1 hu).1
      have hkl := (List.getElem?_eq_some_iff.1 hx).1
      have h7 := flatG_get hc xs k j x hx hj
      rw [← h6, hu] at h7
      have hlt : k * n + j < xs.length * n := by
        have : (k + 1) * n ≤ xs.length * n := Nat.mul_le_mul_right _ hkl
        rw [Nat.succ_mul] at this
        omega
      rw [List.getElem?_take_of_lt hlt] at h7
      simp only [World.cell?, h2, Nat.zero_add]
      simpa using h7
/-- A cell of the last element is written. -/
theorem OwnG.setLast {α : Type} {ty : TypeId} {n : Nat} {cells : α → List Value} {z : Nat} {W : World} {g cap : Nat} {xs : List α} {p p' : α} {j : Nat} {v : Value} (hc : ∀ x, (cells x).length = n) (_hj : j < n) (hp : cells p' = (cells p).set j v)
    (h : OwnG ty n cells z W (some ⟨g, 0, none⟩) cap (xs ++ [p])) : OwnG ty n cells z (W.setCell ⟨g, xs.length * n + j, none⟩ v) (some ⟨g, 0, none⟩) cap (xs ++ [p']) := by
  have hl := flatG_len hc xs
  have e1 : ((xs ++ [p']).map cells).flatten = ((xs ++ [p]).map cells).flatten.set (xs.length * n + j) v := by
    simp only [List.map_append, List.map_cons, List.map_nil, List.flatten_append, List.flatten_cons, List.flatten_nil, List.append_nil]
    rw [List.set_append_right _ _ (by omega), hl, Nat.add_sub_cancel_left, hp]
  refine ⟨by rw [flatG_len hc], ?_⟩
  rcases h.2 with ⟨hv, _⟩ | ⟨g', c, cur, hv, h1, h2, h3, h4, h5, h6⟩
  · cases hv
  · injection hv with e2 _ e3
    injection e2 with e2
    injection e2 with e2
    subst e2 e3
    refine .inr ⟨g, cap, cur.setIfInBounds (xs.length * n + j) v, by simp, h1, ?_, by simpa using h3, h4, by simpa using h5, ?_⟩
    · simp [World.setCell, Array.getElem?_modify, h2]
    · rw [e1, ← h6, Array.toList_setIfInBounds, List.take_set]
      simp
/-- An element more. -/
theorem wpl_app {α : Type} {ty sty : TypeId} {n bytes : Nat} {cells : α → List Value} {zero : Value} (hE : ∃ i : TypeInfo, Tryz.prog.underlying sty = some (.slice ty) ∧ Tryz.prog.info? ty = some i ∧ i.zero = some zero ∧ i.size = n ∧ i.bytes = bytes)
    (hn : 0 < n) (hzs : zero.cells.size = n) (hc : ∀ x, (cells x).length = n) (hoc : ∀ x, ∀ v ∈ cells x, v.oneCell' = true) (hby : bytes ≤ 200)
    {ops : Array Oper} {rest : List Oper} {o : Oper} {act : Act} {Q : Exit → Act → World → Prop} {te : TypeId} {z B : Nat} {W : World} {a : Option Addr} {cap : Nat} {xs : List α}
    (hz : z ≤ W.heap.size) (hO : OwnG ty n cells z W a cap xs) (hl : xs.length ≤ 2000000) (u : α) (hb : BoxIs W B (cells u).toArray te) (hgd : o.guard = none) (s x : Operand)
    (ho : o.op = .call { callee := .builtin .append, args := #[s, x], argTypes := #[sty, sty] }) (hs : act.eval s = .slice a xs.length cap) (hx : act.eval x = .slice (some ⟨B, 0, none⟩) 1 1)
    (h : ∀ g cap' w', OwnG ty n cells z w' (some ⟨g, 0, none⟩) cap' (xs ++ [u]) → W.grownBy w' (Value.slice a xs.length cap).ownBlock → ((Value.slice a xs.length cap).ownBlock = some g ∨ g = W.heap.size) → g < w'.heap.size → wpList Tryz.prog ops Q rest (act.put o.dst (.slice (some ⟨g, 0, none⟩) (xs.length + 1) cap')) w') :
    wpList Tryz.prog ops Q (o :: rest) act W := by
  obtain ⟨i, ht, hi, hz0, hz1, hz2⟩ := hE
  refine wpList_append_lies _ hgd s x sty ho z ty i _ n bytes ht hi hz0 hz1 hz2 hzs hn _ xs.length (xs.map cells).flatten hs hO ⟨B, 0, none⟩ 1 1 (cells u) hx (by rw [hc]; omega) (fun j v hj => ?_) (fun v hv => hoc u v hv) (by decide) (by unfold maxLen; omega) ?_ hz _ rfl ?_
  · rw [show (⟨B, 0, none⟩ : Addr).add j = ⟨B, j, none⟩ by unfold Addr.add; split <;> simp_all]
    exact hb.cell (by simpa using hj)
  · have : (xs.length + 1) * bytes ≤ 2000001 * 200 := Nat.mul_le_mul (by omega) hby
    omega
  intro g cap' w' hown hgrow hat hlt
  refine h g cap' w' ?_ hgrow hat hlt
  unfold OwnG
  rw [List.map_append, List.flatten_append, List.length_append]
  simpa using hown

/-- The blocks that a part uses. -/
def slBlk {α : Type} (s : Sl α) (k : Nat) : Prop := ∃ o t, s.a = some ⟨k, o, t⟩
def FP : (n : Nat) → P n → Nat → Prop
  | 0, _, _ => False
  | n + 1, (p : PartOf (P n)), k => slBlk p.rg k ∨ slBlk p.ways k ∨ ∃ s ∈ p.ways.xs, slBlk s k ∨ ∃ q ∈ s.xs, FP n q k
def FPL (n : Nat) (s : Sl (P n)) (k : Nat) : Prop := slBlk s k ∨ ∃ q ∈ s.xs, FP n q k
theorem SlHolds.same {α : Type} {w w' : World} {n : Nat} {cells : α → List Value} {s : Sl α} (h : SlHolds w n cells s) (hz : w.heap.size ≤ w'.heap.size) (hk : ∀ k, slBlk s k → w'.heap[k]? = w.heap[k]?) : SlHolds w' n cells s := by
  refine ⟨?_, h.2⟩
  rcases h.1 with h1 | ⟨b, off, ha, hb, hc⟩
  · exact .inl h1
  · refine .inr ⟨b, off, ha, by omega, fun k row hr j u hu => ?_⟩
    rw [World.cell?_of_block (w := w) (a := ⟨b, _, none⟩) (hk b ⟨off, none, ha⟩)]
    exact hc k row hr j u hu
theorem POk.same {w w' : World} (hz : w.heap.size ≤ w'.heap.size) : ∀ (n : Nat) (p : P n), POk w n p → (∀ k, FP n p k → w'.heap[k]? = w.heap[k]?) → POk w' n p
  | 0, _, _, _ => trivial
  | n + 1, _, h, hk => ⟨h.1, h.2.1.same hz (fun k hb => hk k (.inl hb)), h.2.2.1, h.2.2.2.1.same hz (fun k hb => hk k (.inr (.inl hb))), fun s hs => ⟨(h.2.2.2.2 s hs).1.same hz (fun k hb => hk k (.inr (.inr ⟨s, hs, .inl hb⟩))), fun q hq => POk.same hz n q ((h.2.2.2.2 s hs).2 q hq) (fun k hb => hk k (.inr (.inr ⟨s, hs, .inr ⟨q, hq, hb⟩⟩)))⟩⟩
theorem SOk.same {w w' : World} {n : Nat} {s : Sl (P n)} (hz : w.heap.size ≤ w'.heap.size) (h : SOk w n s) (hk : ∀ k, FPL n s k → w'.heap[k]? = w.heap[k]?) : SOk w' n s :=
  ⟨h.1.same hz (fun k hb => hk k (.inl hb)), fun q hq => POk.same hz n q (h.2 q hq) (fun k hb => hk k (.inr ⟨q, hq, hb⟩))⟩

/-- What a part stands for. -/
def gpOf : (n : Nat) → P n → GP
  | 0, e => nomatch e
  | n + 1, (p : PartOf (P n)) => if p.kind = 1 then .text p.text.data.toList else if p.kind = 2 then .one else if p.kind = 3 then .star else if p.kind = 4 then .deep else if p.kind = 5 then .set p.neg p.rg.xs else .ways (p.ways.xs.map (fun s => s.xs.map (gpOf n)))
abbrev gpL (n : Nat) (xs : List (P n)) : List GP := xs.map (gpOf n)
/-- It has nothing but what it stands for. -/
def Clean : (n : Nat) → P n → Prop
  | 0, _ => True
  | n + 1, (p : PartOf (P n)) => (p.kind = 1 ∧ p.neg = false ∧ p.rg.xs = [] ∧ p.ways.xs = []) ∨ ((p.kind = 2 ∨ p.kind = 3 ∨ p.kind = 4) ∧ p.text.data.toList = [] ∧ p.neg = false ∧ p.rg.xs = [] ∧ p.ways.xs = []) ∨
      (p.kind = 5 ∧ p.text.data.toList = [] ∧ p.ways.xs = []) ∨ (p.kind = 6 ∧ p.text.data.toList = [] ∧ p.neg = false ∧ p.rg.xs = [] ∧ ∀ s ∈ p.ways.xs, ∀ q ∈ s.xs, Clean n q)
/-- A part that a call has made since a world of z blocks. -/
structure MadeP (n z : Nat) (W : World) (p : P n) : Prop where
  ok : POk W n p
  cl : Clean n p
  fp : ∀ k, FP n p k → z ≤ k ∧ k < W.heap.size
theorem MadeP.same {n z : Nat} {W W' : World} {p : P n} (h : MadeP n z W p) (hz : W.heap.size ≤ W'.heap.size) (hk : ∀ k, FP n p k → W'.heap[k]? = W.heap[k]?) : MadeP n z W' p :=
  ⟨h.ok.same hz n p hk, h.cl, fun k hf => ⟨(h.fp k hf).1, Nat.lt_of_lt_of_le (h.fp k hf).2 hz⟩⟩
theorem MadeP.side {n z b : Nat} {W W' : World} {p : P n} (h : MadeP n z W p) (hs : Side b W W') (hb : b < z) : MadeP n z W' p :=
  h.same hs.size (fun k hf => hs.block k (h.fp k hf).2 (by have := (h.fp k hf).1; omega))
theorem MadeP.mono {n z z' : Nat} {W : World} {p : P n} (h : MadeP n z W p) (hz : z' ≤ z) : MadeP n z' W p := ⟨h.ok, h.cl, fun k hf => ⟨Nat.le_trans hz (h.fp k hf).1, (h.fp k hf).2⟩⟩
/-- A list of parts under construction. -/
structure LsAt (n z : Nat) (W : World) (a : Option Addr) (cap : Nat) (xs : List (P n)) : Prop where
  own : OwnG party 5 (partCells n) z W a cap xs
  made : ∀ q ∈ xs, MadeP n z W q
  off : ∀ q ∈ xs, ∀ k, FP n q k → (Value.slice a xs.length cap).ownBlock ≠ some k
theorem LsAt.nil (n z : Nat) (W : World) : LsAt n z W none 0 [] := ⟨OwnG.nil _ _ _ _ _, fun _ h => (by cases h), fun _ h => (by cases h)⟩
theorem LsAt.side {n z b : Nat} {W W' : World} {a : Option Addr} {cap : Nat} {xs : List (P n)} (h : LsAt n z W a cap xs) (hs : Side b W W') (hb : b < z) : LsAt n z W' a cap xs :=
  ⟨h.own.side hs hb, fun q hq => (h.made q hq).side hs hb, h.off⟩
theorem LsAt.under {n z : Nat} {W W' : World} {a : Option Addr} {cap : Nat} {xs : List (P n)} (h : LsAt n z W a cap xs) (hs : Below W.heap.size W W') : LsAt n z W' a cap xs :=
  ⟨h.own.under hs, fun q hq => (h.made q hq).same hs.size (fun k hf => hs.block k ((h.made q hq).fp k hf).2), h.off⟩
theorem LsAt.snoc {n z : Nat} {W w' : World} {a : Option Addr} {cap cap' g : Nat} {xs : List (P n)} {p : P n} (h : LsAt n z W a cap xs) (hp : MadeP n z W p) (hoff : ∀ k, FP n p k → (Value.slice a xs.length cap).ownBlock ≠ some k)
    (hO : OwnG party 5 (partCells n) z w' (some ⟨g, 0, none⟩) cap' (xs ++ [p])) (hg : W.grownBy w' (Value.slice a xs.length cap).ownBlock) (hat : (Value.slice a xs.length cap).ownBlock = some g ∨ g = W.heap.size) : LsAt n z w' (some ⟨g, 0, none⟩) cap' (xs ++ [p]) := by
  have key : ∀ q, MadeP n z W q → (∀ k, FP n q k → (Value.slice a xs.length cap).ownBlock ≠ some k) → MadeP n z w' q ∧ ∀ k, FP n q k → g ≠ k := fun q hq ho => by
    refine ⟨hq.same hg.size (fun k hf => hg.block k (hq.fp k hf).2 (fun e => ho k hf e.symm)), fun k hf e => ?_⟩
    subst e
    rcases hat with hat | hat
    · exact ho g hf hat
    · have := (hq.fp g hf).2
      omega
  have all : ∀ q ∈ xs ++ [p], MadeP n z w' q ∧ ∀ k, FP n q k → g ≠ k := fun q hq => by
    rcases List.mem_append.1 hq with hq | hq
    · exact key q (h.made q hq) (h.off q hq)
    · rw [List.mem_singleton.1 hq]
      exact key p hp hoff
  exact ⟨hO, fun q hq => (all q hq).1, fun q hq k hf e => (all q hq).2 k hf (by injection e)⟩
theorem LsAt.ok {n z : Nat} {W : World} {a : Option Addr} {cap : Nat} {xs : List (P n)} (h : LsAt n z W a cap xs) : SOk W n ⟨a, cap, xs⟩ := by
  refine ⟨⟨h.own.holds (partCells_len n), ?_⟩, fun q hq => (h.made q hq).ok⟩
  rcases h.own.2 with ⟨hv, h0⟩ | ⟨g, c, cur, hv, _, _, h3, h4, _⟩
  · injection hv with _ e2 e3
    exact ⟨by show xs.length ≤ cap; omega, by show cap ≤ maxLen; rw [e3]; exact Nat.zero_le _⟩
  · injection hv with _ e2 e3
    exact ⟨by show xs.length ≤ cap; omega, by show cap ≤ maxLen; omega⟩
theorem LsAt.fp {n z : Nat} {W : World} {a : Option Addr} {cap : Nat} {xs : List (P n)} (h : LsAt n z W a cap xs) : ∀ k, FPL n ⟨a, cap, xs⟩ k → z ≤ k ∧ k < W.heap.size := by
  rintro k (⟨o, t, ha⟩ | ⟨q, hq, hf⟩)
  · have ha : a = some ⟨k, o, t⟩ := ha
    have := h.own.base k (by rw [ha]; rfl)
    exact ⟨this.1, this.2.1⟩
  · exact (h.made q hq).fp k hf
end Go.Proofs.YtfenmeacimfiaaaGreatDoor
namespace Go.Proofs.YtfenmeacimfiaaaGreatDoor
open Go.RowKit Wh.G

/-- A part of a value. -/
def PartVal (n z : Nat) (gp : GP) (v : Value) (w' : World) : Prop := ∃ p : P n, v = .agg (partCells n p).toArray ∧ MadeP n z w' p ∧ gpOf n p = gp
/-- A part with no rows. -/
def simpleP (n : Nat) (k : Int) (s : ByteArray) : P (n + 1) := (⟨k, s, false, ⟨none, 0, []⟩, ⟨none, 0, []⟩⟩ : PartOf (P n))
theorem simple_made (n z : Nat) (W : World) (k : Int) (s : ByteArray) (h : (k = 1 ∧ s.size ≤ 2000000) ∨ ((k = 2 ∨ k = 3 ∨ k = 4) ∧ s.data.toList = [])) : MadeP (n + 1) z W (simpleP n k s) := by
  refine ⟨⟨⟨?_, ?_, ?_⟩, ⟨.inl rfl, Nat.le_refl _, Nat.zero_le _⟩, fun r hr => (by cases hr), ⟨.inl rfl, Nat.le_refl _, Nat.zero_le _⟩, fun s hs => (by cases hs)⟩, ?_, ?_⟩
  · rcases h with ⟨_, h⟩ | ⟨_, h⟩
    · show s.size ≤ maxLen
      unfold maxLen
      omega
    · show s.size ≤ maxLen
      rw [Lib.size_eq, h]
      exact Nat.zero_le _
  · show -9223372036854775808 ≤ k
    omega
  · show k ≤ 9223372036854775807
    omega
  · rcases h with ⟨h, _⟩ | ⟨h, h2⟩
    · exact .inl ⟨h, rfl, rfl, rfl⟩
    · exact .inr (.inl ⟨h, h2, rfl, rfl, rfl⟩)
  · rintro k (⟨o, t, h⟩ | ⟨o, t, h⟩ | ⟨q, h, _⟩)
    · cases h
    · cases h
    · cases h
/-- What set and ways do. -/
def SetOk : Prop := ∀ (n b : Nat) (T : ByteArray) (k e : Nat) (w : World), RdAt w b T k e → k < e → e ≤ T.size → T.size ≤ 100000 → Env w →
  Calls Tryz.prog 198 #[.pointer (some ⟨b, 0, none⟩)] w (RdPost b T e w (setR (left T (k + 1) e)) (PartVal (n + 1) w.heap.size))
def WaysOk (n : Nat) : Prop := ∀ (b : Nat) (T : ByteArray) (k e d : Nat) (w : World), RdAt w b T k e → k < e → e ≤ T.size → T.size ≤ 100000 → d + (e - k) ≤ 1000000 → (left T k e).length ≤ n → Env w →
  Calls Tryz.prog 199 #[.pointer (some ⟨b, 0, none⟩), .int .i64 d] w (RdPost b T e w (WL [] (left T (k + 1) e)) (fun ws v w' => PartVal (n + 1) w.heap.size (.ways ws) v w'))
/-- What part returns. -/
def PartRes (n z : Nat) (o : Option GP) (v : Value) (w' : World) : Prop := match o with
  | some gp => ∃ p : P n, v = .tuple #[.agg (partCells n p).toArray, .bool true] ∧ MadeP n z w' p ∧ gpOf n p = gp
  | none => v = .tuple #[.agg pZero, .bool false]
theorem Rd.bind_bad {α β : Type} {m : Rd α} {f : α → List UInt8 → Rd β} {r : List UInt8} (h : m = .bad r) : m.bind f = .bad r := by rw [h]; rfl
theorem Rd.bind_ok {α β : Type} {m : Rd α} {f : α → List UInt8 → Rd β} {a : α} {r : List UInt8} (h : m = .ok a r) : m.bind f = f a r := by rw [h]; rfl

set_option maxHeartbeats 4000000 in
set_option maxRecDepth 100000 in
theorem gpart_any (HSet : SetOk) (n : Nat) (HWays : WaysOk n) (b : Nat) (T : ByteArray) (k e d : Nat) (w : World) (h : RdAt w b T k e) (hk : k < e) (he : e ≤ T.size) (hs : T.size ≤ 100000) (hd : d + (e - k) ≤ 1000000) (hn : (left T k e).length ≤ n) (hE : Env w) :
    Calls Tryz.prog 159 #[.pointer (some ⟨b, 0, none⟩), .int .i64 d] w (RdPost b T e w (partR (left T k e)) (PartRes (n + 1) w.heap.size)) := by
  have H := Lib.hid h
  have hbl := h.lt
  have HB0 := Lib.hid (bAlloc (Below.refl w.heap.size w) (.cells pZero party))
  have HZ := Lib.hid (BoxIs.new w pZero party)
  obtain ⟨c, hc⟩ : ∃ c : UInt8, T[k]'(by omega) = c := ⟨_, rfl⟩
  have hL := left_cons hk he c hc
  rw [hL]
  have HL := Lib.hid hL
  clear hL
  have e63 := u8_eq c 63
  have e42 := u8_eq c 42
  have e91 := u8_eq c 91
  have e123 := u8_eq c 123
  change ((c.toNat : Int) == 63) = _ at e63
  change ((c.toNat : Int) == 42) = _ at e42
  change ((c.toNat : Int) == 91) = _ at e91
  change ((c.toNat : Int) == 123) = _ at e123
  have hk0 : (0 : Int) ≤ (k : Int) := by omega
  have hk1 : (k : Int) < (T.size : Int) := by omega
  have HSet1 := Lib.hid (fun W (hR : RdAt W b T k e) hE => HSet n b T k e W hR hk he hs hE)
  have HWays1 := Lib.hid (fun W (hR : RdAt W b T k e) hE => HWays b T k e d W hR hk he hs hd hn hE)
  have HStars1 := Lib.hid (fun W (hR : RdAt W b T k e) => gstars_any b T k e W hR (by omega) he (by omega))
  rw [HL.out] at HStars1
  have HE1 : Hid (Env (w.alloc (.cells pZero party))) := Lib.hid (hE.under HB0.out)
  clear h HSet HWays hE hn
  obtain ⟨R, hR⟩ : ∃ R, partR (c :: left T (k + 1) e) = R := ⟨_, rfl⟩
  have HPt := Lib.hid hR
  simp only [partR] at hR
  rw [HPt.out]
  by_cases k63 : c = 63
  · subst k63
    rw [if_pos rfl] at hR
    subst hR
    have e63t : ((63 : UInt8) == 63) = true := rfl
    rw [e63t] at e63
    clear e42 e91 e123 HSet1 HWays1 HStars1 HPt
    go_enter Tryz.func159, Tryz.ntmps159
    go_upto_region 1 with fail
    obtain ⟨rb, hrb0⟩ : ∃ rb, rb = w.heap.size := ⟨_, rfl⟩
    rw [← hrb0]
    rw [← hrb0] at HZ
    have hrb : b ≠ rb := by omega
    have hrz : w.heap.size ≤ rb := by omega
    clear hrb0
    generalize w.alloc _ = w1 at *
    have HR1 : Hid (RdAt w1 b T k e) := Lib.hid (BoxIs.under H.out HB0.out)
    have HS1 : Hid (Side b w w1) := Lib.hid (Side.of HB0.out)
    have x0 := HR1.out.cell (j := 0) rfl
    have x1 := HR1.out.cell (j := 1) rfl
    go_quiet (fail)
    have HR2 : Hid (RdAt (w1.drewN nq) b T k e) := Lib.hid HR1.out
    have HS2 : Hid (Side b w (w1.drewN nq)) := Lib.hid (HS1.out.drew nq)
    have HZ2 : Hid (BoxIs (w1.drewN nq) rb pZero party) := Lib.hid HZ.out
    have HE2 : Hid (Env (w1.drewN nq)) := Lib.hid HE1.out
    clear x0 x1 H HB0 HZ HR1 HS1 HE1
    generalize w1.drewN nq = w2 at *
    have x1 := HR2.out.cell (j := 1) rfl
    have f1 := Lib.frozen_of_heap HR2.out 1
    have HR3 : Hid (RdAt (w2.setCell ⟨b, 1, none⟩ (.int .i64 ((k : Int) + 1))) b T (k + 1) e) := Lib.hid (HR2.out.step (k + 1))
    have HS3 := Lib.hid (HS2.out.set 1 (.int .i64 ((k : Int) + 1)))
    have HZ3 := Lib.hid (BoxIs.side HZ2.out ((Side.refl b w2).set 1 (.int .i64 ((k : Int) + 1))) (fun e => hrb e.symm))
    go_upto_region 4 with fail
    generalize w2.setCell _ _ = w3 at *
    have hZr := HZ3.out
    have d0 := hZr.cell (j := 0) rfl
    have d1 := hZr.cell (j := 1) rfl
    have d2 := hZr.cell (j := 2) rfl
    have d3 := hZr.cell (j := 3) rfl
    have d4 := hZr.cell (j := 4) rfl
    have g0 := Lib.frozen_of_heap hZr 0
    have g1 := Lib.frozen_of_heap hZr 1
    have g2 := Lib.frozen_of_heap hZr 2
    have g3 := Lib.frozen_of_heap hZr 3
    have g4 := Lib.frozen_of_heap hZr 4
    have HFn := Lib.hid (part_put hZr (.int .i64 2) (.string ⟨#[]⟩) (.bool false) (.slice none 0 0) (.slice none 0 0))
    clear hZr
    go_wp2_with fail
    clear d0 d1 d2 d3 d4 g0 g1 g2 g3 g4
    generalize ((((World.setCell _ _ _).setCell _ _).setCell _ _).setCell _ _).setCell _ _ = wf at *
    have d0 := HFn.out.1.cell (j := 0) rfl
    have d1 := HFn.out.1.cell (j := 1) rfl
    have d2 := HFn.out.1.cell (j := 2) rfl
    have d3 := HFn.out.1.cell (j := 3) rfl
    have d4 := HFn.out.1.cell (j := 4) rfl
    refine bodyPost_ret (v := .tuple #[pKind 2, .bool true]) ?_ rfl ?_
    · simp [results, Tryz.f159]
      go_simp
    · exact ⟨_, k + 1, rfl, ⟨simpleP n 2 ⟨#[]⟩, rfl, simple_made n _ _ 2 _ (.inr ⟨.inl rfl, rfl⟩), rfl⟩, BoxIs.side HR3.out HFn.out.2 hrb, hk, rfl, HS3.out.new HFn.out.2 hrz⟩
  rw [if_neg k63] at hR
  have e63f : (c == 63) = false := by simpa using k63
  rw [e63f] at e63
  by_cases k42 : c = 42
  · subst k42
    rw [if_pos rfl] at hR
    have e42t : ((42 : UInt8) == 42) = true := rfl
    rw [e42t] at e42
    clear e91 e123 HSet1 HWays1 HPt
    obtain ⟨G, hG⟩ : ∃ G, goS 0 (42 :: left T (k + 1) e) = G := ⟨_, rfl⟩
    rw [hG] at hR HStars1
    cases G with
    | bad r =>
      have hR : Rd.bad r = R := hR
      subst hR
      go_enter Tryz.func159, Tryz.ntmps159
      go_upto_region 1 with fail
      obtain ⟨rb, hrb0⟩ : ∃ rb, rb = w.heap.size := ⟨_, rfl⟩
      rw [← hrb0]
      rw [← hrb0] at HZ
      have hrb : b ≠ rb := by omega
      have hrz : w.heap.size ≤ rb := by omega
      clear hrb0
      generalize w.alloc _ = w1 at *
      have HR1 : Hid (RdAt w1 b T k e) := Lib.hid (BoxIs.under H.out HB0.out)
      have HS1 : Hid (Side b w w1) := Lib.hid (Side.of HB0.out)
      have x0 := HR1.out.cell (j := 0) rfl
      have x1 := HR1.out.cell (j := 1) rfl
      go_quiet (fail)
      have HR2 : Hid (RdAt (w1.drewN nq) b T k e) := Lib.hid HR1.out
      have HS2 : Hid (Side b w (w1.drewN nq)) := Lib.hid (HS1.out.drew nq)
      have HZ2 : Hid (BoxIs (w1.drewN nq) rb pZero party) := Lib.hid HZ.out
      have HE2 : Hid (Env (w1.drewN nq)) := Lib.hid HE1.out
      clear x0 x1 H HB0 HZ HR1 HS1 HE1
      generalize w1.drewN nq = w2 at *
      have x1 := HR2.out.cell (j := 1) rfl
      have f1 := Lib.frozen_of_heap HR2.out 1
      have HSt := Lib.hid (HStars1.out w2 HR2.out)
      go_wp2_with (go_at_call 197; refine HSt.out.mono ?_; rintro E w3 ⟨rfl, hS3⟩)
      exact ⟨rfl, rfl, HS2.out.trans hS3⟩
    | ok kd r =>
      have hkd : kd = 3 ∨ kd = 4 := by
        rw [goS_zero] at hG
        split at hG
        · split at hG
          · cases hG
          · injection hG with hG _
            exact .inr hG.symm
        · injection hG with hG _
          exact .inl hG.symm
      have hR : Rd.ok (some (if kd = 4 then GP.deep else .star)) r = R := hR
      clear hG
      rcases hkd with rfl | rfl
      · rw [if_neg (by decide)] at hR
        subst hR
        go_enter Tryz.func159, Tryz.ntmps159
        go_upto_region 1 with fail
        obtain ⟨rb, hrb0⟩ : ∃ rb, rb = w.heap.size := ⟨_, rfl⟩
        rw [← hrb0]
        rw [← hrb0] at HZ
        have hrb : b ≠ rb := by omega
        have hrz : w.heap.size ≤ rb := by omega
        clear hrb0
        generalize w.alloc _ = w1 at *
        have HR1 : Hid (RdAt w1 b T k e) := Lib.hid (BoxIs.under H.out HB0.out)
        have HS1 : Hid (Side b w w1) := Lib.hid (Side.of HB0.out)
        have x0 := HR1.out.cell (j := 0) rfl
        have x1 := HR1.out.cell (j := 1) rfl
        go_quiet (fail)
        have HR2 : Hid (RdAt (w1.drewN nq) b T k e) := Lib.hid HR1.out
        have HS2 : Hid (Side b w (w1.drewN nq)) := Lib.hid (HS1.out.drew nq)
        have HZ2 : Hid (BoxIs (w1.drewN nq) rb pZero party) := Lib.hid HZ.out
        have HE2 : Hid (Env (w1.drewN nq)) := Lib.hid HE1.out
        clear x0 x1 H HB0 HZ HR1 HS1 HE1
        generalize w1.drewN nq = w2 at *
        have x1 := HR2.out.cell (j := 1) rfl
        have f1 := Lib.frozen_of_heap HR2.out 1
        have HSt := Lib.hid (HStars1.out w2 HR2.out)
        go_wp2_with (go_at_call 197; refine HSt.out.mono ?_; rintro E w3 ⟨v3, k3, rfl, rfl, hR3, hk3, hl3, hS3⟩; have HR3 := Lib.hid hR3; have HL3 := Lib.hid hl3; have HS3 := Lib.hid (HS2.out.trans hS3); have HZ3 := Lib.hid (BoxIs.side HZ2.out hS3 (fun e => hrb e.symm)); skip; clear hR3 hl3 hS3; have d0 := HZ3.out.cell (j := 0) rfl; have d1 := HZ3.out.cell (j := 1) rfl; have d2 := HZ3.out.cell (j := 2) rfl; have d3 := HZ3.out.cell (j := 3) rfl; have d4 := HZ3.out.cell (j := 4) rfl; have g0 := Lib.frozen_of_heap HZ3.out 0; have g1 := Lib.frozen_of_heap HZ3.out 1; have g2 := Lib.frozen_of_heap HZ3.out 2; have g3 := Lib.frozen_of_heap HZ3.out 3; have g4 := Lib.frozen_of_heap HZ3.out 4)
        have HFn := Lib.hid (part_put HZ3.out (.int .i64 3) (.string ⟨#[]⟩) (.bool false) (.slice none 0 0) (.slice none 0 0))
        clear d0 d1 d2 d3 d4 g0 g1 g2 g3 g4
        generalize ((((World.setCell _ _ _).setCell _ _).setCell _ _).setCell _ _).setCell _ _ = wf at *
        have d0 := HFn.out.1.cell (j := 0) rfl
        have d1 := HFn.out.1.cell (j := 1) rfl
        have d2 := HFn.out.1.cell (j := 2) rfl
        have d3 := HFn.out.1.cell (j := 3) rfl
        have d4 := HFn.out.1.cell (j := 4) rfl
        refine bodyPost_ret (v := .tuple #[pKind 3, .bool true]) ?_ rfl ?_
        · simp [results, Tryz.f159]
          go_simp
        · exact ⟨_, k3, rfl, ⟨simpleP n 3 ⟨#[]⟩, rfl, simple_made n _ _ 3 _ (.inr ⟨by omega, rfl⟩), rfl⟩, BoxIs.side HR3.out HFn.out.2 hrb, hk3, HL3.out, HS3.out.new HFn.out.2 hrz⟩
      · rw [if_pos rfl] at hR
        subst hR
        go_enter Tryz.func159, Tryz.ntmps159
        go_upto_region 1 with fail
        obtain ⟨rb, hrb0⟩ : ∃ rb, rb = w.heap.size := ⟨_, rfl⟩
        rw [← hrb0]
        rw [← hrb0] at HZ
        have hrb : b ≠ rb := by omega
        have hrz : w.heap.size ≤ rb := by omega
        clear hrb0
        generalize w.alloc _ = w1 at *
        have HR1 : Hid (RdAt w1 b T k e) := Lib.hid (BoxIs.under H.out HB0.out)
        have HS1 : Hid (Side b w w1) := Lib.hid (Side.of HB0.out)
        have x0 := HR1.out.cell (j := 0) rfl
        have x1 := HR1.out.cell (j := 1) rfl
        go_quiet (fail)
        have HR2 : Hid (RdAt (w1.drewN nq) b T k e) := Lib.hid HR1.out
        have HS2 : Hid (Side b w (w1.drewN nq)) := Lib.hid (HS1.out.drew nq)
        have HZ2 : Hid (BoxIs (w1.drewN nq) rb pZero party) := Lib.hid HZ.out
        have HE2 : Hid (Env (w1.drewN nq)) := Lib.hid HE1.out
        clear x0 x1 H HB0 HZ HR1 HS1 HE1
        generalize w1.drewN nq = w2 at *
        have x1 := HR2.out.cell (j := 1) rfl
        have f1 := Lib.frozen_of_heap HR2.out 1
        have HSt := Lib.hid (HStars1.out w2 HR2.out)
        go_wp2_with (go_at_call 197; refine HSt.out.mono ?_; rintro E w3 ⟨v3, k3, rfl, rfl, hR3, hk3, hl3, hS3⟩; have HR3 := Lib.hid hR3; have HL3 := Lib.hid hl3; have HS3 := Lib.hid (HS2.out.trans hS3); have HZ3 := Lib.hid (BoxIs.side HZ2.out hS3 (fun e => hrb e.symm)); skip; clear hR3 hl3 hS3; have d0 := HZ3.out.cell (j := 0) rfl; have d1 := HZ3.out.cell (j := 1) rfl; have d2 := HZ3.out.cell (j := 2) rfl; have d3 := HZ3.out.cell (j := 3) rfl; have d4 := HZ3.out.cell (j := 4) rfl; have g0 := Lib.frozen_of_heap HZ3.out 0; have g1 := Lib.frozen_of_heap HZ3.out 1; have g2 := Lib.frozen_of_heap HZ3.out 2; have g3 := Lib.frozen_of_heap HZ3.out 3; have g4 := Lib.frozen_of_heap HZ3.out 4)
        have HFn := Lib.hid (part_put HZ3.out (.int .i64 4) (.string ⟨#[]⟩) (.bool false) (.slice none 0 0) (.slice none 0 0))
        clear d0 d1 d2 d3 d4 g0 g1 g2 g3 g4
        generalize ((((World.setCell _ _ _).setCell _ _).setCell _ _).setCell _ _).setCell _ _ = wf at *
        have d0 := HFn.out.1.cell (j := 0) rfl
        have d1 := HFn.out.1.cell (j := 1) rfl
        have d2 := HFn.out.1.cell (j := 2) rfl
        have d3 := HFn.out.1.cell (j := 3) rfl
        have d4 := HFn.out.1.cell (j := 4) rfl
        refine bodyPost_ret (v := .tuple #[pKind 4, .bool true]) ?_ rfl ?_
        · simp [results, Tryz.f159]
          go_simp
        · exact ⟨_, k3, rfl, ⟨simpleP n 4 ⟨#[]⟩, rfl, simple_made n _ _ 4 _ (.inr ⟨by omega, rfl⟩), rfl⟩, BoxIs.side HR3.out HFn.out.2 hrb, hk3, HL3.out, HS3.out.new HFn.out.2 hrz⟩
  rw [if_neg k42] at hR
  have e42f : (c == 42) = false := by simpa using k42
  rw [e42f] at e42
  clear HStars1
  by_cases k91 : c = 91
  · subst k91
    rw [if_pos rfl] at hR
    have e91t : ((91 : UInt8) == 91) = true := rfl
    rw [e91t] at e91
    clear e123 HWays1 HPt
    obtain ⟨G, hG⟩ : ∃ G, setR (left T (k + 1) e) = G := ⟨_, rfl⟩
    rw [hG] at hR HSet1
    cases G with
    | bad r =>
      have hR : Rd.bad r = R := hR
      subst hR
      go_enter Tryz.func159, Tryz.ntmps159
      go_upto_region 1 with fail
      obtain ⟨rb, hrb0⟩ : ∃ rb, rb = w.heap.size := ⟨_, rfl⟩
      rw [← hrb0]
      rw [← hrb0] at HZ
      have hrb : b ≠ rb := by omega
      have hrz : w.heap.size ≤ rb := by omega
      clear hrb0
      generalize w.alloc _ = w1 at *
      have HR1 : Hid (RdAt w1 b T k e) := Lib.hid (BoxIs.under H.out HB0.out)
      have HS1 : Hid (Side b w w1) := Lib.hid (Side.of HB0.out)
      have x0 := HR1.out.cell (j := 0) rfl
      have x1 := HR1.out.cell (j := 1) rfl
      go_quiet (fail)
      have HR2 : Hid (RdAt (w1.drewN nq) b T k e) := Lib.hid HR1.out
      have HS2 : Hid (Side b w (w1.drewN nq)) := Lib.hid (HS1.out.drew nq)
      have HZ2 : Hid (BoxIs (w1.drewN nq) rb pZero party) := Lib.hid HZ.out
      have HE2 : Hid (Env (w1.drewN nq)) := Lib.hid HE1.out
      clear x0 x1 H HB0 HZ HR1 HS1 HE1
      generalize w1.drewN nq = w2 at *
      have x1 := HR2.out.cell (j := 1) rfl
      have f1 := Lib.frozen_of_heap HR2.out 1
      have HSt := Lib.hid (HSet1.out w2 HR2.out HE2.out)
      go_wp2_with (go_at_call 198; refine HSt.out.mono ?_; rintro E w3 ⟨rfl, hS3⟩)
      exact ⟨rfl, rfl, HS2.out.trans hS3⟩
    | ok gp r =>
      have hR : Rd.ok (some gp) r = R := hR
      subst hR
      go_enter Tryz.func159, Tryz.ntmps159
      go_upto_region 1 with fail
      obtain ⟨rb, hrb0⟩ : ∃ rb, rb = w.heap.size := ⟨_, rfl⟩
      rw [← hrb0]
      rw [← hrb0] at HZ
      have hrb : b ≠ rb := by omega
      have hrz : w.heap.size ≤ rb := by omega
      clear hrb0
      generalize w.alloc _ = w1 at *
      have HR1 : Hid (RdAt w1 b T k e) := Lib.hid (BoxIs.under H.out HB0.out)
      have HS1 : Hid (Side b w w1) := Lib.hid (Side.of HB0.out)
      have x0 := HR1.out.cell (j := 0) rfl
      have x1 := HR1.out.cell (j := 1) rfl
      go_quiet (fail)
      have HR2 : Hid (RdAt (w1.drewN nq) b T k e) := Lib.hid HR1.out
      have HS2 : Hid (Side b w (w1.drewN nq)) := Lib.hid (HS1.out.drew nq)
      have HZ2 : Hid (BoxIs (w1.drewN nq) rb pZero party) := Lib.hid HZ.out
      have HE2 : Hid (Env (w1.drewN nq)) := Lib.hid HE1.out
      clear x0 x1 H HB0 HZ HR1 HS1 HE1
      generalize w1.drewN nq = w2 at *
      have x1 := HR2.out.cell (j := 1) rfl
      have f1 := Lib.frozen_of_heap HR2.out 1
      have HSt := Lib.hid (HSet1.out w2 HR2.out HE2.out)
      go_wp2_with (go_at_call 198; refine HSt.out.mono ?_; rintro E w3 ⟨v3, k3, rfl, ⟨p3, rfl, hm3, hp3⟩, hR3, hk3, hl3, hS3⟩; have HR3 := Lib.hid hR3; have HL3 := Lib.hid hl3; have HS3 := Lib.hid (HS2.out.trans hS3); have HZ3 := Lib.hid (BoxIs.side HZ2.out hS3 (fun e => hrb e.symm)); have HM3 := Lib.hid hm3; have HP3 := Lib.hid hp3; have HQ3 := Lib.hid HS2.out.size; clear hm3 hp3; obtain ⟨pk, pt3, pn, pr, pw⟩ : PartOf (P n) := p3; simp only [partCells, partCellsOf]; clear hR3 hl3 hS3; have d0 := HZ3.out.cell (j := 0) rfl; have d1 := HZ3.out.cell (j := 1) rfl; have d2 := HZ3.out.cell (j := 2) rfl; have d3 := HZ3.out.cell (j := 3) rfl; have d4 := HZ3.out.cell (j := 4) rfl; have g0 := Lib.frozen_of_heap HZ3.out 0; have g1 := Lib.frozen_of_heap HZ3.out 1; have g2 := Lib.frozen_of_heap HZ3.out 2; have g3 := Lib.frozen_of_heap HZ3.out 3; have g4 := Lib.frozen_of_heap HZ3.out 4)
      have HFn := Lib.hid (part_put HZ3.out (.int .i64 pk) (.string pt3) (.bool pn) (.slice pr.a pr.xs.length pr.c) (.slice pw.a pw.xs.length pw.c))
      clear d0 d1 d2 d3 d4 g0 g1 g2 g3 g4
      generalize ((((World.setCell _ _ _).setCell _ _).setCell _ _).setCell _ _).setCell _ _ = wf at *
      have d0 := HFn.out.1.cell (j := 0) rfl
      have d1 := HFn.out.1.cell (j := 1) rfl
      have d2 := HFn.out.1.cell (j := 2) rfl
      have d3 := HFn.out.1.cell (j := 3) rfl
      have d4 := HFn.out.1.cell (j := 4) rfl
      refine bodyPost_ret (v := .tuple #[.agg #[.int .i64 pk, .string pt3, .bool pn, .slice pr.a pr.xs.length pr.c, .slice pw.a pw.xs.length pw.c], .bool true]) ?_ rfl ?_
      · simp [results, Tryz.f159]
        go_simp
      · exact ⟨_, k3, rfl, ⟨_, rfl, (HM3.out.same HFn.out.2.size (fun q hq => HFn.out.2.block q (HM3.out.fp q hq).2 (by have := (HM3.out.fp q hq).1; have := HZ2.out.lt; omega))).mono HQ3.out, HP3.out⟩, BoxIs.side HR3.out HFn.out.2 hrb, hk3, HL3.out, HS3.out.new HFn.out.2 hrz⟩
  rw [if_neg k91] at hR
  have e91f : (c == 91) = false := by simpa using k91
  rw [e91f] at e91
  clear HSet1
  by_cases k123 : c = 123
  · subst k123
    rw [if_pos rfl] at hR
    have e123t : ((123 : UInt8) == 123) = true := rfl
    rw [e123t] at e123
    clear HPt
    obtain ⟨G, hG⟩ : ∃ G, WL [] (left T (k + 1) e) = G := ⟨_, rfl⟩
    rw [hG] at hR HWays1
    cases G with
    | bad r =>
      have hR : Rd.bad r = R := hR
      subst hR
      go_enter Tryz.func159, Tryz.ntmps159
      go_upto_region 1 with fail
      obtain ⟨rb, hrb0⟩ : ∃ rb, rb = w.heap.size := ⟨_, rfl⟩
      rw [← hrb0]
      rw [← hrb0] at HZ
      have hrb : b ≠ rb := by omega
      have hrz : w.heap.size ≤ rb := by omega
      clear hrb0
      generalize w.alloc _ = w1 at *
      have HR1 : Hid (RdAt w1 b T k e) := Lib.hid (BoxIs.under H.out HB0.out)
      have HS1 : Hid (Side b w w1) := Lib.hid (Side.of HB0.out)
      have x0 := HR1.out.cell (j := 0) rfl
      have x1 := HR1.out.cell (j := 1) rfl
      go_quiet (fail)
      have HR2 : Hid (RdAt (w1.drewN nq) b T k e) := Lib.hid HR1.out
      have HS2 : Hid (Side b w (w1.drewN nq)) := Lib.hid (HS1.out.drew nq)
      have HZ2 : Hid (BoxIs (w1.drewN nq) rb pZero party) := Lib.hid HZ.out
      have HE2 : Hid (Env (w1.drewN nq)) := Lib.hid HE1.out
      clear x0 x1 H HB0 HZ HR1 HS1 HE1
      generalize w1.drewN nq = w2 at *
      have x1 := HR2.out.cell (j := 1) rfl
      have f1 := Lib.frozen_of_heap HR2.out 1
      have HSt := Lib.hid (HWays1.out w2 HR2.out HE2.out)
      go_wp2_with (go_at_call 199; refine HSt.out.mono ?_; rintro E w3 ⟨rfl, hS3⟩)
      exact ⟨rfl, rfl, HS2.out.trans hS3⟩
    | ok gp r =>
      have hR : Rd.ok (some (GP.ways gp)) r = R := hR
      subst hR
      go_enter Tryz.func159, Tryz.ntmps159
      go_upto_region 1 with fail
      obtain ⟨rb, hrb0⟩ : ∃ rb, rb = w.heap.size := ⟨_, rfl⟩
      rw [← hrb0]
      rw [← hrb0] at HZ
      have hrb : b ≠ rb := by omega
      have hrz : w.heap.size ≤ rb := by omega
      clear hrb0
      generalize w.alloc _ = w1 at *
      have HR1 : Hid (RdAt w1 b T k e) := Lib.hid (BoxIs.under H.out HB0.out)
      have HS1 : Hid (Side b w w1) := Lib.hid (Side.of HB0.out)
      have x0 := HR1.out.cell (j := 0) rfl
      have x1 := HR1.out.cell (j := 1) rfl
      go_quiet (fail)
      have HR2 : Hid (RdAt (w1.drewN nq) b T k e) := Lib.hid HR1.out
      have HS2 : Hid (Side b w (w1.drewN nq)) := Lib.hid (HS1.out.drew nq)
      have HZ2 : Hid (BoxIs (w1.drewN nq) rb pZero party) := Lib.hid HZ.out
      have HE2 : Hid (Env (w1.drewN nq)) := Lib.hid HE1.out
      clear x0 x1 H HB0 HZ HR1 HS1 HE1
      generalize w1.drewN nq = w2 at *
      have x1 := HR2.out.cell (j := 1) rfl
      have f1 := Lib.frozen_of_heap HR2.out 1
      have HSt := Lib.hid (HWays1.out w2 HR2.out HE2.out)
      go_wp2_with (go_at_call 199; refine HSt.out.mono ?_; rintro E w3 ⟨v3, k3, rfl, ⟨p3, rfl, hm3, hp3⟩, hR3, hk3, hl3, hS3⟩; have HR3 := Lib.hid hR3; have HL3 := Lib.hid hl3; have HS3 := Lib.hid (HS2.out.trans hS3); have HZ3 := Lib.hid (BoxIs.side HZ2.out hS3 (fun e => hrb e.symm)); have HM3 := Lib.hid hm3; have HP3 := Lib.hid hp3; have HQ3 := Lib.hid HS2.out.size; clear hm3 hp3; obtain ⟨pk, pt3, pn, pr, pw⟩ : PartOf (P n) := p3; simp only [partCells, partCellsOf]; clear hR3 hl3 hS3; have d0 := HZ3.out.cell (j := 0) rfl; have d1 := HZ3.out.cell (j := 1) rfl; have d2 := HZ3.out.cell (j := 2) rfl; have d3 := HZ3.out.cell (j := 3) rfl; have d4 := HZ3.out.cell (j := 4) rfl; have g0 := Lib.frozen_of_heap HZ3.out 0; have g1 := Lib.frozen_of_heap HZ3.out 1; have g2 := Lib.frozen_of_heap HZ3.out 2; have g3 := Lib.frozen_of_heap HZ3.out 3; have g4 := Lib.frozen_of_heap HZ3.out 4)
      have HFn := Lib.hid (part_put HZ3.out (.int .i64 pk) (.string pt3) (.bool pn) (.slice pr.a pr.xs.length pr.c) (.slice pw.a pw.xs.length pw.c))
      clear d0 d1 d2 d3 d4 g0 g1 g2 g3 g4
      generalize ((((World.setCell _ _ _).setCell _ _).setCell _ _).setCell _ _).setCell _ _ = wf at *
      have d0 := HFn.out.1.cell (j := 0) rfl
      have d1 := HFn.out.1.cell (j := 1) rfl
      have d2 := HFn.out.1.cell (j := 2) rfl
      have d3 := HFn.out.1.cell (j := 3) rfl
      have d4 := HFn.out.1.cell (j := 4) rfl
      refine bodyPost_ret (v := .tuple #[.agg #[.int .i64 pk, .string pt3, .bool pn, .slice pr.a pr.xs.length pr.c, .slice pw.a pw.xs.length pw.c], .bool true]) ?_ rfl ?_
      · simp [results, Tryz.f159]
        go_simp
      · exact ⟨_, k3, rfl, ⟨_, rfl, (HM3.out.same HFn.out.2.size (fun q hq => HFn.out.2.block q (HM3.out.fp q hq).2 (by have := (HM3.out.fp q hq).1; have := HZ2.out.lt; omega))).mono HQ3.out, HP3.out⟩, BoxIs.side HR3.out HFn.out.2 hrb, hk3, HL3.out, HS3.out.new HFn.out.2 hrz⟩
  rw [if_neg k123] at hR
  have e123f : (c == 123) = false := by simpa using k123
  rw [e123f] at e123
  clear HWays1 HPt
  subst hR
  go_enter Tryz.func159, Tryz.ntmps159
  go_upto_region 1 with fail
  obtain ⟨rb, hrb0⟩ : ∃ rb, rb = w.heap.size := ⟨_, rfl⟩
  rw [← hrb0]
  rw [← hrb0] at HZ
  have hrb : b ≠ rb := by omega
  have hrz : w.heap.size ≤ rb := by omega
  clear hrb0
  generalize w.alloc _ = w1 at *
  have HR1 : Hid (RdAt w1 b T k e) := Lib.hid (BoxIs.under H.out HB0.out)
  have HS1 : Hid (Side b w w1) := Lib.hid (Side.of HB0.out)
  have x0 := HR1.out.cell (j := 0) rfl
  have x1 := HR1.out.cell (j := 1) rfl
  go_quiet (fail)
  have HR2 : Hid (RdAt (w1.drewN nq) b T k e) := Lib.hid HR1.out
  have HS2 : Hid (Side b w (w1.drewN nq)) := Lib.hid (HS1.out.drew nq)
  have HZ2 : Hid (BoxIs (w1.drewN nq) rb pZero party) := Lib.hid HZ.out
  have HE2 : Hid (Env (w1.drewN nq)) := Lib.hid HE1.out
  clear x0 x1 H HB0 HZ HR1 HS1 HE1
  generalize w1.drewN nq = w2 at *
  have x1 := HR2.out.cell (j := 1) rfl
  have f1 := Lib.frozen_of_heap HR2.out 1
  have hZr := HZ2.out
  have d0 := hZr.cell (j := 0) rfl
  have d1 := hZr.cell (j := 1) rfl
  have d2 := hZr.cell (j := 2) rfl
  have d3 := hZr.cell (j := 3) rfl
  have d4 := hZr.cell (j := 4) rfl
  have g0 := Lib.frozen_of_heap hZr 0
  have g1 := Lib.frozen_of_heap hZr 1
  have g2 := Lib.frozen_of_heap hZr 2
  have g3 := Lib.frozen_of_heap hZr 3
  have g4 := Lib.frozen_of_heap hZr 4
  have HFn := Lib.hid (part_put hZr (.int .i64 0) (.string ⟨#[]⟩) (.bool false) (.slice none 0 0) (.slice none 0 0))
  clear hZr
  go_wp2_with fail
  clear d0 d1 d2 d3 d4 g0 g1 g2 g3 g4
  generalize ((((World.setCell _ _ _).setCell _ _).setCell _ _).setCell _ _).setCell _ _ = wf at *
  have d0 := HFn.out.1.cell (j := 0) rfl
  have d1 := HFn.out.1.cell (j := 1) rfl
  have d2 := HFn.out.1.cell (j := 2) rfl
  have d3 := HFn.out.1.cell (j := 3) rfl
  have d4 := HFn.out.1.cell (j := 4) rfl
  refine bodyPost_ret (v := .tuple #[.agg pZero, .bool false]) ?_ rfl ?_
  · simp [results, Tryz.f159]
    go_simp
  · exact ⟨_, k, rfl, rfl, BoxIs.side HR2.out HFn.out.2 hrb, by omega, HL.out, HS2.out.new HFn.out.2 hrz⟩
end Go.Proofs.YtfenmeacimfiaaaGreatDoor
namespace Go.Proofs.YtfenmeacimfiaaaGreatDoor
open Go.RowKit Wh.G

abbrev lty : TypeId := 32
theorem elemLs : ∃ i : TypeInfo, Tryz.prog.underlying 210 = some (.slice lty) ∧ Tryz.prog.info? lty = some i ∧ i.zero = some (.slice none 0 0) ∧ i.size = 1 ∧ i.bytes = 24 := by
  obtain ⟨i0, hi, hz0, hz1, hz2⟩ := info_parts (show (Tryz.prog.info? lty).map (fun i => (i.zero, i.size, i.bytes)) = some (some (.slice none 0 0), 1, 24) by kernel_rfl)
  exact ⟨i0, Tryz.underlying210, hi, hz0, hz1, hz2⟩
theorem elemPt : ∃ i : TypeInfo, Tryz.prog.underlying lty = some (.slice party) ∧ Tryz.prog.info? party = some i ∧ i.zero = some (.agg #[.int .i64 0, .string ByteArray.empty, .bool false, .slice none 0 0, .slice none 0 0]) ∧ i.size = 5 ∧ i.bytes = 80 := by
  obtain ⟨i0, hi, hz0, hz1, hz2⟩ := info_parts (show (Tryz.prog.info? party).map (fun i => (i.zero, i.size, i.bytes)) = some (some (.agg #[.int .i64 0, .string ByteArray.empty, .bool false, .slice none 0 0, .slice none 0 0]), 5, 80) by kernel_rfl)
  exact ⟨i0, Tryz.underlying32, hi, hz0, hz1, hz2⟩
/-- An element more, at an operation of a drawn region. -/
theorem wpo_app {α : Type} {ty sty : TypeId} {n bytes : Nat} {cells : α → List Value} {zero : Value} (hE : ∃ i : TypeInfo, Tryz.prog.underlying sty = some (.slice ty) ∧ Tryz.prog.info? ty = some i ∧ i.zero = some zero ∧ i.size = n ∧ i.bytes = bytes)
    (hn : 0 < n) (hzs : zero.cells.size = n) (hc : ∀ x, (cells x).length = n) (hoc : ∀ x, ∀ v ∈ cells x, v.oneCell' = true) (hby : bytes ≤ 200)
    {o : Oper} {act : Act} {K : Act → World → Prop} {Q : Exit → Act → World → Prop} {te : TypeId} {z B : Nat} {W : World} {a : Option Addr} {cap : Nat} {xs : List α}
    (hz : z ≤ W.heap.size) (hO : OwnG ty n cells z W a cap xs) (hl : xs.length ≤ 2000000) (u : α) (hb : BoxIs W B (cells u).toArray te) (s x : Operand)
    (ho : o.op = .call { callee := .builtin .append, args := #[s, x], argTypes := #[sty, sty] }) (hs : act.eval s = .slice a xs.length cap) (hx : act.eval x = .slice (some ⟨B, 0, none⟩) 1 1)
    (h : ∀ g cap' w', OwnG ty n cells z w' (some ⟨g, 0, none⟩) cap' (xs ++ [u]) → W.grownBy w' (Value.slice a xs.length cap).ownBlock → ((Value.slice a xs.length cap).ownBlock = some g ∨ g = W.heap.size) → g < w'.heap.size → K (act.put o.dst (.slice (some ⟨g, 0, none⟩) (xs.length + 1) cap')) w') :
    o.wp Tryz.prog act W K Q := by
  obtain ⟨i, ht, hi, hz0, hz1, hz2⟩ := hE
  refine wp_append_lies _ s x sty ho z ty i _ n bytes ht hi hz0 hz1 hz2 hzs hn _ xs.length (xs.map cells).flatten hs hO ⟨B, 0, none⟩ 1 1 (cells u) hx (by rw [hc]; omega) (fun j v hj => ?_) (fun v hv => hoc u v hv) (by decide) (by unfold maxLen; omega) ?_ hz _ rfl ?_
  · rw [show (⟨B, 0, none⟩ : Addr).add j = ⟨B, j, none⟩ by unfold Addr.add; split <;> simp_all]
    exact hb.cell (by simpa using hj)
  · have : (xs.length + 1) * bytes ≤ 2000001 * 200 := Nat.mul_le_mul (by omega) hby
    omega
  intro g cap' w' hown hgrow hat hlt
  refine h g cap' w' ?_ hgrow hat hlt
  unfold OwnG
  rw [List.map_append, List.flatten_append, List.length_append]
  simpa using hown

/-- A list of parts that a call has made. -/
structure MadeL (n z : Nat) (W : World) (s : Sl (P n)) : Prop where
  ok : SOk W n s
  cl : ∀ q ∈ s.xs, Clean n q
  fp : ∀ k, FPL n s k → z ≤ k ∧ k < W.heap.size
theorem MadeL.same {n z : Nat} {W W' : World} {s : Sl (P n)} (h : MadeL n z W s) (hz : W.heap.size ≤ W'.heap.size) (hk : ∀ k, FPL n s k → W'.heap[k]? = W.heap[k]?) : MadeL n z W' s :=
  ⟨h.ok.same hz hk, h.cl, fun k hf => ⟨(h.fp k hf).1, Nat.lt_of_lt_of_le (h.fp k hf).2 hz⟩⟩
theorem MadeL.side {n z b : Nat} {W W' : World} {s : Sl (P n)} (h : MadeL n z W s) (hs : Side b W W') (hb : b < z) : MadeL n z W' s :=
  h.same hs.size (fun k hf => hs.block k (h.fp k hf).2 (by have := (h.fp k hf).1; omega))
theorem MadeL.mono {n z z' : Nat} {W : World} {s : Sl (P n)} (h : MadeL n z W s) (hz : z' ≤ z) : MadeL n z' W s := ⟨h.ok, h.cl, fun k hf => ⟨Nat.le_trans hz (h.fp k hf).1, (h.fp k hf).2⟩⟩
def lsCells {n : Nat} (s : Sl (P n)) : List Value := [s.val]
/-- Ways under construction. -/
structure WsAt (n z : Nat) (W : World) (a : Option Addr) (cap : Nat) (ws : List (Sl (P n))) : Prop where
  own : OwnG lty 1 lsCells z W a cap ws
  made : ∀ q ∈ ws, MadeL n z W q
  off : ∀ q ∈ ws, ∀ k, FPL n q k → (Value.slice a ws.length cap).ownBlock ≠ some k
theorem WsAt.nil (n z : Nat) (W : World) : WsAt n z W none 0 [] := ⟨OwnG.nil _ _ _ _ _, fun _ h => (by cases h), fun _ h => (by cases h)⟩
theorem WsAt.side {n z b : Nat} {W W' : World} {a : Option Addr} {cap : Nat} {xs : List (Sl (P n))} (h : WsAt n z W a cap xs) (hs : Side b W W') (hb : b < z) : WsAt n z W' a cap xs :=
  ⟨h.own.side hs hb, fun q hq => (h.made q hq).side hs hb, h.off⟩
theorem WsAt.under {n z : Nat} {W W' : World} {a : Option Addr} {cap : Nat} {xs : List (Sl (P n))} (h : WsAt n z W a cap xs) (hs : Below W.heap.size W W') : WsAt n z W' a cap xs :=
  ⟨h.own.under hs, fun q hq => (h.made q hq).same hs.size (fun k hf => hs.block k ((h.made q hq).fp k hf).2), h.off⟩
theorem WsAt.snoc {n z : Nat} {W w' : World} {a : Option Addr} {cap cap' g : Nat} {xs : List (Sl (P n))} {p : Sl (P n)} (h : WsAt n z W a cap xs) (hp : MadeL n z W p) (hoff : ∀ k, FPL n p k → (Value.slice a xs.length cap).ownBlock ≠ some k)
    (hO : OwnG lty 1 lsCells z w' (some ⟨g, 0, none⟩) cap' (xs ++ [p])) (hg : W.grownBy w' (Value.slice a xs.length cap).ownBlock) (hat : (Value.slice a xs.length cap).ownBlock = some g ∨ g = W.heap.size) : WsAt n z w' (some ⟨g, 0, none⟩) cap' (xs ++ [p]) := by
  have key : ∀ q, MadeL n z W q → (∀ k, FPL n q k → (Value.slice a xs.length cap).ownBlock ≠ some k) → MadeL n z w' q ∧ ∀ k, FPL n q k → g ≠ k := fun q hq ho => by
    refine ⟨hq.same hg.size (fun k hf => hg.block k (hq.fp k hf).2 (fun e => ho k hf e.symm)), fun k hf e => ?_⟩
    subst e
    rcases hat with hat | hat
    · exact ho g hf hat
    · have := (hq.fp g hf).2
      omega
  have all : ∀ q ∈ xs ++ [p], MadeL n z w' q ∧ ∀ k, FPL n q k → g ≠ k := fun q hq => by
    rcases List.mem_append.1 hq with hq | hq
    · exact key q (h.made q hq) (h.off q hq)
    · rw [List.mem_singleton.1 hq]
      exact key p hp hoff
  exact ⟨hO, fun q hq => (all q hq).1, fun q hq k hf e => (all q hq).2 k hf (by injection e)⟩
theorem OwnG.cap {α : Type} {ty : TypeId} {n : Nat} {cells : α → List Value} {z : Nat} {W : World} {a : Option Addr} {cap : Nat} {xs : List α} (h : OwnG ty n cells z W a cap xs) : xs.length ≤ cap ∧ cap ≤ maxLen := by
  rcases h.2 with ⟨hv, h0⟩ | ⟨g, c, cur, hv, _, _, h3, h4, _⟩
  · injection hv with _ e2 e3
    exact ⟨by omega, by rw [e3]; exact Nat.zero_le _⟩
  · injection hv with _ e2 e3
    exact ⟨by omega, by omega⟩
/-- The part that ways make. -/
theorem ways_made {n z : Nat} {W : World} {a : Option Addr} {cap : Nat} {ws : List (Sl (P n))} (h : WsAt n z W a cap ws) : MadeP (n + 1) z W ((⟨6, ⟨#[]⟩, false, ⟨none, 0, []⟩, ⟨a, cap, ws⟩⟩ : PartOf (P n)) : P (n + 1)) := by
  refine ⟨⟨⟨Nat.zero_le _, by show -9223372036854775808 ≤ (6 : Int); decide, by show (6 : Int) ≤ 9223372036854775807; decide⟩, ⟨.inl rfl, Nat.le_refl _, Nat.zero_le _⟩, fun r hr => (by cases hr), ⟨h.own.holds (fun _ => rfl), h.own.cap⟩, fun s hs => (h.made s hs).ok⟩, ?_, ?_⟩
  · exact .inr (.inr (.inr ⟨rfl, rfl, rfl, rfl, fun s hs => (h.made s hs).cl⟩))
  · rintro k (⟨o, t, e⟩ | ⟨o, t, e⟩ | ⟨s, hs, hf⟩)
    · cases e
    · have e : a = some ⟨k, o, t⟩ := e
      have := h.own.base k (by rw [e]; rfl)
      exact ⟨this.1, this.2.1⟩
    · exact (h.made s hs).fp k hf
theorem Env.side {w w' : World} {b k e : Nat} {T : ByteArray} (h : Env w) (hR : RdAt w b T k e) (hs : Side b w w') : Env w' := by
  obtain ⟨m, hm⟩ := h
  refine ⟨m, ?_⟩
  have hlt := cell_lt (p := ⟨1, 0, none⟩) hm
  have hne : 1 ≠ b := fun e => by
    have h2 := hR.cell (j := 0) rfl
    rw [e] at hm
    rw [hm] at h2
    cases h2
  rw [World.cell?_of_block (w := w) (a := ⟨1, 0, none⟩) (hs.block _ hlt hne)]
  exact hm
def ListVal (n z : Nat) (gps : List GP) (v : Value) (w' : World) : Prop := ∃ s : Sl (P n), v = .slice s.a s.xs.length s.c ∧ MadeL n z w' s ∧ gpL n s.xs = gps
/-- What list does. -/
def ListOk (n : Nat) : Prop := ∀ (b : Nat) (T : ByteArray) (k e d : Nat) (w : World), RdAt w b T k e → k ≤ e → e ≤ T.size → T.size ≤ 100000 → d + (e - k) ≤ 1000000 → (left T k e).length < n → Env w →
  Calls Tryz.prog 108 #[.pointer (some ⟨b, 0, none⟩), .int .i64 d] w (RdPost b T e w (PL (decide (0 < d)) [] (left T k e)) (ListVal n w.heap.size))
theorem boxG_two (w : World) (us vs : Array Value) (t : TypeId) : BoxIs ((w.alloc (.cells us t)).alloc (.cells vs t)) w.heap.size us t ∧ BoxIs ((w.alloc (.cells us t)).alloc (.cells vs t)) (w.heap.size + 1) vs t ∧ Below w.heap.size w ((w.alloc (.cells us t)).alloc (.cells vs t)) ∧ ((w.alloc (.cells us t)).alloc (.cells vs t)).heap.size = w.heap.size + 2 := by
  have h2 := BoxIs.new (w.alloc (.cells us t)) vs t
  have hz : (w.alloc (.cells us t)).heap.size = w.heap.size + 1 := by simp
  rw [hz] at h2
  exact ⟨(BoxIs.new w _ _).under (bAlloc (Below.refl _ _) _), h2, bAlloc (bAlloc (Below.refl _ _) _) _, by simp⟩
abbrev pWays (wa : Option Addr) (wl wc : Nat) : Array Value := #[.int .i64 6, .string ⟨#[]⟩, .bool false, .slice none 0 0, .slice wa wl wc]

set_option maxHeartbeats 4000000 in
set_option maxRecDepth 100000 in
theorem gways_any (n : Nat) (HList : ListOk n) : WaysOk n := by
  intro b T k e d w h hk he hs hd hn hE
  have H := Lib.hid h
  have HE := Lib.hid hE
  have hbl := h.lt
  have HB := Lib.hid (boxG_two w pZero (pWays none 0 0) party)
  obtain ⟨Res, hRes⟩ : ∃ Res, WL [] (left T (k + 1) e) = Res := ⟨_, rfl⟩
  rw [hRes]
  have HRes := Lib.hid hRes
  clear hRes
  have HF := Lib.hid (fun n W => gfail_any b n W)
  have HLi := Lib.hid (fun W j (hR : RdAt W b T j e) (h1 : j ≤ e) (h2 : k < j) (hE : Env W) => HList b T j e (d + 1) W hR h1 he hs (by omega) (by rw [left_len he] at hn ⊢; omega) hE)
  clear h HList hE hn
  go_enter Tryz.func199, Tryz.ntmps199
  go_upto_region 2 with fail
  obtain ⟨rb, hrb0⟩ : ∃ rb, rb = w.heap.size := ⟨_, rfl⟩
  obtain ⟨pb, hpb0⟩ : ∃ pb, pb = w.heap.size + 1 := ⟨_, rfl⟩
  rw [← hpb0, ← hrb0]
  rw [← hpb0, ← hrb0] at HB
  have hrb : b ≠ rb := by omega
  have hpb : b ≠ pb := by omega
  have hrp : rb ≠ pb := by omega
  have hrz : w.heap.size ≤ rb := by omega
  have hpz : w.heap.size ≤ pb := by omega
  generalize (w.alloc _).alloc _ = w2 at *
  have hz2 : w2.heap.size = rb + 2 := HB.out.2.2.2
  have hpz2 : pb < w2.heap.size := by omega
  have hbz2 : b < w2.heap.size := by omega
  have hrz2 : rb < w2.heap.size := by omega
  have hwz2 : w.heap.size ≤ w2.heap.size := by omega
  clear hrb0 hpb0 hz2
  have HR2 : Hid (RdAt w2 b T k e) := Lib.hid (BoxIs.side H.out ⟨HB.out.2.2.1.os, HB.out.2.2.1.tape, HB.out.2.2.1.output, HB.out.2.2.1.size, fun k hk _ => HB.out.2.2.1.block k (by omega)⟩ hrb)
  have HS2 : Hid (Side b w w2) := Lib.hid ⟨HB.out.2.2.1.os, HB.out.2.2.1.tape, HB.out.2.2.1.output, HB.out.2.2.1.size, fun k hk _ => HB.out.2.2.1.block k (by omega)⟩
  have HZ2 : Hid (BoxIs w2 rb pZero party) := Lib.hid HB.out.1
  have HP2 : Hid (BoxIs w2 pb (pWays none 0 0) party) := Lib.hid HB.out.2.1
  clear HB
  go_wp2_with fail
  go_loopg [6] (e - k) (fun g s6 wx => ∃ (c : UInt8) (j : Nat) (wa : Option Addr) (wc : Nat) (ws : List (Sl (P n))), j + g = e ∧ s6 = .int .u8 c.toNat ∧ k ≤ j ∧ j < e ∧ ws.length ≤ j - k ∧ Hid (RdAt wx b T j e) ∧ Hid (Side b w wx) ∧ Hid (BoxIs wx rb pZero party) ∧ Hid (BoxIs wx pb (pWays wa ws.length wc) party) ∧ Hid (WsAt n w2.heap.size wx wa wc ws) ∧ Hid (w2.heap.size ≤ wx.heap.size) ∧
    Hid ((c = 44 → WL (ws.map (fun s => gpL n s.xs)) (left T (j + 1) e) = Res) ∧ (c ≠ 44 → Rd.ok (ws.map (fun s => gpL n s.xs)) (left T (j + 1) e) = Res)))
  case atStart => exact ⟨44, k, none, 0, [], by omega, rfl, Nat.le_refl _, hk, Nat.zero_le _, HR2, HS2, HZ2, HP2, Lib.hid (WsAt.nil _ _ _), Lib.hid (Nat.le_refl _), Lib.hid ⟨fun _ => HRes.out, fun h => absurd rfl h⟩⟩
  case round =>
    clear HR2 HS2 HZ2 HP2
    obtain ⟨c, j, wa, wc, ws, hg, rfl, hkj, hje, hwl, HRj, HSj, HZj, HPj, HWj, HNj, HRs⟩ := hrel
    have e44 := u8_eq c 44
    change ((c.toNat : Int) == 44) = _ at e44
    have HR3 : Hid (RdAt (wr.setCell ⟨b, 1, none⟩ (.int .i64 ((j : Int) + 1))) b T (j + 1) e) := Lib.hid (HRj.out.step (j + 1))
    have HSs : Hid (Side b wr (wr.setCell ⟨b, 1, none⟩ (.int .i64 ((j : Int) + 1)))) := Lib.hid ((Side.refl b wr).set 1 _)
    have x1 := HRj.out.cell (j := 1) rfl
    have f1 := Lib.frozen_of_heap HRj.out 1
    cases h44 : (c == 44)
    · have n44 : c ≠ 44 := by simpa using h44
      rw [h44] at e44
      have HRes2 := Lib.hid (HRs.out.2 n44)
      go_upto_region 10 with fail
      have HS3 := Lib.hid (HSj.out.trans HSs.out)
      have HP3 := Lib.hid (BoxIs.side HPj.out HSs.out (fun e => hpb e.symm))
      have HZ3 := Lib.hid (BoxIs.side HZj.out HSs.out (fun e => hrb e.symm))
      have HW3 := Lib.hid (HWj.out.side HSs.out hbz2)
      have HN3 : Hid (w2.heap.size ≤ (wr.setCell ⟨b, 1, none⟩ (.int .i64 ((j : Int) + 1))).heap.size) := Lib.hid (Nat.le_trans HNj.out HSs.out.size)
      clear x1 f1 HSs HRj HSj HZj HPj HWj HNj HRs h44 e44
      generalize wr.setCell _ _ = w3 at *
      have k0 := HP3.out.cell (j := 0) rfl
      have k1 := HP3.out.cell (j := 1) rfl
      have k2 := HP3.out.cell (j := 2) rfl
      have k3 := HP3.out.cell (j := 3) rfl
      have k4 := HP3.out.cell (j := 4) rfl
      have d0 := HZ3.out.cell (j := 0) rfl
      have d1 := HZ3.out.cell (j := 1) rfl
      have d2 := HZ3.out.cell (j := 2) rfl
      have d3 := HZ3.out.cell (j := 3) rfl
      have d4 := HZ3.out.cell (j := 4) rfl
      have g0 := Lib.frozen_of_heap HZ3.out 0
      have g1 := Lib.frozen_of_heap HZ3.out 1
      have g2 := Lib.frozen_of_heap HZ3.out 2
      have g3 := Lib.frozen_of_heap HZ3.out 3
      have g4 := Lib.frozen_of_heap HZ3.out 4
      have HFn := Lib.hid (part_put HZ3.out (.int .i64 6) (.string ⟨#[]⟩) (.bool false) (.slice none 0 0) (.slice wa ws.length wc))
      go_wp2_with fail
      clear d0 d1 d2 d3 d4 g0 g1 g2 g3 g4 k0 k1 k2 k3 k4
      generalize ((((World.setCell _ _ _).setCell _ _).setCell _ _).setCell _ _).setCell _ _ = wf at *
      have d0 := HFn.out.1.cell (j := 0) rfl
      have d1 := HFn.out.1.cell (j := 1) rfl
      have d2 := HFn.out.1.cell (j := 2) rfl
      have d3 := HFn.out.1.cell (j := 3) rfl
      have d4 := HFn.out.1.cell (j := 4) rfl
      refine bodyPost_ret (v := .agg (pWays wa ws.length wc)) ?_ rfl ?_
      · simp [results, Tryz.f199]
        go_simp
      · rw [← HRes2.out]
        exact ⟨_, j + 1, rfl, ⟨_, rfl, (ways_made (HW3.out.side HFn.out.2 hrz2)).mono hwz2, rfl⟩, BoxIs.side HR3.out HFn.out.2 hrb, hje, rfl, HS3.out.new HFn.out.2 hrz⟩
    · have n44 : c = 44 := by simpa using h44
      rw [h44] at e44
      have HRes2 := Lib.hid (HRs.out.1 n44)
      go_upto_region 5 with fail
      have HS3 := Lib.hid (HSj.out.trans HSs.out)
      have HP3 := Lib.hid (BoxIs.side HPj.out HSs.out (fun e => hpb e.symm))
      have HZ3 := Lib.hid (BoxIs.side HZj.out HSs.out (fun e => hrb e.symm))
      have HW3 := Lib.hid (HWj.out.side HSs.out hbz2)
      have HN3 : Hid (w2.heap.size ≤ (wr.setCell ⟨b, 1, none⟩ (.int .i64 ((j : Int) + 1))).heap.size) := Lib.hid (Nat.le_trans HNj.out HSs.out.size)
      clear x1 f1 HSs HRj HSj HZj HPj HWj HNj HRs h44 e44
      generalize wr.setCell _ _ = w3 at *
      have hN3 := HN3.out
      have HE3 : Hid (Env w3) := Lib.hid (HE.out.side H.out HS3.out)
      have HLi3 := Lib.hid (HLi.out w3.drew (j + 1) HR3.out (by omega) (by omega) (HE3.out.under ⟨rfl, rfl, rfl, Nat.le_refl _, fun _ _ => rfl⟩))
      have c4 := HP3.out.cell (j := 4) rfl
      have hwd : IntKind.i64.wrap ((d : Int) + 1) = (d : Int) + 1 := IntWalk.i64_in _ (by omega)
      rw [show decide (0 < d + 1) = true by simp, show (((d + 1 : Nat) : Int)) = (d : Int) + 1 from rfl] at HLi3
      obtain ⟨G, hG⟩ : ∃ G, PL true [] (left T (j + 1) e) = G := ⟨_, rfl⟩
      rw [WL_unf, hG] at HRes2
      rw [hG] at HLi3
      have HGq := Lib.hid hG
      clear hG
      cases G with
      | bad r =>
        have HRes3 : Hid (Rd.bad r = Res) := Lib.hid HRes2.out
        refine wp_region_seqP (fun ch w' => ch = [{ v := .iface 196 (.agg #[.int .i64 (posOf T e r)]), recovered := false }] ∧ Side b w w') (fun W => W.cell? ⟨pb, 4, none⟩ = some (.slice wa ws.length wc)) 9 [(0, true), (1, true), (2, true), (3, true), (4, true), (5, false), (6, false), (7, false), (8, true), (9, false)] (by as_aux_lemma => kernel_rfl) (by as_aux_lemma => kernel_rfl) (by as_aux_lemma => kernel_rfl) (by decide) (by as_aux_lemma => kernel_rfl) (by decide) c4 ?_ ?_
        · rintro ch a' w' hdf ⟨rfl, hS⟩
          refine ⟨hdf, ?_⟩
          rw [← HRes3.out]
          exact ⟨rfl, hS⟩
        intro OPS HO
        refine seqT_take (o := ⟨_, _, _, _, _, _⟩) (v := ?_) (by rw [HO.out]; rfl) (by rfl) ?_ ?_
        rotate_left 1
        · first | ((intro W _; go_simp) <;> with_reducible rfl) | (intro W hW; have s1 := hW; (go_simp <;> with_reducible rfl))
        try simp only [Act.put, List.setIfInBounds_toArray, List.set_cons_zero, List.set_cons_succ]
        refine seqT_take (o := ⟨_, _, _, _, _, _⟩) (v := ?_) (by rw [HO.out]; rfl) (by rfl) ?_ ?_
        rotate_left 1
        · first | ((intro W _; go_simp) <;> with_reducible rfl) | (intro W hW; have s1 := hW; (go_simp <;> with_reducible rfl))
        try simp only [Act.put, List.setIfInBounds_toArray, List.set_cons_zero, List.set_cons_succ]
        refine seqT_take (o := ⟨_, _, _, _, _, _⟩) (v := ?_) (by rw [HO.out]; rfl) (by rfl) ?_ ?_
        rotate_left 1
        · first | ((intro W _; go_simp) <;> with_reducible rfl) | (intro W hW; have s1 := hW; (go_simp <;> with_reducible rfl))
        try simp only [Act.put, List.setIfInBounds_toArray, List.set_cons_zero, List.set_cons_succ]
        refine seqT_take (o := ⟨_, _, _, _, _, _⟩) (v := ?_) (by rw [HO.out]; rfl) (by rfl) ?_ ?_
        rotate_left 1
        · first | ((intro W _; go_simp) <;> with_reducible rfl) | (intro W hW; have s1 := hW; (go_simp <;> with_reducible rfl))
        try simp only [Act.put, List.setIfInBounds_toArray, List.set_cons_zero, List.set_cons_succ]
        refine seqT_take (o := ⟨_, _, _, _, _, _⟩) (v := ?_) (by rw [HO.out]; rfl) (by rfl) ?_ ?_
        rotate_left 1
        · first | ((intro W _; go_simp) <;> with_reducible rfl) | (intro W hW; have s1 := hW; (go_simp <;> with_reducible rfl))
        try simp only [Act.put, List.setIfInBounds_toArray, List.set_cons_zero, List.set_cons_succ]
        refine seqT_do (o := ⟨_, _, _, _, _, _⟩) (by rw [HO.out]; rfl) (by rfl) (fun K hK => ?_)
        go_wp2_with (go_at_call 108; refine HLi3.out.mono ?_; rintro E w5 ⟨rfl, hS5⟩)
        exact ⟨rfl, rfl, HS3.out.trans ⟨hS5.os, hS5.tape, hS5.output, hS5.size, hS5.block⟩⟩
      | ok gps r =>
        have HLen := Lib.hid (PL_len HGq.out)
        refine wp_region_seqP (fun _ _ => False) (fun W => W.cell? ⟨pb, 4, none⟩ = some (.slice wa ws.length wc)) 9 [(0, true), (1, true), (2, true), (3, true), (4, true), (5, false), (6, false), (7, false), (8, true), (9, false)] (by as_aux_lemma => kernel_rfl) (by as_aux_lemma => kernel_rfl) (by as_aux_lemma => kernel_rfl) (by decide) (by as_aux_lemma => kernel_rfl) (by decide) c4 ?_ ?_
        · intro _ _ _ _ h
          exact h.elim
        intro OPS HO
        refine seqT_take (o := ⟨_, _, _, _, _, _⟩) (v := ?_) (by rw [HO.out]; rfl) (by rfl) ?_ ?_
        rotate_left 1
        · first | ((intro W _; go_simp) <;> with_reducible rfl) | (intro W hW; have s1 := hW; (go_simp <;> with_reducible rfl))
        try simp only [Act.put, List.setIfInBounds_toArray, List.set_cons_zero, List.set_cons_succ]
        refine seqT_take (o := ⟨_, _, _, _, _, _⟩) (v := ?_) (by rw [HO.out]; rfl) (by rfl) ?_ ?_
        rotate_left 1
        · first | ((intro W _; go_simp) <;> with_reducible rfl) | (intro W hW; have s1 := hW; (go_simp <;> with_reducible rfl))
        try simp only [Act.put, List.setIfInBounds_toArray, List.set_cons_zero, List.set_cons_succ]
        refine seqT_take (o := ⟨_, _, _, _, _, _⟩) (v := ?_) (by rw [HO.out]; rfl) (by rfl) ?_ ?_
        rotate_left 1
        · first | ((intro W _; go_simp) <;> with_reducible rfl) | (intro W hW; have s1 := hW; (go_simp <;> with_reducible rfl))
        try simp only [Act.put, List.setIfInBounds_toArray, List.set_cons_zero, List.set_cons_succ]
        refine seqT_take (o := ⟨_, _, _, _, _, _⟩) (v := ?_) (by rw [HO.out]; rfl) (by rfl) ?_ ?_
        rotate_left 1
        · first | ((intro W _; go_simp) <;> with_reducible rfl) | (intro W hW; have s1 := hW; (go_simp <;> with_reducible rfl))
        try simp only [Act.put, List.setIfInBounds_toArray, List.set_cons_zero, List.set_cons_succ]
        refine seqT_take (o := ⟨_, _, _, _, _, _⟩) (v := ?_) (by rw [HO.out]; rfl) (by rfl) ?_ ?_
        rotate_left 1
        · first | ((intro W _; go_simp) <;> with_reducible rfl) | (intro W hW; have s1 := hW; (go_simp <;> with_reducible rfl))
        try simp only [Act.put, List.setIfInBounds_toArray, List.set_cons_zero, List.set_cons_succ]
        refine seqT_do (o := ⟨_, _, _, _, _, _⟩) (by rw [HO.out]; rfl) (by rfl) (fun K hK => ?_)
        go_wp2_with (go_at_call 108; refine HLi3.out.mono ?_; rintro E w5 ⟨v5, k5, rfl, ⟨s5, rfl, hm5, hg5⟩, hR5, hk5, hl5, hS5⟩; have HR5 := Lib.hid hR5; have HL5 := Lib.hid hl5; have HM5 := Lib.hid hm5; have HG5 := Lib.hid hg5; have HS5 : Hid (Side b w3 w5) := Lib.hid ⟨hS5.os, hS5.tape, hS5.output, hS5.size, hS5.block⟩; clear hR5 hl5 hm5 hg5 hS5)
        have HP5 := Lib.hid (BoxIs.side HP3.out HS5.out (fun e => hpb e.symm))
        have HZ5 := Lib.hid (BoxIs.side HZ3.out HS5.out (fun e => hrb e.symm))
        have HW5 := Lib.hid (HW3.out.side HS5.out hbz2)
        have hN5 : w2.heap.size ≤ w5.heap.size := Nat.le_trans hN3 HS5.out.size
        have c5 := HP5.out.cell (j := 4) rfl
        have c5a := fun ob => (BoxIs.under HP5.out (bAlloc (Below.refl _ _) ob)).cell (j := 4) rfl
        clear c4
        refine hK.out _ _ (fun _ => c5) ?_
        clear hK K
        try simp only [Act.put, List.setIfInBounds_toArray, List.set_cons_zero, List.set_cons_succ]
        refine seqT_do (o := ⟨_, _, _, _, _, _⟩) (by rw [HO.out]; rfl) (by rfl) (fun K hK => ?_)
        clear c5
        go_wp2_with fail
        refine hK.out _ _ (fun _ => (c5a _)) ?_
        clear hK K
        try simp only [Act.put, List.setIfInBounds_toArray, List.set_cons_zero, List.set_cons_succ]
        refine seqT_do (o := ⟨_, _, _, _, _, _⟩) (by rw [HO.out]; rfl) (by rfl) (fun K hK => ?_)
        have HBa := Lib.hid (bAlloc (Below.refl w5.heap.size w5) (.cells #[.slice s5.a s5.xs.length s5.c] lty))
        have hN5a : w2.heap.size ≤ (w5.alloc (.cells #[.slice s5.a s5.xs.length s5.c] lty)).heap.size := Nat.le_trans hN5 HBa.out.size
        refine wpo_app elemLs (by decide) rfl (fun _ => rfl) (fun x v hv => by simp [lsCells] at hv; rw [hv]; rfl) (by decide) hN5a (HW5.out.own.under HBa.out) (by omega) s5 (BoxIs.new w5 _ _) (.tmp 18) (.tmp 23) rfl rfl rfl ?_
        intro g cap' w' hown' hgr hat hlt'
        have HW7 := Lib.hid ((HW5.out.under HBa.out).snoc (((HM5.out.mono hN3).same HBa.out.size (fun q hq => HBa.out.block q (HM5.out.fp q hq).2))) (fun q hq e => by
          have h1 := (HM5.out.fp q hq).1
          have h2 := (HW3.out.own.base q e).2.1
          have h3 : w3.drew.heap.size = w3.heap.size := rfl
          omega) hown' hgr hat)
        have HG7 : Hid (∀ q, q < w5.heap.size → (Value.slice wa ws.length wc).ownBlock ≠ some q → w'.heap[q]? = w5.heap[q]?) := Lib.hid (fun q h1 h2 => (hgr.block q (Nat.lt_of_lt_of_le h1 HBa.out.size) (fun e => h2 e.symm)).trans (HBa.out.block q h1))
        have hN7 : w5.heap.size ≤ w'.heap.size := Nat.le_trans HBa.out.size hgr.size
        have HO7 : Hid (w'.os = w5.os ∧ w'.tape = w5.tape ∧ w'.output = w5.output) := Lib.hid ⟨hgr.os.trans HBa.out.os, hgr.tape.trans HBa.out.tape, hgr.output.trans HBa.out.output⟩
        have HOff : Hid (∀ q, q < w2.heap.size → (Value.slice wa ws.length wc).ownBlock ≠ some q) := Lib.hid (fun q h1 e => by
          have := (HW5.out.own.base q e).1
          omega)
        have HP7 : Hid (BoxIs w' pb (pWays wa ws.length wc) party) := Lib.hid ((HG7.out pb HP5.out.lt (HOff.out pb hpz2)).trans HP5.out)
        have d1 := HP7.out.cell (j := 4) rfl
        have df := Lib.frozen_of_heap HP7.out 4
        clear hown' hgr hat hlt' c5a HBa hN5a
        refine hK.out _ _ (fun _ => d1) ?_
        clear hK K
        try simp only [Act.put, List.setIfInBounds_toArray, List.set_cons_zero, List.set_cons_succ]
        refine seqT_take (o := ⟨_, _, _, _, _, _⟩) (v := ?_) (by rw [HO.out]; rfl) (by rfl) ?_ ?_
        rotate_left 1
        · first | ((intro W _; go_simp) <;> with_reducible rfl) | (intro W hW; have s1 := hW; (go_simp <;> with_reducible rfl))
        try simp only [Act.put, List.setIfInBounds_toArray, List.set_cons_zero, List.set_cons_succ]
        refine seqT_do (o := ⟨_, _, _, _, _, _⟩) (by rw [HO.out]; rfl) (by rfl) (fun K hK => ?_)
        go_wp2_with fail
        refine hK.out _ _ (fun h => absurd rfl h) ?_
        clear hK K
        try simp only [Act.put, List.setIfInBounds_toArray, List.set_cons_zero, List.set_cons_succ]
        refine seqP_done ?_
        have hw5b : b < w5.heap.size := by omega
        have HSg : Hid (Side b w w') := Lib.hid ⟨HO7.out.1.trans (HS3.out.trans HS5.out).os, HO7.out.2.1.trans (HS3.out.trans HS5.out).tape, HO7.out.2.2.trans (HS3.out.trans HS5.out).output, by have := (HS3.out.trans HS5.out).size; omega, fun q h1 h2 => (HG7.out q (by have := (HS3.out.trans HS5.out).size; omega) (HOff.out q (by omega))).trans ((HS3.out.trans HS5.out).block q h1 h2)⟩
        have HPs : Hid (Side pb w' (w'.setCell ⟨pb, 4, none⟩ (.slice (some ⟨g, 0, none⟩) (ws.length + 1) cap'))) := Lib.hid ((Side.refl pb w').set 4 _)
        have HR8 : Hid (RdAt (w'.setCell ⟨pb, 4, none⟩ (.slice (some ⟨g, 0, none⟩) (ws.length + 1) cap')) b T k5 e) := Lib.hid (BoxIs.side ((HG7.out b hw5b (HOff.out b hbz2)).trans HR5.out) HPs.out hpb)
        have HS8 := Lib.hid (HSg.out.new HPs.out hpz)
        have HZ8 : Hid (BoxIs (w'.setCell ⟨pb, 4, none⟩ (.slice (some ⟨g, 0, none⟩) (ws.length + 1) cap')) rb pZero party) := Lib.hid (BoxIs.side ((HG7.out rb HZ5.out.lt (HOff.out rb hrz2)).trans HZ5.out) HPs.out hrp)
        have HP8 : Hid (BoxIs (w'.setCell ⟨pb, 4, none⟩ (.slice (some ⟨g, 0, none⟩) (ws.length + 1) cap')) pb (pWays (some ⟨g, 0, none⟩) (ws.length + 1) cap') party) := Lib.hid (BoxIs.put HP7.out 4 _)
        have HW8 := Lib.hid (HW7.out.side HPs.out hpz2)
        have hN8 : w2.heap.size ≤ (w'.setCell ⟨pb, 4, none⟩ (.slice (some ⟨g, 0, none⟩) (ws.length + 1) cap')).heap.size := by
          have := HPs.out.size
          omega
        clear d1 df HPs HSg HW7 HP7 HG7 HO7 HOff HZ5 HP5 HR5 HW5 HM5
        generalize w'.setCell _ _ = w8 at *
        have HM8 := Lib.hid (gmore_any b T k5 e w8 HR8.out)
        by_cases hlt5 : k5 < e
        rotate_left 1
        · have hd5 : decide (k5 < e) = false := by simpa using hlt5
          rw [hd5] at HM8
          have HRes3 : Hid (Rd.bad [] = Res) := Lib.hid (by
            have h1 := HRes2.out
            rw [← HL5.out, left_nil (by omega)] at h1
            exact h1)
          have c0 := fun n => (HR8.out.drew n).cell (j := 0) rfl
          go_upto_region 7 with (go_at_call 158; refine HM8.out.mono ?_; rintro E w9 ⟨rfl, n9, rfl⟩)
          have c0' := c0 n9
          clear c0
          go_wp2_with (go_at_call 109; refine (HF.out _ _).mono ?_; rintro E wz ⟨rfl, hwz⟩; subst wz)
          refine ⟨rfl, ?_⟩
          rw [← HRes3.out]
          exact ⟨rfl, HS8.out.drew n9⟩
        · have hd5 : decide (k5 < e) = true := by simpa using hlt5
          rw [hd5] at HM8
          obtain ⟨c5, hc5⟩ : ∃ c5 : UInt8, T[k5]'(by omega) = c5 := ⟨_, rfl⟩
          have HLc := Lib.hid (left_cons hlt5 he c5 hc5)
          have HRes3 : Hid ((c5 = 44 → WL ((ws ++ [s5]).map (fun s => gpL n s.xs)) (left T (k5 + 1) e) = Res) ∧ (c5 ≠ 44 → Rd.ok ((ws ++ [s5]).map (fun s => gpL n s.xs)) (left T (k5 + 1) e) = Res)) := Lib.hid (by
            have h1 := HRes2.out
            rw [← HL5.out, HLc.out] at h1
            have e1 : (ws ++ [s5]).map (fun s => gpL n s.xs) = ws.map (fun s => gpL n s.xs) ++ [gps] := by
              rw [List.map_append, List.map_cons, List.map_nil, HG5.out]
            rw [e1]
            have h1 : (if c5 = 44 then WL (ws.map (fun s => gpL n s.xs) ++ [gps]) (left T (k5 + 1) e) else Rd.ok (ws.map (fun s => gpL n s.xs) ++ [gps]) (left T (k5 + 1) e)) = Res := h1
            refine ⟨fun h => ?_, fun h => ?_⟩
            · rw [if_pos h] at h1
              exact h1
            · rw [if_neg h] at h1
              exact h1)
          have HK5 : Hid (j + 1 ≤ k5) := Lib.hid (by
            have h1 := left_len (k := k5) he
            have h2 := left_len (k := j + 1) he
            have h3 := HLen.out
            rw [← HL5.out] at h3
            omega)
          have hk5j := HK5.out
          have hk50 : (0 : Int) ≤ (k5 : Int) := by omega
          have hk51 : (k5 : Int) < (T.size : Int) := by omega
          go_upto_region 8 with (go_at_call 158; refine HM8.out.mono ?_; rintro E w9 ⟨rfl, n9, rfl⟩)
          have c0 := HR8.out.cell (j := 0) rfl
          have c1 := HR8.out.cell (j := 1) rfl
          go_quiet (fail)
          have HR9 : Hid (RdAt ((w8.drewN n9).drewN nq) b T k5 e) := Lib.hid HR8.out
          have HS9 : Hid (Side b w ((w8.drewN n9).drewN nq)) := Lib.hid ((HS8.out.drew n9).drew nq)
          have HZ9 : Hid (BoxIs ((w8.drewN n9).drewN nq) rb pZero party) := Lib.hid HZ8.out
          have HP9 : Hid (BoxIs ((w8.drewN n9).drewN nq) pb (pWays (some ⟨g, 0, none⟩) (ws ++ [s5]).length cap') party) := Lib.hid (by rw [List.length_append]; exact HP8.out)
          have HW9 : Hid (WsAt n w2.heap.size ((w8.drewN n9).drewN nq) (some ⟨g, 0, none⟩) cap' (ws ++ [s5])) := Lib.hid (HW8.out.under ⟨rfl, rfl, rfl, Nat.le_refl _, fun _ _ => rfl⟩)
          clear c0 c1
          go_wp2_with fail
          go_roundg (e - k5)
          case measure => omega
          case rel => exact ⟨c5, k5, some ⟨g, 0, none⟩, cap', ws ++ [s5], by omega, by go_num, by omega, hlt5, by rw [List.length_append]; simp; omega, HR9, HS9, HZ9, HP9, HW9, Lib.hid hN8, HRes3⟩
end Go.Proofs.YtfenmeacimfiaaaGreatDoor
namespace Go.Proofs.YtfenmeacimfiaaaGreatDoor
open Go.RowKit Wh.G

theorem setR_notext {l q : List UInt8} {p : GP} (h : setR l = .ok p q) : isT p = false := by
  by_cases h1 : l.head? = some 94
  · rw [setR_pos h1] at h
    cases hg : SG [] l.tail with
    | bad s => rw [hg] at h; cases h
    | ok a s =>
      rw [hg] at h
      injection h with h _
      rw [← h]
      rfl
  · rw [setR_neg h1] at h
    cases hg : SG [] l with
    | bad s => rw [hg] at h; cases h
    | ok a s =>
      rw [hg] at h
      injection h with h _
      rw [← h]
      rfl
theorem partR_notext {l q : List UInt8} {gp : GP} (h : partR l = .ok (some gp) q) : isT gp = false := by
  cases l with
  | nil => cases h
  | cons c r =>
    simp only [partR] at h
    split at h
    · injection h with h _
      injection h with h
      rw [← h]
      rfl
    split at h
    · cases hg : goS 0 (c :: r) with
      | bad s => rw [hg] at h; cases h
      | ok a s =>
        rw [hg] at h
        injection h with h _
        injection h with h
        rw [← h]
        split <;> rfl
    split at h
    · cases hg : setR r with
      | bad s => rw [hg] at h; cases h
      | ok a s =>
        rw [hg] at h
        injection h with h _
        injection h with h
        rw [← h]
        exact setR_notext hg
    split at h
    · cases hg : WL [] r with
      | bad s => rw [hg] at h; cases h
      | ok a s =>
        rw [hg] at h
        injection h with h _
        injection h with h
        rw [← h]
        rfl
    · injection h with h _
      cases h
theorem partR_none {l q : List UInt8} (h : partR l = .ok none q) : q = l := by
  cases l with
  | nil => injection h with _ h; exact h.symm
  | cons c r =>
    simp only [partR] at h
    split at h
    · injection h with h _; cases h
    split at h
    · cases hg : goS 0 (c :: r) with
      | bad s => rw [hg] at h; cases h
      | ok a s => rw [hg] at h; injection h with h _; cases h
    split at h
    · cases hg : setR r with
      | bad s => rw [hg] at h; cases h
      | ok a s => rw [hg] at h; injection h with h _; cases h
    split at h
    · cases hg : WL [] r with
      | bad s => rw [hg] at h; cases h
      | ok a s => rw [hg] at h; injection h with h _; cases h
    · injection h with _ h
      exact h.symm
theorem goS_len : ∀ (l : List UInt8) (n : Nat) (k : Int) (q : List UInt8), goS n l = .ok k q → q.length ≤ l.length
  | [], n, k, q, h => by
    simp only [goS] at h
    injection h with _ h
    rw [← h]
    exact Nat.le_refl _
  | c :: r, n, k, q, h => by
    simp only [goS] at h
    split at h
    · split at h
      · cases h
      · have := goS_len r _ _ _ h
        simp
        omega
    · injection h with _ h
      rw [← h]
      exact Nat.le_refl _
theorem partR_len {l q : List UInt8} {gp : GP} (h : partR l = .ok (some gp) q) : q.length < l.length := by
  cases l with
  | nil => cases h
  | cons c r =>
    simp only [partR] at h
    split at h
    · injection h with _ h
      rw [← h]
      simp
    split at h
    · rename_i hc
      subst hc
      rw [goS_zero] at h
      have tl : r.tail.length ≤ r.length := by rw [List.length_tail]; omega
      split at h
      · split at h
        · cases h
        · injection h with _ h
          rw [← h]
          simp
          omega
      · injection h with _ h
        rw [← h]
        simp
    split at h
    · cases hg : setR r with
      | bad s => rw [hg] at h; cases h
      | ok a s =>
        rw [hg] at h
        injection h with _ h
        have := setR_len hg
        rw [← h]
        simp
        omega
    split at h
    · cases hg : WL [] r with
      | bad s => rw [hg] at h; cases h
      | ok a s =>
        rw [hg] at h
        injection h with _ h
        have := WL_len hg
        rw [← h]
        simp
        omega
    · injection h with h _
      cases h
theorem litR_len {l q : List UInt8} {x : UInt8} (h : litR l = .ok x q) : q.length < l.length := by
  unfold litR at h
  cases ht : takeR l with
  | bad r => rw [ht] at h; cases h
  | ok c r =>
    rw [ht] at h
    have h1 := takeR_ok ht
    rw [h1]
    dsimp only at h
    split at h
    · have h2 := takeR_ok h
      rw [h2]
      simp
      omega
    · split at h
      · cases h
      · injection h with _ h
        rw [← h]
        simp
abbrev mkP (n : Nat) (k : Int) (t : ByteArray) (b : Bool) (r : Sl (Int × Int)) (w : Sl (Sl (P n))) : P (n + 1) := (⟨k, t, b, r, w⟩ : PartOf (P n))
theorem simple_fp {n q : Nat} {k : Int} {s : ByteArray} : ¬ FP (n + 1) (simpleP n k s) q := by
  rintro (⟨o, t, h⟩ | ⟨o, t, h⟩ | ⟨q, h, _⟩)
  · cases h
  · cases h
  · cases h
def txtSz (n : Nat) (p : P (n + 1)) : Nat := (pt n p).text.size
theorem clean_notext {n : Nat} {p : P (n + 1)} (h : Clean (n + 1) p) (hg : isT (gpOf (n + 1) p) = false) : txtSz n p = 0 := by
  have h0 : (pt n p).text.data.toList = [] := by
    rcases h with ⟨h, _⟩ | ⟨_, h, _⟩ | ⟨_, h, _⟩ | ⟨_, h, _⟩
    · exfalso
      have : gpOf (n + 1) p = .text (pt n p).text.data.toList := if_pos h
      rw [this] at hg
      cases hg
    · exact h
    · exact h
    · exact h
  unfold txtSz
  rw [Lib.size_eq, h0]
  rfl
theorem gpOf_text {n : Nat} {p : P (n + 1)} (h : (pt n p).kind = 1) : gpOf (n + 1) p = .text (pt n p).text.data.toList := if_pos h
theorem gpOf_notext {n : Nat} {p : P (n + 1)} (h : (pt n p).kind ≠ 1) : isT (gpOf (n + 1) p) = false := by
  have : gpOf (n + 1) p = if (pt n p).kind = 1 then .text (pt n p).text.data.toList else if (pt n p).kind = 2 then .one else if (pt n p).kind = 3 then .star else if (pt n p).kind = 4 then .deep else if (pt n p).kind = 5 then .set (pt n p).neg (pt n p).rg.xs else .ways ((pt n p).ways.xs.map (fun s => s.xs.map (gpOf n))) := rfl
  rw [this, if_neg h]
  split
  · rfl
  split
  · rfl
  split
  · rfl
  split <;> rfl
theorem ls_made {n z : Nat} {W : World} {a : Option Addr} {cap : Nat} {xs : List (P n)} (h : LsAt n z W a cap xs) : MadeL n z W ⟨a, cap, xs⟩ := ⟨h.ok, fun q hq => (h.made q hq).cl, h.fp⟩
/-- The cells of the last part. -/
theorem last_cells {n z : Nat} {W : World} {a : Option Addr} {cap : Nat} {ys : List (P (n + 1))} {p : P (n + 1)} (h : OwnG party 5 (partCells (n + 1)) z W a cap (ys ++ [p])) :
    ∃ g cur, a = some ⟨g, 0, none⟩ ∧ z ≤ g ∧ W.heap[g]? = some (.cells cur party (0, 0)) ∧ W.cell? ⟨g, ys.length * 5, none⟩ = some (.int .i64 (pt n p).kind) ∧ W.cell? ⟨g, ys.length * 5 + 1, none⟩ = some (.string (pt n p).text) := by
  have hh := h.holds (partCells_len (n + 1))
  rcases h.2 with ⟨hv, h0⟩ | ⟨g, c, cur, hv, h1, h2, _⟩
  · simp at h0
  · injection hv with e1 _ _
    subst e1
    obtain ⟨b, off, e, _, hc⟩ := hh.at (k := ys.length) (row := partCells (n + 1) p) (by simp)
    injection e with e
    injection e with e2 e3
    subst e2 e3
    refine ⟨g, cur, rfl, h1, h2, ?_, ?_⟩
    · have := hc 0 _ rfl
      rw [Nat.zero_add, Nat.add_zero] at this
      exact this
    · have := hc 1 _ rfl
      rw [Nat.zero_add] at this
      exact this
theorem boxG_snd (w : World) (o : Obj) (vs : Array Value) (t : TypeId) : BoxIs ((w.alloc o).alloc (.cells vs t)) (w.heap.size + 1) vs t ∧ Below w.heap.size w ((w.alloc o).alloc (.cells vs t)) := by
  have h2 := BoxIs.new (w.alloc o) vs t
  have hz : (w.alloc o).heap.size = w.heap.size + 1 := by simp
  rw [hz] at h2
  exact ⟨h2, bAlloc (bAlloc (Below.refl _ _) _) _⟩
theorem chr_byte (x : UInt8) : chr (x.toNat : Int) = ⟨#[x]⟩ := by
  unfold chr
  simp
/-- Behind an append to a row of the call's own. -/
theorem side_grown {b z : Nat} {w W w' : World} {v : Value} (h : Side b w W) (hg : W.grownBy w' v.ownBlock) (hz : w.heap.size ≤ z) (hv : ∀ k, v.ownBlock = some k → z ≤ k) : Side b w w' :=
  ⟨hg.os.trans h.os, hg.tape.trans h.tape, hg.output.trans h.output, Nat.le_trans h.size hg.size, fun k hk hb => (hg.block k (Nat.lt_of_lt_of_le hk h.size) (fun e => by have := hv k e.symm; omega)).trans (h.block k hk hb)⟩
theorem box_grown {k : Nat} {W w' : World} {v : Value} {vs : Array Value} {t : TypeId} {z : Nat} (h : BoxIs W k vs t) (hg : W.grownBy w' v.ownBlock) (hk : k < z) (hv : ∀ k, v.ownBlock = some k → z ≤ k) : BoxIs w' k vs t :=
  (hg.block k h.lt (fun e => by have := hv k e.symm; omega)).trans h
theorem oneCells (n : Nat) : ∀ (x : P n), ∀ v ∈ partCells n x, v.oneCell' = true := by
  cases n with
  | zero => intro x; exact nomatch x
  | succ n =>
    intro x v hv
    have hv : v ∈ partCellsOf (α := P n) x := hv
    simp only [partCellsOf, List.mem_cons, List.not_mem_nil, or_false] at hv
    rcases hv with rfl | rfl | rfl | rfl | rfl <;> rfl
def withText (n : Nat) (p : P (n + 1)) (t : ByteArray) : P (n + 1) := (⟨(pt n p).kind, t, (pt n p).neg, (pt n p).rg, (pt n p).ways⟩ : PartOf (P n))
theorem LsAt.text {n z : Nat} {W : World} {g cap : Nat} {ys : List (P (n + 1))} {p : P (n + 1)} {t : ByteArray} (h : LsAt (n + 1) z W (some ⟨g, 0, none⟩) cap (ys ++ [p])) (hk : (pt n p).kind = 1) (ht : t.size ≤ 2000000) :
    LsAt (n + 1) z (W.setCell ⟨g, ys.length * 5 + 1, none⟩ (.string t)) (some ⟨g, 0, none⟩) cap (ys ++ [withText n p t]) := by
  have hset : ∀ k, k ≠ g → (W.setCell ⟨g, ys.length * 5 + 1, none⟩ (.string t)).heap[k]? = W.heap[k]? := fun k hk => Below.heap_setCell _ _ _ _ (fun e => hk e)
  have hsz : W.heap.size ≤ (W.setCell ⟨g, ys.length * 5 + 1, none⟩ (.string t)).heap.size := by simp [World.setCell]
  have hcl := (h.made p (by simp)).cl
  have hfields : (pt n p).neg = false ∧ (pt n p).rg.xs = [] ∧ (pt n p).ways.xs = [] := by
    rcases hcl with ⟨_, h⟩ | ⟨h, _⟩ | ⟨h, _⟩ | ⟨h, _⟩
    · exact h
    · exfalso
      have h : (pt n p).kind = 2 ∨ (pt n p).kind = 3 ∨ (pt n p).kind = 4 := h
      omega
    · exfalso
      have h : (pt n p).kind = 5 := h
      omega
    · exfalso
      have h : (pt n p).kind = 6 := h
      omega
  have hkeep : ∀ q ∈ ys ++ [p], MadeP (n + 1) z (W.setCell ⟨g, ys.length * 5 + 1, none⟩ (.string t)) q := fun q hq =>
    (h.made q hq).same hsz (fun k hf => hset k (fun e => h.off q hq k hf (by rw [e]; rfl)))
  have hp' : MadeP (n + 1) z (W.setCell ⟨g, ys.length * 5 + 1, none⟩ (.string t)) (withText n p t) := by
    have h1 := hkeep p (by simp)
    exact ⟨⟨⟨by show t.size ≤ maxLen; unfold maxLen; omega, h1.ok.1.2⟩, h1.ok.2⟩, .inl ⟨hk, hfields⟩, h1.fp⟩
  refine ⟨OwnG.setLast (p := p) (p' := withText n p t) (j := 1) (v := .string t) (partCells_len (n + 1)) (by decide) rfl h.own, fun q hq => ?_, fun q hq k hf => ?_⟩
  · rcases List.mem_append.1 hq with hq | hq
    · exact hkeep q (by simp [hq])
    · rw [List.mem_singleton.1 hq]
      exact hp'
  · rcases List.mem_append.1 hq with hq | hq
    · exact h.off q (by simp [hq]) k hf
    · rw [List.mem_singleton.1 hq] at hf
      exact h.off p (by simp) k hf

set_option maxHeartbeats 4000000 in
set_option maxRecDepth 100000 in
theorem glist_step (HSet : SetOk) (n : Nat) (HWays : WaysOk n) : ListOk (n + 1) := by
  intro b T k e d w h hk he hs hd hn hE
  have H := Lib.hid h
  have HE := Lib.hid hE
  have hbl := h.lt
  obtain ⟨dd, hdd⟩ : ∃ dd, decide (0 < d) = dd := ⟨_, rfl⟩
  rw [hdd]
  have HDD := Lib.hid hdd
  clear hdd
  obtain ⟨Res, hRes⟩ : ∃ Res, PL dd [] (left T k e) = Res := ⟨_, rfl⟩
  rw [hRes]
  have HRes := Lib.hid hRes
  clear hRes
  have HPart := Lib.hid (fun W j (hR : RdAt W b T j e) (h1 : j < e) (h2 : k ≤ j) (hE : Env W) => gpart_any HSet n HWays b T j e d W hR h1 he hs (by omega) (by rw [left_len he] at hn ⊢; omega) hE)
  clear h HSet HWays hE hn
  go_enter Tryz.func108, Tryz.ntmps108
  go_wp2_with fail
  go_loopg [5] (e - k) (fun g s5 wx => ∃ (j : Nat) (a : Option Addr) (cap : Nat) (xs : List (P (n + 1))), j + g = e ∧ s5 = .slice a xs.length cap ∧ k ≤ j ∧ j ≤ e ∧ xs.length ≤ j - k ∧ Hid (RdAt wx b T j e) ∧ Hid (Side b w wx) ∧ Hid (LsAt (n + 1) w.heap.size wx a cap xs) ∧
    Hid (∀ q ∈ xs, txtSz n q ≤ j - k) ∧ Hid (PL dd (gpL (n + 1) xs) (left T j e) = Res))
  case atStart => exact ⟨k, none, 0, [], by omega, rfl, Nat.le_refl _, hk, Nat.zero_le _, H, Lib.hid (Side.refl b w), Lib.hid (LsAt.nil _ _ _), Lib.hid (fun q hq => by cases hq), HRes⟩
  case round =>
    obtain ⟨j, a, cap, xs, hg, rfl, hkj, hje, hxl, HRj, HSj, HLj, HTj, HRs⟩ := hrel
    have HM := Lib.hid (gmore_any b T j e wr HRj.out)
    by_cases hlt : j < e
    rotate_left 1
    · have hd5 : decide (j < e) = false := by simpa using hlt
      rw [hd5] at HM
      have hnil := left_nil (T := T) (k := j) (e := e) (by omega)
      have HRes3 : Hid (Rd.ok (gpL (n + 1) xs) [] = Res) := Lib.hid (by
        have h1 := HRs.out
        rw [hnil, PL_nil] at h1
        exact h1)
      have HNil := Lib.hid hnil
      clear hnil
      go_wp2_with (go_at_call 158; refine HM.out.mono ?_; rintro E w9 ⟨rfl, n9, rfl⟩)
      go_ret
      rw [← HRes3.out]
      exact ⟨_, j, rfl, ⟨⟨a, cap, xs⟩, rfl, ls_made (HLj.out.under ⟨rfl, rfl, rfl, Nat.le_refl _, fun _ _ => rfl⟩), rfl⟩, HRj.out.drew n9, hje, HNil.out, HSj.out.drew n9⟩
    have hd5 : decide (j < e) = true := by simpa using hlt
    rw [hd5] at HM
    obtain ⟨c, hc⟩ : ∃ c : UInt8, T[j]'(by omega) = c := ⟨_, rfl⟩
    have HLc := Lib.hid (left_cons hlt he c hc)
    have hj0 : (0 : Int) ≤ (j : Int) := by omega
    have hj1 : (j : Int) < (T.size : Int) := by omega
    go_upto_region 3 with (go_at_call 158; refine HM.out.mono ?_; rintro E w9 ⟨rfl, n9, rfl⟩)
    have c0 := HRj.out.cell (j := 0) rfl
    have c1 := HRj.out.cell (j := 1) rfl
    go_quiet (fail)
    have HR2 : Hid (RdAt ((wr.drewN n9).drewN nq) b T j e) := Lib.hid HRj.out
    have HS2 : Hid (Side b w ((wr.drewN n9).drewN nq)) := Lib.hid ((HSj.out.drew n9).drew nq)
    have HL2 : Hid (LsAt (n + 1) w.heap.size ((wr.drewN n9).drewN nq) a cap xs) := Lib.hid (HLj.out.under ⟨rfl, rfl, rfl, Nat.le_refl _, fun _ _ => rfl⟩)
    clear c0 c1 HRj HSj HLj HM hd5
    generalize (wr.drewN n9).drewN nq = w2 at *
    have HE2 : Hid (Env w2) := Lib.hid (HE.out.side H.out HS2.out)
    have hz2 := HS2.out.size
    have HRs2 := HRs
    rw [HLc.out, PL_step] at HRs2
    have e44 := u8_eq c 44
    have e125 := u8_eq c 125
    change ((c.toNat : Int) == 44) = _ at e44
    change ((c.toNat : Int) == 125) = _ at e125
    have hcase : (0 < d ∧ c = 44) ∨ (0 < d ∧ c ≠ 44 ∧ c = 125) ∨ (0 < d ∧ c ≠ 44 ∧ c ≠ 125) ∨ d = 0 := by
      rcases Nat.eq_zero_or_pos d with h | h
      · exact .inr (.inr (.inr h))
      · by_cases h1 : c = 44
        · exact .inl ⟨h, h1⟩
        · by_cases h2 : c = 125
          · exact .inr (.inl ⟨h, h1, h2⟩)
          · exact .inr (.inr (.inl ⟨h, h1, h2⟩))
    rcases hcase with ⟨hd0, hc44⟩ | ⟨hd0, hc44, hc125⟩ | ⟨hd0, hc44, hc125⟩ | hd0
    · have t44 : (c == 44) = true := by simpa using hc44
      rw [t44] at e44
      have hdI : (0 : Int) < (d : Int) := by omega
      have hddt : dd = true := by rw [← HDD.out]; simpa using hd0
      rw [if_pos ⟨hddt, .inl hc44⟩] at HRs2
      clear hddt
      go_wp2_with fail
      go_ret
      rw [← HRs2.out]
      exact ⟨_, j, rfl, ⟨⟨a, cap, xs⟩, rfl, ls_made HL2.out, rfl⟩, HR2.out, hje, HLc.out, HS2.out⟩
    · have f44 : (c == 44) = false := by simpa using hc44
      have t125 : (c == 125) = true := by simpa using hc125
      rw [f44] at e44
      rw [t125] at e125
      have hdI : (0 : Int) < (d : Int) := by omega
      have hddt : dd = true := by rw [← HDD.out]; simpa using hd0
      rw [if_pos ⟨hddt, .inr hc125⟩] at HRs2
      clear hddt
      go_wp2_with fail
      go_ret
      rw [← HRs2.out]
      exact ⟨_, j, rfl, ⟨⟨a, cap, xs⟩, rfl, ls_made HL2.out, rfl⟩, HR2.out, hje, HLc.out, HS2.out⟩
    · have f44 : (c == 44) = false := by simpa using hc44
      have f125 : (c == 125) = false := by simpa using hc125
      rw [f44] at e44
      rw [f125] at e125
      have hdI : (0 : Int) < (d : Int) := by omega
      rw [if_neg (fun h => h.2.elim hc44 hc125)] at HRs2
      clear hc44 hc125 f44 f125
      have HP := Lib.hid (HPart.out w2 j HR2.out hlt hkj HE2.out)
      rw [HLc.out] at HP
      obtain ⟨G, hG⟩ : ∃ G, partR (c :: left T (j + 1) e) = G := ⟨_, rfl⟩
      rw [hG] at HRs2 HP
      have HG := Lib.hid hG
      clear hG
      cases G with
      | bad r =>
        have HRes3 : Hid (Rd.bad r = Res) := Lib.hid HRs2.out
        go_wp2_with (go_at_call 159; refine HP.out.mono ?_; rintro E w5 ⟨rfl, hS5⟩)
        refine ⟨rfl, ?_⟩
        rw [← HRes3.out]
        exact ⟨rfl, HS2.out.trans hS5⟩
      | ok o q =>
        cases o with
        | some gp =>
          have HRes3 : Hid (PL dd (gpL (n + 1) xs ++ [gp]) q = Res) := Lib.hid HRs2.out
          go_upto_region 7 with (go_at_call 159; refine HP.out.mono ?_; rintro E w5 ⟨v5, k5, rfl, ⟨p5, rfl, hm5, hg5⟩, hR5, hk5, hl5, hS5⟩; have HR5 := Lib.hid hR5; have HL5 := Lib.hid hl5; have HM5 := Lib.hid (hm5.mono hz2); have HM5f := Lib.hid hm5.fp; have HG5 := Lib.hid hg5; have HS5 := Lib.hid hS5; clear hR5 hl5 hm5 hg5 hS5; obtain ⟨p5', hp5'⟩ : ∃ p5' : PartOf (P n), p5' = p5 := ⟨_, rfl⟩; obtain ⟨pk, pt5, pn, pr, pw⟩ := p5'; subst hp5'; simp only [partCells, partCellsOf])
          have HLs5 := Lib.hid (HL2.out.side HS5.out hbl)
          have HSa5 := Lib.hid (HS2.out.trans HS5.out)
          have HB6 := Lib.hid (bAlloc (Below.refl w5.heap.size w5) (.cells #[.int .i64 pk, .string pt5, .bool pn, .slice pr.a pr.xs.length pr.c, .slice pw.a pw.xs.length pw.c] party))
          have HX6 := Lib.hid (BoxIs.new w5 #[.int .i64 pk, .string pt5, .bool pn, .slice pr.a pr.xs.length pr.c, .slice pw.a pw.xs.length pw.c] party)
          obtain ⟨pb, hpb⟩ : ∃ pb, pb = w5.heap.size := ⟨_, rfl⟩
          rw [← hpb] at HX6
          rw [← hpb]
          clear hpb
          generalize w5.alloc _ = w6 at *
          have m0 := HX6.out.cell (j := 0) rfl
          have m1 := HX6.out.cell (j := 1) rfl
          have m2 := HX6.out.cell (j := 2) rfl
          have m3 := HX6.out.cell (j := 3) rfl
          have m4 := HX6.out.cell (j := 4) rfl
          have HB7 := Lib.hid (bAlloc (Below.refl w6.heap.size w6) (.cells #[.int .i64 pk, .string pt5, .bool pn, .slice pr.a pr.xs.length pr.c, .slice pw.a pw.xs.length pw.c] party))
          have HX7 := Lib.hid (BoxIs.new w6 #[.int .i64 pk, .string pt5, .bool pn, .slice pr.a pr.xs.length pr.c, .slice pw.a pw.xs.length pw.c] party)
          have HLs7 := Lib.hid ((HLs5.out.under HB6.out).under HB7.out)
          have HM7 := Lib.hid ((HM5.out.same HB6.out.size (fun q hq => HB6.out.block q (HM5.out.fp q hq).2)).same HB7.out.size (fun q hq => HB7.out.block q (Nat.lt_of_lt_of_le (HM5.out.fp q hq).2 HB6.out.size)))
          have HR7 := Lib.hid (BoxIs.under (BoxIs.under HR5.out HB6.out) HB7.out)
          have HS7 := Lib.hid ((HSa5.out.trans (Side.of HB6.out)).trans (Side.of HB7.out))
          have hz7 : w.heap.size ≤ (w6.alloc (.cells #[.int .i64 pk, .string pt5, .bool pn, .slice pr.a pr.xs.length pr.c, .slice pw.a pw.xs.length pw.c] party)).heap.size := HS7.out.size
          go_wp2_with (at_builtin; refine wpl_app elemPt (by decide) rfl (partCells_len (n + 1)) (oneCells (n + 1)) (by decide) hz7 HLs7.out.own (by omega) (mkP n pk pt5 pn pr pw) HX7.out rfl (.tmp 40) (.tmp 42) rfl rfl rfl ?_)
          intro g cap' w' hown hgr hat hlt'
          have HL8 := Lib.hid (HLs7.out.snoc HM7.out (fun q hq e => by
            have h1 := (HM5f.out q hq).1
            have h2 := (HL2.out.own.base q e).2.1
            omega) hown hgr (hat.imp id (fun e => by rw [e]; simp)))
          have HR8 : Hid (RdAt w' b T k5 e) := Lib.hid (box_grown HR7.out hgr hbl (fun q hq => (HLs7.out.own.base q hq).1))
          have HS8 : Hid (Side b w w') := Lib.hid (side_grown HS7.out hgr (Nat.le_refl _) (fun q hq => (HLs7.out.own.base q hq).1))
          have HK5 : Hid (j < k5) := Lib.hid (by
            have h1 := partR_len HG.out
            rw [← HL5.out, ← HLc.out, left_len he, left_len he] at h1
            omega)
          have hk5j := HK5.out
          have HT8 : Hid (∀ q ∈ xs ++ [mkP n pk pt5 pn pr pw], txtSz n q ≤ k5 - k) := Lib.hid (fun q hq => by
            rcases List.mem_append.1 hq with hq | hq
            · have := HTj.out q hq
              omega
            · rw [List.mem_singleton.1 hq, clean_notext HM5.out.cl (by rw [HG5.out]; exact partR_notext HG.out)]
              exact Nat.zero_le _)
          have HRs8 : Hid (PL dd (gpL (n + 1) (xs ++ [mkP n pk pt5 pn pr pw])) (left T k5 e) = Res) := Lib.hid (by
            rw [HL5.out]
            unfold gpL
            rw [List.map_append, List.map_cons, List.map_nil, HG5.out]
            exact HRes3.out)
          clear hown hgr hat hlt' m0 m1 m2 m3 m4
          go_wp2_with fail
          go_roundg (e - k5)
          case measure => omega
          case rel => exact ⟨k5, some ⟨g, 0, none⟩, cap', xs ++ [mkP n pk pt5 pn pr pw], by omega, by rw [List.length_append]; rfl, by omega, hk5, by rw [List.length_append]; simp; omega, HR8, HS8, HL8, HT8, HRs8⟩
        | none =>
          have hqq := partR_none HG.out
          have HRes3 : Hid ((litR q).bind (fun x s => PL dd (addT (gpL (n + 1) xs) x) s) = Res) := Lib.hid HRs2.out
          go_upto_region 7 with (go_at_call 159; refine HP.out.mono ?_; rintro E w5 ⟨v5, k5, rfl, rfl, hR5, hk5, hl5, hS5⟩; have HR5 := Lib.hid hR5; have HL5 := Lib.hid hl5; have HS5 := Lib.hid hS5; clear hR5 hl5 hS5)
          have hkj5 : k5 = j := by
            have h1 := congrArg List.length HL5.out
            rw [hqq, ← HLc.out, left_len he, left_len he] at h1
            omega
          subst hkj5
          have HLs5 := Lib.hid (HL2.out.side HS5.out hbl)
          have HSa5 := Lib.hid (HS2.out.trans HS5.out)
          have HB6 := Lib.hid (bAlloc (Below.refl w5.heap.size w5) (.cells pZero party))
          have HR6 := Lib.hid (BoxIs.under HR5.out HB6.out)
          have HLs6 := Lib.hid (HLs5.out.under HB6.out)
          have HS6 := Lib.hid (HSa5.out.trans (Side.of HB6.out))
          obtain ⟨pb, hpb⟩ : ∃ pb, pb = w5.heap.size := ⟨_, rfl⟩
          rw [← hpb]
          clear hpb
          generalize w5.alloc _ = w6 at *
          have HLt := Lib.hid (gliteral_any b T k5 e w6 HR6.out hk5 he (by omega))
          rw [HL5.out] at HLt
          cases hq : litR q with
          | bad r =>
            rw [hq] at HLt HRes3
            have HRes4 : Hid (Rd.bad r = Res) := Lib.hid HRes3.out
            go_wp2_with (go_at_call 160; refine HLt.out.mono ?_; rintro E w7 ⟨rfl, hS7⟩)
            refine ⟨rfl, ?_⟩
            rw [← HRes4.out]
            exact ⟨rfl, HS6.out.trans hS7⟩
          | ok x s =>
            rw [hq] at HLt HRes3
            have HRes4 : Hid (PL dd (addT (gpL (n + 1) xs) x) s = Res) := Lib.hid HRes3.out
            have HQl := Lib.hid (litR_len hq)
            clear hq
            go_upto_region 11 with (go_at_call 160; refine HLt.out.mono ?_; rintro E w7 ⟨v7, k7, rfl, rfl, hR7, hk7, hl7, hS7⟩; have HR7 := Lib.hid hR7; have HL7 := Lib.hid hl7; have HLs7 := Lib.hid (HLs6.out.side hS7 hbl); have HS7 := Lib.hid (HS6.out.trans hS7); clear hR7 hl7 hS7)
            have HK7 : Hid (k5 < k7) := Lib.hid (by
              have h1 := HQl.out
              rw [← HL7.out, ← HL5.out, left_len he, left_len he] at h1
              omega)
            have hk7j := HK7.out
            have hcv := run_chr x.toNat (by omega) (by have := x.toNat_lt; omega) w7
            have HCh := Lib.hid (chr_byte x)
            have HCs : Hid ((chr (x.toNat : Int)).size = 1) := Lib.hid (by rw [chr_byte]; rfl)
            clear hqq HQl HRs2 HRes3 HP HLs6 HS6 HR6 HB6
            rcases List.eq_nil_or_concat xs with rfl | ⟨ys, p, hxs⟩
            · have hn0 : ¬ (0 : Int) < ((([] : List (P (n + 1))).length : Nat) : Int) := by simp
              have HT : Hid (lastT (gpL (n + 1) ([] : List (P (n + 1)))) = false) := Lib.hid rfl
              have HX8 := Lib.hid (boxG_snd w7 (.cells #[.int .u8 x.toNat] 5) #[.int .i64 1, .string (chr x.toNat), .bool false, .slice none 0 0, .slice none 0 0] party)
              have HLs8 := Lib.hid (HLs7.out.under HX8.out.2)
              have HR8 := Lib.hid (BoxIs.under HR7.out HX8.out.2)
              have HS8 := Lib.hid (HS7.out.trans (Side.of HX8.out.2))
              have hz8 : w.heap.size ≤ ((w7.alloc (.cells #[.int .u8 x.toNat] 5)).alloc (.cells #[.int .i64 1, .string (chr x.toNat), .bool false, .slice none 0 0, .slice none 0 0] party)).heap.size := HS8.out.size
              go_wp2_with (at_builtin; refine wpl_app elemPt (by decide) rfl (partCells_len (n + 1)) (oneCells (n + 1)) (by decide) hz8 HLs8.out.own (by omega) (simpleP n 1 (chr x.toNat)) HX8.out.1 rfl (.tmp 71) (.tmp 76) rfl (by first | rfl | (rw [List.length_append]; rfl)) rfl ?_)
              intro g cap' w' hown hgr hat hlt'
              have hown2 : OwnG party 5 (partCells (n + 1)) w.heap.size w' (some ⟨g, 0, none⟩) cap' (([] : List (P (n + 1))) ++ [simpleP n 1 (chr x.toNat)]) := by first | exact hown | (rw [List.append_assoc]; exact hown)
              have HL9 := Lib.hid (HLs8.out.snoc (simple_made n _ _ 1 (chr x.toNat) (.inl ⟨rfl, by have := HCs.out; omega⟩)) (fun q hq => absurd hq simple_fp) hown2 hgr (hat.imp id (fun e => by rw [e]; simp)))
              have HR9 : Hid (RdAt w' b T k7 e) := Lib.hid (box_grown HR8.out hgr hbl (fun q hq => (HLs8.out.own.base q hq).1))
              have HS9 : Hid (Side b w w') := Lib.hid (side_grown HS8.out hgr (Nat.le_refl _) (fun q hq => (HLs8.out.own.base q hq).1))
              have HT9 : Hid (∀ q ∈ ([] : List (P (n + 1))) ++ [simpleP n 1 (chr x.toNat)], txtSz n q ≤ k7 - k) := Lib.hid (fun q hq => by
                rcases List.mem_append.1 hq with hq | hq
                · have := HTj.out q hq
                  omega
                · rw [List.mem_singleton.1 hq]
                  show (chr x.toNat).size ≤ k7 - k
                  rw [HCh.out]
                  show 1 ≤ k7 - k
                  omega)
              have HRs9 : Hid (PL dd (gpL (n + 1) (([] : List (P (n + 1))) ++ [simpleP n 1 (chr x.toNat)])) (left T k7 e) = Res) := Lib.hid (by
                have h1 := HRes4.out
                rw [addT_new x HT.out] at h1
                rw [HL7.out]
                have e1 : gpL (n + 1) (([] : List (P (n + 1))) ++ [simpleP n 1 (chr x.toNat)]) = gpL (n + 1) ([] : List (P (n + 1))) ++ [.text [x]] := by
                  unfold gpL
                  rw [List.map_append, List.map_cons, List.map_nil]
                  congr 2
                  show GP.text (chr x.toNat).data.toList = _
                  rw [HCh.out]
                rw [e1]
                exact h1)
              clear hown hown2 hgr hat hlt' hcv
              go_wp2_with fail
              go_roundg (e - k7)
              case measure => omega
              case rel => exact ⟨k7, some ⟨g, 0, none⟩, cap', ([] : List (P (n + 1))) ++ [simpleP n 1 (chr x.toNat)], by omega, by first | rfl | (rw [List.length_append]; rfl) | (simp), by omega, hk7, by rw [List.length_append]; simp at hxl ⊢; omega, HR9, HS9, HL9, HT9, HRs9⟩
            · rw [List.concat_eq_append] at hxs
              subst hxs
              obtain ⟨g0, cur, rfl, hz0, hheap, ckind, ctext⟩ := last_cells HLs7.out.own
              have hlen : (ys ++ [p]).length = ys.length + 1 := by simp
              have hl1 : (((ys ++ [p]).length : Nat) : Int) - 1 = (ys.length : Int) := by omega
              have hl2 : (0 : Int) < (((ys ++ [p]).length : Nat) : Int) := by omega
              have hl3 : (ys.length : Int) < (((ys ++ [p]).length : Nat) : Int) := by omega
              clear hlen
              have hl4 : (0 : Int) ≤ (ys.length : Int) := by omega
              by_cases hk1 : (pt n p).kind = 1
              rotate_left 1
              · have hk1b : ((pt n p).kind == 1) = false := by simpa using hk1
                have HT : Hid (lastT (gpL (n + 1) (ys ++ [p])) = false) := Lib.hid (by
                  unfold gpL
                  rw [List.map_append, List.map_cons, List.map_nil, lastT_snoc]
                  exact gpOf_notext hk1)
                clear hk1 hheap ctext
                generalize (pt n p).kind = kd at *
                have HX8 := Lib.hid (boxG_snd w7 (.cells #[.int .u8 x.toNat] 5) #[.int .i64 1, .string (chr x.toNat), .bool false, .slice none 0 0, .slice none 0 0] party)
                have HLs8 := Lib.hid (HLs7.out.under HX8.out.2)
                have HR8 := Lib.hid (BoxIs.under HR7.out HX8.out.2)
                have HS8 := Lib.hid (HS7.out.trans (Side.of HX8.out.2))
                have hz8 : w.heap.size ≤ ((w7.alloc (.cells #[.int .u8 x.toNat] 5)).alloc (.cells #[.int .i64 1, .string (chr x.toNat), .bool false, .slice none 0 0, .slice none 0 0] party)).heap.size := HS8.out.size
                go_wp2_with (at_builtin; refine wpl_app elemPt (by decide) rfl (partCells_len (n + 1)) (oneCells (n + 1)) (by decide) hz8 HLs8.out.own (by omega) (simpleP n 1 (chr x.toNat)) HX8.out.1 rfl (.tmp 71) (.tmp 76) rfl (by first | rfl | (rw [List.length_append]; rfl)) rfl ?_)
                intro g cap' w' hown hgr hat hlt'
                have hown2 : OwnG party 5 (partCells (n + 1)) w.heap.size w' (some ⟨g, 0, none⟩) cap' ((ys ++ [p]) ++ [simpleP n 1 (chr x.toNat)]) := by first | exact hown | (rw [List.append_assoc]; exact hown)
                have HL9 := Lib.hid (HLs8.out.snoc (simple_made n _ _ 1 (chr x.toNat) (.inl ⟨rfl, by have := HCs.out; omega⟩)) (fun q hq => absurd hq simple_fp) hown2 hgr (hat.imp id (fun e => by rw [e]; simp)))
                have HR9 : Hid (RdAt w' b T k7 e) := Lib.hid (box_grown HR8.out hgr hbl (fun q hq => (HLs8.out.own.base q hq).1))
                have HS9 : Hid (Side b w w') := Lib.hid (side_grown HS8.out hgr (Nat.le_refl _) (fun q hq => (HLs8.out.own.base q hq).1))
                have HT9 : Hid (∀ q ∈ (ys ++ [p]) ++ [simpleP n 1 (chr x.toNat)], txtSz n q ≤ k7 - k) := Lib.hid (fun q hq => by
                  rcases List.mem_append.1 hq with hq | hq
                  · have := HTj.out q hq
                    omega
                  · rw [List.mem_singleton.1 hq]
                    show (chr x.toNat).size ≤ k7 - k
                    rw [HCh.out]
                    show 1 ≤ k7 - k
                    omega)
                have HRs9 : Hid (PL dd (gpL (n + 1) ((ys ++ [p]) ++ [simpleP n 1 (chr x.toNat)])) (left T k7 e) = Res) := Lib.hid (by
                  have h1 := HRes4.out
                  rw [addT_new x HT.out] at h1
                  rw [HL7.out]
                  have e1 : gpL (n + 1) ((ys ++ [p]) ++ [simpleP n 1 (chr x.toNat)]) = gpL (n + 1) (ys ++ [p]) ++ [.text [x]] := by
                    unfold gpL
                    rw [List.map_append, List.map_cons, List.map_nil]
                    congr 2
                    show GP.text (chr x.toNat).data.toList = _
                    rw [HCh.out]
                  rw [e1]
                  exact h1)
                clear hown hown2 hgr hat hlt' hcv
                go_wp2_with fail
                go_roundg (e - k7)
                case measure => omega
                case rel => exact ⟨k7, some ⟨g, 0, none⟩, cap', (ys ++ [p]) ++ [simpleP n 1 (chr x.toNat)], by omega, by first | rfl | (rw [List.length_append]; rfl) | (simp), by omega, hk7, by rw [List.length_append]; simp at hxl ⊢; omega, HR9, HS9, HL9, HT9, HRs9⟩
              · have hk1b : ((pt n p).kind == 1) = true := by simpa using hk1
                have HTp : Hid ((pt n p).text.size ≤ k5 - k) := Lib.hid (HTj.out p (by simp))
                have htp := HTp.out
                have hcs := HCs.out
                have hadd := fun W => run_add (pt n p).text (chr x.toNat) W (by omega)
                have HNt : Hid ((⟨((pt n p).text.data.toList ++ (chr (x.toNat : Int)).data.toList).toArray⟩ : ByteArray).data.toList = (pt n p).text.data.toList ++ [x]) := Lib.hid (by rw [HCh.out])
                have HNs : Hid ((⟨((pt n p).text.data.toList ++ (chr (x.toNat : Int)).data.toList).toArray⟩ : ByteArray).size ≤ k7 - k) := Lib.hid (by
                  rw [Lib.size_eq, HNt.out, List.length_append, ← Lib.size_eq]
                  simp
                  omega)
                have hwp : IntKind.i64.wrap ((((ys ++ [p]).length : Nat) : Int) - 1) = (ys.length : Int) := by
                  rw [hl1]
                  exact IntWalk.i64_in _ (by omega)
                have hcv2 : (convert 137 9 (.slice (some ⟨w7.heap.size, 0, none⟩) 1 1)).run Tryz.prog ((w7.alloc (.cells #[.int .u8 x.toNat] 5)).drew) = .ok (.string (chr x.toNat)) ((w7.alloc (.cells #[.int .u8 x.toNat] 5)).drew) := run_chr x.toNat (by omega) (by have := x.toNat_lt; omega) w7.drew
                have HB8 : Hid (Below w7.heap.size w7 ((w7.alloc (.cells #[.int .u8 x.toNat] 5)).drew)) := Lib.hid (bDrewN (bAlloc (Below.refl w7.heap.size w7) (.cells #[.int .u8 x.toNat] 5)) 1)
                have hwl : IntKind.i64.wrap (ys.length : Int) = (ys.length : Int) := IntWalk.i64_in _ (by omega)
                have hl5 : (ys.length : Int) < (ys.length : Int) + 1 := by omega
                have hg0 : g0 < w7.heap.size := (Array.getElem?_eq_some_iff.1 hheap).1
                have hh8 : ((w7.alloc (.cells #[.int .u8 x.toNat] 5)).drew).heap[g0]? = some (.cells cur party (0, 0)) := (HB8.out.block g0 hg0).trans hheap
                have df := Lib.frozen_of_heap hh8 (ys.length * 5 + 1)
                have c8 : ((w7.alloc (.cells #[.int .u8 x.toNat] 5)).drew).cell? ⟨g0, ys.length * 5 + 1, none⟩ = some (.string (pt n p).text) := (World.cell?_of_block (w := w7) (HB8.out.block g0 hg0)).trans ctext
                clear hheap hh8 hcv
                go_upto_region 12 with fail
                clear ckind
                refine wp_region_seqU (fun W => W.cell? ⟨g0, ys.length * 5 + 1, none⟩ = some (.string (pt n p).text)) 12 [(0, true), (1, true), (2, true), (3, true), (4, true), (5, true), (6, true), (7, false), (8, false), (9, true), (10, true), (11, true), (12, false)] (by as_aux_lemma => kernel_rfl) (by as_aux_lemma => kernel_rfl) (by as_aux_lemma => kernel_rfl) (by decide) (by as_aux_lemma => kernel_rfl) (by decide) ctext ?_
                intro OPS HO
                refine seqT_take (o := ⟨_, _, _, _, _, _⟩) (v := ?_) (by rw [HO.out]; rfl) (by rfl) ?_ ?_
                rotate_left 1
                · first | ((intro W _; go_simp) <;> with_reducible rfl) | (intro W hW; have s1 := hW; (go_simp <;> with_reducible rfl))
                try simp only [Act.put, List.setIfInBounds_toArray, List.set_cons_zero, List.set_cons_succ]
                refine seqT_take (o := ⟨_, _, _, _, _, _⟩) (v := ?_) (by rw [HO.out]; rfl) (by rfl) ?_ ?_
                rotate_left 1
                · first | ((intro W _; go_simp) <;> with_reducible rfl) | (intro W hW; have s1 := hW; (go_simp <;> with_reducible rfl))
                try simp only [Act.put, List.setIfInBounds_toArray, List.set_cons_zero, List.set_cons_succ]
                refine seqT_take (o := ⟨_, _, _, _, _, _⟩) (v := ?_) (by rw [HO.out]; rfl) (by rfl) ?_ ?_
                rotate_left 1
                · first | ((intro W _; go_simp) <;> with_reducible rfl) | (intro W hW; have s1 := hW; (go_simp <;> with_reducible rfl))
                try simp only [Act.put, List.setIfInBounds_toArray, List.set_cons_zero, List.set_cons_succ]
                refine seqT_take (o := ⟨_, _, _, _, _, _⟩) (v := ?_) (by rw [HO.out]; rfl) (by rfl) ?_ ?_
                rotate_left 1
                · first | ((intro W _; go_simp) <;> with_reducible rfl) | (intro W hW; have s1 := hW; (go_simp <;> with_reducible rfl))
                try simp only [Act.put, List.setIfInBounds_toArray, List.set_cons_zero, List.set_cons_succ]
                refine seqT_take (o := ⟨_, _, _, _, _, _⟩) (v := ?_) (by rw [HO.out]; rfl) (by rfl) ?_ ?_
                rotate_left 1
                · first | ((intro W _; go_simp) <;> with_reducible rfl) | (intro W hW; have s1 := hW; (go_simp <;> with_reducible rfl))
                try simp only [Act.put, List.setIfInBounds_toArray, List.set_cons_zero, List.set_cons_succ]
                refine seqT_take (o := ⟨_, _, _, _, _, _⟩) (v := ?_) (by rw [HO.out]; rfl) (by rfl) ?_ ?_
                rotate_left 1
                · first | ((intro W _; go_simp) <;> with_reducible rfl) | (intro W hW; have s1 := hW; (go_simp <;> with_reducible rfl))
                try simp only [Act.put, List.setIfInBounds_toArray, List.set_cons_zero, List.set_cons_succ]
                refine seqT_take (o := ⟨_, _, _, _, _, _⟩) (v := ?_) (by rw [HO.out]; rfl) (by rfl) ?_ ?_
                rotate_left 1
                · first | ((intro W _; go_simp) <;> with_reducible rfl) | (intro W hW; have s1 := hW; (go_simp <;> with_reducible rfl))
                try simp only [Act.put, List.setIfInBounds_toArray, List.set_cons_zero, List.set_cons_succ]
                refine seqT_do (o := ⟨_, _, _, _, _, _⟩) (by rw [HO.out]; rfl) (by rfl) (fun K hK => ?_)
                go_wp2_with fail
                refine hK.out _ _ (fun _ => c8) ?_
                clear hK K
                try simp only [Act.put, List.setIfInBounds_toArray, List.set_cons_zero, List.set_cons_succ]
                refine seqT_do (o := ⟨_, _, _, _, _, _⟩) (by rw [HO.out]; rfl) (by rfl) (fun K hK => ?_)
                go_wp2_with fail
                refine hK.out _ _ (fun _ => c8) ?_
                clear hK K
                try simp only [Act.put, List.setIfInBounds_toArray, List.set_cons_zero, List.set_cons_succ]
                refine seqT_take (o := ⟨_, _, _, _, _, _⟩) (v := ?_) (by rw [HO.out]; rfl) (by rfl) ?_ ?_
                rotate_left 1
                · first | ((intro W _; go_simp) <;> with_reducible rfl) | (intro W hW; have s1 := hW; (go_simp <;> with_reducible rfl))
                try simp only [Act.put, List.setIfInBounds_toArray, List.set_cons_zero, List.set_cons_succ]
                refine seqT_take (o := ⟨_, _, _, _, _, _⟩) (v := ?_) (by rw [HO.out]; rfl) (by rfl) ?_ ?_
                rotate_left 1
                · first | ((intro W _; go_simp) <;> with_reducible rfl) | (intro W hW; have s1 := hW; (go_simp <;> with_reducible rfl))
                try simp only [Act.put, List.setIfInBounds_toArray, List.set_cons_zero, List.set_cons_succ]
                refine seqT_take (o := ⟨_, _, _, _, _, _⟩) (v := ?_) (by rw [HO.out]; rfl) (by rfl) ?_ ?_
                rotate_left 1
                · first | ((intro W _; go_simp) <;> with_reducible rfl) | (intro W hW; have s1 := hW; (go_simp <;> with_reducible rfl))
                try simp only [Act.put, List.setIfInBounds_toArray, List.set_cons_zero, List.set_cons_succ]
                refine seqT_do (o := ⟨_, _, _, _, _, _⟩) (by rw [HO.out]; rfl) (by rfl) (fun K hK => ?_)
                go_wp2_with fail
                refine hK.out _ _ (fun h => absurd rfl h) ?_
                clear hK K
                try simp only [Act.put, List.setIfInBounds_toArray, List.set_cons_zero, List.set_cons_succ]
                refine seqT_done ?_
                have HL7t := Lib.hid (HLs7.out.text hk1 (t := ⟨((pt n p).text.data.toList ++ (chr (x.toNat : Int)).data.toList).toArray⟩) (by have := HNs.out; omega))
                have HSg : Hid (Side g0 w7 (w7.setCell ⟨g0, ys.length * 5 + 1, none⟩ (.string ⟨((pt n p).text.data.toList ++ (chr (x.toNat : Int)).data.toList).toArray⟩))) := Lib.hid ((Side.refl g0 _).set _ _)
                generalize w7.setCell _ _ = w8 at *
                have HB9 : Hid (Below w8.heap.size w8 (w8.alloc (.cells #[.int .u8 x.toNat] 5)).drew) := Lib.hid (bDrewN (bAlloc (Below.refl w8.heap.size w8) (.cells #[.int .u8 x.toNat] 5)) 1)
                have HR9 : Hid (RdAt (w8.alloc (.cells #[.int .u8 x.toNat] 5)).drew b T k7 e) := Lib.hid (BoxIs.under (BoxIs.side HR7.out HSg.out (by omega)) HB9.out)
                have HS9 := Lib.hid ((HS7.out.new HSg.out hz0).trans (Side.of HB9.out))
                have HL9 := Lib.hid (HL7t.out.under HB9.out)
                have HT9 : Hid (∀ q ∈ ys ++ [withText n p ⟨((pt n p).text.data.toList ++ (chr (x.toNat : Int)).data.toList).toArray⟩], txtSz n q ≤ k7 - k) := Lib.hid (fun q hq => by
                  rcases List.mem_append.1 hq with hq | hq
                  · have := HTj.out q (by simp [hq])
                    omega
                  · rw [List.mem_singleton.1 hq]
                    exact HNs.out)
                have HRs9 : Hid (PL dd (gpL (n + 1) (ys ++ [withText n p ⟨((pt n p).text.data.toList ++ (chr (x.toNat : Int)).data.toList).toArray⟩])) (left T k7 e) = Res) := Lib.hid (by
                  have h1 := HRes4.out
                  have e0 : gpL (n + 1) (ys ++ [p]) = gpL (n + 1) ys ++ [.text (pt n p).text.data.toList] := by
                    unfold gpL
                    rw [List.map_append, List.map_cons, List.map_nil, gpOf_text hk1]
                  rw [e0, addT_more] at h1
                  rw [HL7.out]
                  have e1 : gpL (n + 1) (ys ++ [withText n p ⟨((pt n p).text.data.toList ++ (chr (x.toNat : Int)).data.toList).toArray⟩]) = gpL (n + 1) ys ++ [.text ((pt n p).text.data.toList ++ [x])] := by
                    unfold gpL
                    rw [List.map_append, List.map_cons, List.map_nil]
                    congr 2
                    exact (gpOf_text (p := withText n p ⟨((pt n p).text.data.toList ++ (chr (x.toNat : Int)).data.toList).toArray⟩) hk1).trans (congrArg GP.text HNt.out)
                  rw [e1]
                  exact h1)
                clear df c8 ctext hcv2 hadd hwp HSg
                generalize (w8.alloc _).drew = w9 at *
                go_wp2_with fail
                go_roundg (e - k7)
                case measure => omega
                case rel => exact ⟨k7, some ⟨g0, 0, none⟩, cap, ys ++ [withText n p ⟨((pt n p).text.data.toList ++ (chr (x.toNat : Int)).data.toList).toArray⟩], by omega, by first | rfl | (rw [List.length_append]; rfl) | (simp), by omega, hk7, by rw [List.length_append] at hxl ⊢; simp at hxl ⊢; omega, HR9, HS9, HL9, HT9, HRs9⟩
    · subst hd0
      have hddf : dd = false := by rw [← HDD.out]; rfl
      have HRs2' : Hid (Rd.bind (partR (c :: left T (j + 1) e)) (stepK dd (gpL (n + 1) xs)) = Res) := Lib.hid (by
        have h1 := HRs2.out
        rw [if_neg (fun h => by rw [hddf] at h; cases h.1)] at h1
        exact h1)
      clear HRs2 hddf e44 e125
      have HRs2 := HRs2'
      clear HRs2'
      have HP := Lib.hid (HPart.out w2 j HR2.out hlt hkj HE2.out)
      rw [HLc.out] at HP
      obtain ⟨G, hG⟩ : ∃ G, partR (c :: left T (j + 1) e) = G := ⟨_, rfl⟩
      rw [hG] at HRs2 HP
      have HG := Lib.hid hG
      clear hG
      cases G with
      | bad r =>
        have HRes3 : Hid (Rd.bad r = Res) := Lib.hid HRs2.out
        go_wp2_with (go_at_call 159; refine HP.out.mono ?_; rintro E w5 ⟨rfl, hS5⟩)
        refine ⟨rfl, ?_⟩
        rw [← HRes3.out]
        exact ⟨rfl, HS2.out.trans hS5⟩
      | ok o q =>
        cases o with
        | some gp =>
          have HRes3 : Hid (PL dd (gpL (n + 1) xs ++ [gp]) q = Res) := Lib.hid HRs2.out
          go_upto_region 7 with (go_at_call 159; refine HP.out.mono ?_; rintro E w5 ⟨v5, k5, rfl, ⟨p5, rfl, hm5, hg5⟩, hR5, hk5, hl5, hS5⟩; have HR5 := Lib.hid hR5; have HL5 := Lib.hid hl5; have HM5 := Lib.hid (hm5.mono hz2); have HM5f := Lib.hid hm5.fp; have HG5 := Lib.hid hg5; have HS5 := Lib.hid hS5; clear hR5 hl5 hm5 hg5 hS5; obtain ⟨p5', hp5'⟩ : ∃ p5' : PartOf (P n), p5' = p5 := ⟨_, rfl⟩; obtain ⟨pk, pt5, pn, pr, pw⟩ := p5'; subst hp5'; simp only [partCells, partCellsOf])
          have HLs5 := Lib.hid (HL2.out.side HS5.out hbl)
          have HSa5 := Lib.hid (HS2.out.trans HS5.out)
          have HB6 := Lib.hid (bAlloc (Below.refl w5.heap.size w5) (.cells #[.int .i64 pk, .string pt5, .bool pn, .slice pr.a pr.xs.length pr.c, .slice pw.a pw.xs.length pw.c] party))
          have HX6 := Lib.hid (BoxIs.new w5 #[.int .i64 pk, .string pt5, .bool pn, .slice pr.a pr.xs.length pr.c, .slice pw.a pw.xs.length pw.c] party)
          obtain ⟨pb, hpb⟩ : ∃ pb, pb = w5.heap.size := ⟨_, rfl⟩
          rw [← hpb] at HX6
          rw [← hpb]
          clear hpb
          generalize w5.alloc _ = w6 at *
          have m0 := HX6.out.cell (j := 0) rfl
          have m1 := HX6.out.cell (j := 1) rfl
          have m2 := HX6.out.cell (j := 2) rfl
          have m3 := HX6.out.cell (j := 3) rfl
          have m4 := HX6.out.cell (j := 4) rfl
          have HB7 := Lib.hid (bAlloc (Below.refl w6.heap.size w6) (.cells #[.int .i64 pk, .string pt5, .bool pn, .slice pr.a pr.xs.length pr.c, .slice pw.a pw.xs.length pw.c] party))
          have HX7 := Lib.hid (BoxIs.new w6 #[.int .i64 pk, .string pt5, .bool pn, .slice pr.a pr.xs.length pr.c, .slice pw.a pw.xs.length pw.c] party)
          have HLs7 := Lib.hid ((HLs5.out.under HB6.out).under HB7.out)
          have HM7 := Lib.hid ((HM5.out.same HB6.out.size (fun q hq => HB6.out.block q (HM5.out.fp q hq).2)).same HB7.out.size (fun q hq => HB7.out.block q (Nat.lt_of_lt_of_le (HM5.out.fp q hq).2 HB6.out.size)))
          have HR7 := Lib.hid (BoxIs.under (BoxIs.under HR5.out HB6.out) HB7.out)
          have HS7 := Lib.hid ((HSa5.out.trans (Side.of HB6.out)).trans (Side.of HB7.out))
          have hz7 : w.heap.size ≤ (w6.alloc (.cells #[.int .i64 pk, .string pt5, .bool pn, .slice pr.a pr.xs.length pr.c, .slice pw.a pw.xs.length pw.c] party)).heap.size := HS7.out.size
          go_wp2_with (at_builtin; refine wpl_app elemPt (by decide) rfl (partCells_len (n + 1)) (oneCells (n + 1)) (by decide) hz7 HLs7.out.own (by omega) (mkP n pk pt5 pn pr pw) HX7.out rfl (.tmp 40) (.tmp 42) rfl rfl rfl ?_)
          intro g cap' w' hown hgr hat hlt'
          have HL8 := Lib.hid (HLs7.out.snoc HM7.out (fun q hq e => by
            have h1 := (HM5f.out q hq).1
            have h2 := (HL2.out.own.base q e).2.1
            omega) hown hgr (hat.imp id (fun e => by rw [e]; simp)))
          have HR8 : Hid (RdAt w' b T k5 e) := Lib.hid (box_grown HR7.out hgr hbl (fun q hq => (HLs7.out.own.base q hq).1))
          have HS8 : Hid (Side b w w') := Lib.hid (side_grown HS7.out hgr (Nat.le_refl _) (fun q hq => (HLs7.out.own.base q hq).1))
          have HK5 : Hid (j < k5) := Lib.hid (by
            have h1 := partR_len HG.out
            rw [← HL5.out, ← HLc.out, left_len he, left_len he] at h1
            omega)
          have hk5j := HK5.out
          have HT8 : Hid (∀ q ∈ xs ++ [mkP n pk pt5 pn pr pw], txtSz n q ≤ k5 - k) := Lib.hid (fun q hq => by
            rcases List.mem_append.1 hq with hq | hq
            · have := HTj.out q hq
              omega
            · rw [List.mem_singleton.1 hq, clean_notext HM5.out.cl (by rw [HG5.out]; exact partR_notext HG.out)]
              exact Nat.zero_le _)
          have HRs8 : Hid (PL dd (gpL (n + 1) (xs ++ [mkP n pk pt5 pn pr pw])) (left T k5 e) = Res) := Lib.hid (by
            rw [HL5.out]
            unfold gpL
            rw [List.map_append, List.map_cons, List.map_nil, HG5.out]
            exact HRes3.out)
          clear hown hgr hat hlt' m0 m1 m2 m3 m4
          go_wp2_with fail
          go_roundg (e - k5)
          case measure => omega
          case rel => exact ⟨k5, some ⟨g, 0, none⟩, cap', xs ++ [mkP n pk pt5 pn pr pw], by omega, by rw [List.length_append]; rfl, by omega, hk5, by rw [List.length_append]; simp; omega, HR8, HS8, HL8, HT8, HRs8⟩
        | none =>
          have hqq := partR_none HG.out
          have HRes3 : Hid ((litR q).bind (fun x s => PL dd (addT (gpL (n + 1) xs) x) s) = Res) := Lib.hid HRs2.out
          go_upto_region 7 with (go_at_call 159; refine HP.out.mono ?_; rintro E w5 ⟨v5, k5, rfl, rfl, hR5, hk5, hl5, hS5⟩; have HR5 := Lib.hid hR5; have HL5 := Lib.hid hl5; have HS5 := Lib.hid hS5; clear hR5 hl5 hS5)
          have hkj5 : k5 = j := by
            have h1 := congrArg List.length HL5.out
            rw [hqq, ← HLc.out, left_len he, left_len he] at h1
            omega
          subst hkj5
          have HLs5 := Lib.hid (HL2.out.side HS5.out hbl)
          have HSa5 := Lib.hid (HS2.out.trans HS5.out)
          have HB6 := Lib.hid (bAlloc (Below.refl w5.heap.size w5) (.cells pZero party))
          have HR6 := Lib.hid (BoxIs.under HR5.out HB6.out)
          have HLs6 := Lib.hid (HLs5.out.under HB6.out)
          have HS6 := Lib.hid (HSa5.out.trans (Side.of HB6.out))
          obtain ⟨pb, hpb⟩ : ∃ pb, pb = w5.heap.size := ⟨_, rfl⟩
          rw [← hpb]
          clear hpb
          generalize w5.alloc _ = w6 at *
          have HLt := Lib.hid (gliteral_any b T k5 e w6 HR6.out hk5 he (by omega))
          rw [HL5.out] at HLt
          cases hq : litR q with
          | bad r =>
            rw [hq] at HLt HRes3
            have HRes4 : Hid (Rd.bad r = Res) := Lib.hid HRes3.out
            go_wp2_with (go_at_call 160; refine HLt.out.mono ?_; rintro E w7 ⟨rfl, hS7⟩)
            refine ⟨rfl, ?_⟩
            rw [← HRes4.out]
            exact ⟨rfl, HS6.out.trans hS7⟩
          | ok x s =>
            rw [hq] at HLt HRes3
            have HRes4 : Hid (PL dd (addT (gpL (n + 1) xs) x) s = Res) := Lib.hid HRes3.out
            have HQl := Lib.hid (litR_len hq)
            clear hq
            go_upto_region 11 with (go_at_call 160; refine HLt.out.mono ?_; rintro E w7 ⟨v7, k7, rfl, rfl, hR7, hk7, hl7, hS7⟩; have HR7 := Lib.hid hR7; have HL7 := Lib.hid hl7; have HLs7 := Lib.hid (HLs6.out.side hS7 hbl); have HS7 := Lib.hid (HS6.out.trans hS7); clear hR7 hl7 hS7)
            have HK7 : Hid (k5 < k7) := Lib.hid (by
              have h1 := HQl.out
              rw [← HL7.out, ← HL5.out, left_len he, left_len he] at h1
              omega)
            have hk7j := HK7.out
            have hcv := run_chr x.toNat (by omega) (by have := x.toNat_lt; omega) w7
            have HCh := Lib.hid (chr_byte x)
            have HCs : Hid ((chr (x.toNat : Int)).size = 1) := Lib.hid (by rw [chr_byte]; rfl)
            clear hqq HQl HRs2 HRes3 HP HLs6 HS6 HR6 HB6
            rcases List.eq_nil_or_concat xs with rfl | ⟨ys, p, hxs⟩
            · have hn0 : ¬ (0 : Int) < ((([] : List (P (n + 1))).length : Nat) : Int) := by simp
              have HT : Hid (lastT (gpL (n + 1) ([] : List (P (n + 1)))) = false) := Lib.hid rfl
              have HX8 := Lib.hid (boxG_snd w7 (.cells #[.int .u8 x.toNat] 5) #[.int .i64 1, .string (chr x.toNat), .bool false, .slice none 0 0, .slice none 0 0] party)
              have HLs8 := Lib.hid (HLs7.out.under HX8.out.2)
              have HR8 := Lib.hid (BoxIs.under HR7.out HX8.out.2)
              have HS8 := Lib.hid (HS7.out.trans (Side.of HX8.out.2))
              have hz8 : w.heap.size ≤ ((w7.alloc (.cells #[.int .u8 x.toNat] 5)).alloc (.cells #[.int .i64 1, .string (chr x.toNat), .bool false, .slice none 0 0, .slice none 0 0] party)).heap.size := HS8.out.size
              go_wp2_with (at_builtin; refine wpl_app elemPt (by decide) rfl (partCells_len (n + 1)) (oneCells (n + 1)) (by decide) hz8 HLs8.out.own (by omega) (simpleP n 1 (chr x.toNat)) HX8.out.1 rfl (.tmp 71) (.tmp 76) rfl (by first | rfl | (rw [List.length_append]; rfl)) rfl ?_)
              intro g cap' w' hown hgr hat hlt'
              have hown2 : OwnG party 5 (partCells (n + 1)) w.heap.size w' (some ⟨g, 0, none⟩) cap' (([] : List (P (n + 1))) ++ [simpleP n 1 (chr x.toNat)]) := by first | exact hown | (rw [List.append_assoc]; exact hown)
              have HL9 := Lib.hid (HLs8.out.snoc (simple_made n _ _ 1 (chr x.toNat) (.inl ⟨rfl, by have := HCs.out; omega⟩)) (fun q hq => absurd hq simple_fp) hown2 hgr (hat.imp id (fun e => by rw [e]; simp)))
              have HR9 : Hid (RdAt w' b T k7 e) := Lib.hid (box_grown HR8.out hgr hbl (fun q hq => (HLs8.out.own.base q hq).1))
              have HS9 : Hid (Side b w w') := Lib.hid (side_grown HS8.out hgr (Nat.le_refl _) (fun q hq => (HLs8.out.own.base q hq).1))
              have HT9 : Hid (∀ q ∈ ([] : List (P (n + 1))) ++ [simpleP n 1 (chr x.toNat)], txtSz n q ≤ k7 - k) := Lib.hid (fun q hq => by
                rcases List.mem_append.1 hq with hq | hq
                · have := HTj.out q hq
                  omega
                · rw [List.mem_singleton.1 hq]
                  show (chr x.toNat).size ≤ k7 - k
                  rw [HCh.out]
                  show 1 ≤ k7 - k
                  omega)
              have HRs9 : Hid (PL dd (gpL (n + 1) (([] : List (P (n + 1))) ++ [simpleP n 1 (chr x.toNat)])) (left T k7 e) = Res) := Lib.hid (by
                have h1 := HRes4.out
                rw [addT_new x HT.out] at h1
                rw [HL7.out]
                have e1 : gpL (n + 1) (([] : List (P (n + 1))) ++ [simpleP n 1 (chr x.toNat)]) = gpL (n + 1) ([] : List (P (n + 1))) ++ [.text [x]] := by
                  unfold gpL
                  rw [List.map_append, List.map_cons, List.map_nil]
                  congr 2
                  show GP.text (chr x.toNat).data.toList = _
                  rw [HCh.out]
                rw [e1]
                exact h1)
              clear hown hown2 hgr hat hlt' hcv
              go_wp2_with fail
              go_roundg (e - k7)
              case measure => omega
              case rel => exact ⟨k7, some ⟨g, 0, none⟩, cap', ([] : List (P (n + 1))) ++ [simpleP n 1 (chr x.toNat)], by omega, by first | rfl | (rw [List.length_append]; rfl) | (simp), by omega, hk7, by rw [List.length_append]; simp at hxl ⊢; omega, HR9, HS9, HL9, HT9, HRs9⟩
            · rw [List.concat_eq_append] at hxs
              subst hxs
              obtain ⟨g0, cur, rfl, hz0, hheap, ckind, ctext⟩ := last_cells HLs7.out.own
              have hlen : (ys ++ [p]).length = ys.length + 1 := by simp
              have hl1 : (((ys ++ [p]).length : Nat) : Int) - 1 = (ys.length : Int) := by omega
              have hl2 : (0 : Int) < (((ys ++ [p]).length : Nat) : Int) := by omega
              have hl3 : (ys.length : Int) < (((ys ++ [p]).length : Nat) : Int) := by omega
              clear hlen
              have hl4 : (0 : Int) ≤ (ys.length : Int) := by omega
              by_cases hk1 : (pt n p).kind = 1
              rotate_left 1
              · have hk1b : ((pt n p).kind == 1) = false := by simpa using hk1
                have HT : Hid (lastT (gpL (n + 1) (ys ++ [p])) = false) := Lib.hid (by
                  unfold gpL
                  rw [List.map_append, List.map_cons, List.map_nil, lastT_snoc]
                  exact gpOf_notext hk1)
                clear hk1 hheap ctext
                generalize (pt n p).kind = kd at *
                have HX8 := Lib.hid (boxG_snd w7 (.cells #[.int .u8 x.toNat] 5) #[.int .i64 1, .string (chr x.toNat), .bool false, .slice none 0 0, .slice none 0 0] party)
                have HLs8 := Lib.hid (HLs7.out.under HX8.out.2)
                have HR8 := Lib.hid (BoxIs.under HR7.out HX8.out.2)
                have HS8 := Lib.hid (HS7.out.trans (Side.of HX8.out.2))
                have hz8 : w.heap.size ≤ ((w7.alloc (.cells #[.int .u8 x.toNat] 5)).alloc (.cells #[.int .i64 1, .string (chr x.toNat), .bool false, .slice none 0 0, .slice none 0 0] party)).heap.size := HS8.out.size
                go_wp2_with (at_builtin; refine wpl_app elemPt (by decide) rfl (partCells_len (n + 1)) (oneCells (n + 1)) (by decide) hz8 HLs8.out.own (by omega) (simpleP n 1 (chr x.toNat)) HX8.out.1 rfl (.tmp 71) (.tmp 76) rfl (by first | rfl | (rw [List.length_append]; rfl)) rfl ?_)
                intro g cap' w' hown hgr hat hlt'
                have hown2 : OwnG party 5 (partCells (n + 1)) w.heap.size w' (some ⟨g, 0, none⟩) cap' ((ys ++ [p]) ++ [simpleP n 1 (chr x.toNat)]) := by first | exact hown | (rw [List.append_assoc]; exact hown)
                have HL9 := Lib.hid (HLs8.out.snoc (simple_made n _ _ 1 (chr x.toNat) (.inl ⟨rfl, by have := HCs.out; omega⟩)) (fun q hq => absurd hq simple_fp) hown2 hgr (hat.imp id (fun e => by rw [e]; simp)))
                have HR9 : Hid (RdAt w' b T k7 e) := Lib.hid (box_grown HR8.out hgr hbl (fun q hq => (HLs8.out.own.base q hq).1))
                have HS9 : Hid (Side b w w') := Lib.hid (side_grown HS8.out hgr (Nat.le_refl _) (fun q hq => (HLs8.out.own.base q hq).1))
                have HT9 : Hid (∀ q ∈ (ys ++ [p]) ++ [simpleP n 1 (chr x.toNat)], txtSz n q ≤ k7 - k) := Lib.hid (fun q hq => by
                  rcases List.mem_append.1 hq with hq | hq
                  · have := HTj.out q hq
                    omega
                  · rw [List.mem_singleton.1 hq]
                    show (chr x.toNat).size ≤ k7 - k
                    rw [HCh.out]
                    show 1 ≤ k7 - k
                    omega)
                have HRs9 : Hid (PL dd (gpL (n + 1) ((ys ++ [p]) ++ [simpleP n 1 (chr x.toNat)])) (left T k7 e) = Res) := Lib.hid (by
                  have h1 := HRes4.out
                  rw [addT_new x HT.out] at h1
                  rw [HL7.out]
                  have e1 : gpL (n + 1) ((ys ++ [p]) ++ [simpleP n 1 (chr x.toNat)]) = gpL (n + 1) (ys ++ [p]) ++ [.text [x]] := by
                    unfold gpL
                    rw [List.map_append, List.map_cons, List.map_nil]
                    congr 2
                    show GP.text (chr x.toNat).data.toList = _
                    rw [HCh.out]
                  rw [e1]
                  exact h1)
                clear hown hown2 hgr hat hlt' hcv
                go_wp2_with fail
                go_roundg (e - k7)
                case measure => omega
                case rel => exact ⟨k7, some ⟨g, 0, none⟩, cap', (ys ++ [p]) ++ [simpleP n 1 (chr x.toNat)], by omega, by first | rfl | (rw [List.length_append]; rfl) | (simp), by omega, hk7, by rw [List.length_append]; simp at hxl ⊢; omega, HR9, HS9, HL9, HT9, HRs9⟩
              · have hk1b : ((pt n p).kind == 1) = true := by simpa using hk1
                have HTp : Hid ((pt n p).text.size ≤ k5 - k) := Lib.hid (HTj.out p (by simp))
                have htp := HTp.out
                have hcs := HCs.out
                have hadd := fun W => run_add (pt n p).text (chr x.toNat) W (by omega)
                have HNt : Hid ((⟨((pt n p).text.data.toList ++ (chr (x.toNat : Int)).data.toList).toArray⟩ : ByteArray).data.toList = (pt n p).text.data.toList ++ [x]) := Lib.hid (by rw [HCh.out])
                have HNs : Hid ((⟨((pt n p).text.data.toList ++ (chr (x.toNat : Int)).data.toList).toArray⟩ : ByteArray).size ≤ k7 - k) := Lib.hid (by
                  rw [Lib.size_eq, HNt.out, List.length_append, ← Lib.size_eq]
                  simp
                  omega)
                have hwp : IntKind.i64.wrap ((((ys ++ [p]).length : Nat) : Int) - 1) = (ys.length : Int) := by
                  rw [hl1]
                  exact IntWalk.i64_in _ (by omega)
                have hcv2 : (convert 137 9 (.slice (some ⟨w7.heap.size, 0, none⟩) 1 1)).run Tryz.prog ((w7.alloc (.cells #[.int .u8 x.toNat] 5)).drew) = .ok (.string (chr x.toNat)) ((w7.alloc (.cells #[.int .u8 x.toNat] 5)).drew) := run_chr x.toNat (by omega) (by have := x.toNat_lt; omega) w7.drew
                have HB8 : Hid (Below w7.heap.size w7 ((w7.alloc (.cells #[.int .u8 x.toNat] 5)).drew)) := Lib.hid (bDrewN (bAlloc (Below.refl w7.heap.size w7) (.cells #[.int .u8 x.toNat] 5)) 1)
                have hwl : IntKind.i64.wrap (ys.length : Int) = (ys.length : Int) := IntWalk.i64_in _ (by omega)
                have hl5 : (ys.length : Int) < (ys.length : Int) + 1 := by omega
                have hg0 : g0 < w7.heap.size := (Array.getElem?_eq_some_iff.1 hheap).1
                have hh8 : ((w7.alloc (.cells #[.int .u8 x.toNat] 5)).drew).heap[g0]? = some (.cells cur party (0, 0)) := (HB8.out.block g0 hg0).trans hheap
                have df := Lib.frozen_of_heap hh8 (ys.length * 5 + 1)
                have c8 : ((w7.alloc (.cells #[.int .u8 x.toNat] 5)).drew).cell? ⟨g0, ys.length * 5 + 1, none⟩ = some (.string (pt n p).text) := (World.cell?_of_block (w := w7) (HB8.out.block g0 hg0)).trans ctext
                clear hheap hh8 hcv
                go_upto_region 12 with fail
                clear ckind
                refine wp_region_seqU (fun W => W.cell? ⟨g0, ys.length * 5 + 1, none⟩ = some (.string (pt n p).text)) 12 [(0, true), (1, true), (2, true), (3, true), (4, true), (5, true), (6, true), (7, false), (8, false), (9, true), (10, true), (11, true), (12, false)] (by as_aux_lemma => kernel_rfl) (by as_aux_lemma => kernel_rfl) (by as_aux_lemma => kernel_rfl) (by decide) (by as_aux_lemma => kernel_rfl) (by decide) ctext ?_
                intro OPS HO
                refine seqT_take (o := ⟨_, _, _, _, _, _⟩) (v := ?_) (by rw [HO.out]; rfl) (by rfl) ?_ ?_
                rotate_left 1
                · first | ((intro W _; go_simp) <;> with_reducible rfl) | (intro W hW; have s1 := hW; (go_simp <;> with_reducible rfl))
                try simp only [Act.put, List.setIfInBounds_toArray, List.set_cons_zero, List.set_cons_succ]
                refine seqT_take (o := ⟨_, _, _, _, _, _⟩) (v := ?_) (by rw [HO.out]; rfl) (by rfl) ?_ ?_
                rotate_left 1
                · first | ((intro W _; go_simp) <;> with_reducible rfl) | (intro W hW; have s1 := hW; (go_simp <;> with_reducible rfl))
                try simp only [Act.put, List.setIfInBounds_toArray, List.set_cons_zero, List.set_cons_succ]
                refine seqT_take (o := ⟨_, _, _, _, _, _⟩) (v := ?_) (by rw [HO.out]; rfl) (by rfl) ?_ ?_
                rotate_left 1
                · first | ((intro W _; go_simp) <;> with_reducible rfl) | (intro W hW; have s1 := hW; (go_simp <;> with_reducible rfl))
                try simp only [Act.put, List.setIfInBounds_toArray, List.set_cons_zero, List.set_cons_succ]
                refine seqT_take (o := ⟨_, _, _, _, _, _⟩) (v := ?_) (by rw [HO.out]; rfl) (by rfl) ?_ ?_
                rotate_left 1
                · first | ((intro W _; go_simp) <;> with_reducible rfl) | (intro W hW; have s1 := hW; (go_simp <;> with_reducible rfl))
                try simp only [Act.put, List.setIfInBounds_toArray, List.set_cons_zero, List.set_cons_succ]
                refine seqT_take (o := ⟨_, _, _, _, _, _⟩) (v := ?_) (by rw [HO.out]; rfl) (by rfl) ?_ ?_
                rotate_left 1
                · first | ((intro W _; go_simp) <;> with_reducible rfl) | (intro W hW; have s1 := hW; (go_simp <;> with_reducible rfl))
                try simp only [Act.put, List.setIfInBounds_toArray, List.set_cons_zero, List.set_cons_succ]
                refine seqT_take (o := ⟨_, _, _, _, _, _⟩) (v := ?_) (by rw [HO.out]; rfl) (by rfl) ?_ ?_
                rotate_left 1
                · first | ((intro W _; go_simp) <;> with_reducible rfl) | (intro W hW; have s1 := hW; (go_simp <;> with_reducible rfl))
                try simp only [Act.put, List.setIfInBounds_toArray, List.set_cons_zero, List.set_cons_succ]
                refine seqT_take (o := ⟨_, _, _, _, _, _⟩) (v := ?_) (by rw [HO.out]; rfl) (by rfl) ?_ ?_
                rotate_left 1
                · first | ((intro W _; go_simp) <;> with_reducible rfl) | (intro W hW; have s1 := hW; (go_simp <;> with_reducible rfl))
                try simp only [Act.put, List.setIfInBounds_toArray, List.set_cons_zero, List.set_cons_succ]
                refine seqT_do (o := ⟨_, _, _, _, _, _⟩) (by rw [HO.out]; rfl) (by rfl) (fun K hK => ?_)
                go_wp2_with fail
                refine hK.out _ _ (fun _ => c8) ?_
                clear hK K
                try simp only [Act.put, List.setIfInBounds_toArray, List.set_cons_zero, List.set_cons_succ]
                refine seqT_do (o := ⟨_, _, _, _, _, _⟩) (by rw [HO.out]; rfl) (by rfl) (fun K hK => ?_)
                go_wp2_with fail
                refine hK.out _ _ (fun _ => c8) ?_
                clear hK K
                try simp only [Act.put, List.setIfInBounds_toArray, List.set_cons_zero, List.set_cons_succ]
                refine seqT_take (o := ⟨_, _, _, _, _, _⟩) (v := ?_) (by rw [HO.out]; rfl) (by rfl) ?_ ?_
                rotate_left 1
                · first | ((intro W _; go_simp) <;> with_reducible rfl) | (intro W hW; have s1 := hW; (go_simp <;> with_reducible rfl))
                try simp only [Act.put, List.setIfInBounds_toArray, List.set_cons_zero, List.set_cons_succ]
                refine seqT_take (o := ⟨_, _, _, _, _, _⟩) (v := ?_) (by rw [HO.out]; rfl) (by rfl) ?_ ?_
                rotate_left 1
                · first | ((intro W _; go_simp) <;> with_reducible rfl) | (intro W hW; have s1 := hW; (go_simp <;> with_reducible rfl))
                try simp only [Act.put, List.setIfInBounds_toArray, List.set_cons_zero, List.set_cons_succ]
                refine seqT_take (o := ⟨_, _, _, _, _, _⟩) (v := ?_) (by rw [HO.out]; rfl) (by rfl) ?_ ?_
                rotate_left 1
                · first | ((intro W _; go_simp) <;> with_reducible rfl) | (intro W hW; have s1 := hW; (go_simp <;> with_reducible rfl))
                try simp only [Act.put, List.setIfInBounds_toArray, List.set_cons_zero, List.set_cons_succ]
                refine seqT_do (o := ⟨_, _, _, _, _, _⟩) (by rw [HO.out]; rfl) (by rfl) (fun K hK => ?_)
                go_wp2_with fail
                refine hK.out _ _ (fun h => absurd rfl h) ?_
                clear hK K
                try simp only [Act.put, List.setIfInBounds_toArray, List.set_cons_zero, List.set_cons_succ]
                refine seqT_done ?_
                have HL7t := Lib.hid (HLs7.out.text hk1 (t := ⟨((pt n p).text.data.toList ++ (chr (x.toNat : Int)).data.toList).toArray⟩) (by have := HNs.out; omega))
                have HSg : Hid (Side g0 w7 (w7.setCell ⟨g0, ys.length * 5 + 1, none⟩ (.string ⟨((pt n p).text.data.toList ++ (chr (x.toNat : Int)).data.toList).toArray⟩))) := Lib.hid ((Side.refl g0 _).set _ _)
                generalize w7.setCell _ _ = w8 at *
                have HB9 : Hid (Below w8.heap.size w8 (w8.alloc (.cells #[.int .u8 x.toNat] 5)).drew) := Lib.hid (bDrewN (bAlloc (Below.refl w8.heap.size w8) (.cells #[.int .u8 x.toNat] 5)) 1)
                have HR9 : Hid (RdAt (w8.alloc (.cells #[.int .u8 x.toNat] 5)).drew b T k7 e) := Lib.hid (BoxIs.under (BoxIs.side HR7.out HSg.out (by omega)) HB9.out)
                have HS9 := Lib.hid ((HS7.out.new HSg.out hz0).trans (Side.of HB9.out))
                have HL9 := Lib.hid (HL7t.out.under HB9.out)
                have HT9 : Hid (∀ q ∈ ys ++ [withText n p ⟨((pt n p).text.data.toList ++ (chr (x.toNat : Int)).data.toList).toArray⟩], txtSz n q ≤ k7 - k) := Lib.hid (fun q hq => by
                  rcases List.mem_append.1 hq with hq | hq
                  · have := HTj.out q (by simp [hq])
                    omega
                  · rw [List.mem_singleton.1 hq]
                    exact HNs.out)
                have HRs9 : Hid (PL dd (gpL (n + 1) (ys ++ [withText n p ⟨((pt n p).text.data.toList ++ (chr (x.toNat : Int)).data.toList).toArray⟩])) (left T k7 e) = Res) := Lib.hid (by
                  have h1 := HRes4.out
                  have e0 : gpL (n + 1) (ys ++ [p]) = gpL (n + 1) ys ++ [.text (pt n p).text.data.toList] := by
                    unfold gpL
                    rw [List.map_append, List.map_cons, List.map_nil, gpOf_text hk1]
                  rw [e0, addT_more] at h1
                  rw [HL7.out]
                  have e1 : gpL (n + 1) (ys ++ [withText n p ⟨((pt n p).text.data.toList ++ (chr (x.toNat : Int)).data.toList).toArray⟩]) = gpL (n + 1) ys ++ [.text ((pt n p).text.data.toList ++ [x])] := by
                    unfold gpL
                    rw [List.map_append, List.map_cons, List.map_nil]
                    congr 2
                    exact (gpOf_text (p := withText n p ⟨((pt n p).text.data.toList ++ (chr (x.toNat : Int)).data.toList).toArray⟩) hk1).trans (congrArg GP.text HNt.out)
                  rw [e1]
                  exact h1)
                clear df c8 ctext hcv2 hadd hwp HSg
                generalize (w8.alloc _).drew = w9 at *
                go_wp2_with fail
                go_roundg (e - k7)
                case measure => omega
                case rel => exact ⟨k7, some ⟨g0, 0, none⟩, cap, ys ++ [withText n p ⟨((pt n p).text.data.toList ++ (chr (x.toNat : Int)).data.toList).toArray⟩], by omega, by first | rfl | (rw [List.length_append]; rfl) | (simp), by omega, hk7, by rw [List.length_append] at hxl ⊢; simp at hxl ⊢; omega, HR9, HS9, HL9, HT9, HRs9⟩
end Go.Proofs.YtfenmeacimfiaaaGreatDoor
