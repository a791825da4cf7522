/-
  Globs in memory: parts whose ways hold parts, to some depth.
-/
import Derived.Test.YtfenmeacimfiaaaGreatDoorRowStruct
import Derived.Test.YtfenmeacimfiaaaGreatDoorRowRows
namespace Go.Proofs.YtfenmeacimfiaaaGreatDoor
open Go.ChangeShapes Go.WideShapes Go.ChangeAt Go.RowKit Go.Deep

/-- A slice that came in: where it lies, its capacity, what it holds. -/
structure Sl (α : Type) where
  a : Option Addr
  c : Nat
  xs : List α
abbrev Sl.val {α : Type} (s : Sl α) : Value := .slice s.a s.xs.length s.c

/-- A part, its ways' parts of a type of their own. -/
structure PartOf (α : Type) where
  kind : Int
  text : ByteArray
  neg : Bool
  rg : Sl (Int × Int)
  ways : Sl (Sl α)
/-- Parts of a depth of at most n. -/
def P : Nat → Type
  | 0 => Empty
  | n + 1 => PartOf (P n)

def rgCells (r : Int × Int) : List Value := [.int .i64 r.1, .int .i64 r.2]
def partCellsOf {α : Type} (p : PartOf α) : List Value := [.int .i64 p.kind, .string p.text, .bool p.neg, p.rg.val, p.ways.val]
def partCells : (n : Nat) → P n → List Value
  | 0, e => nomatch e
  | _ + 1, p => partCellsOf (α := P _) p
theorem partCells_len : (n : Nat) → (p : P n) → (partCells n p).length = 5
  | 0, e => nomatch e
  | _ + 1, _ => rfl

/-- A slice's cells and bounds, its elements aside. -/
def SlHolds {α : Type} (w : World) (n : Nat) (cells : α → List Value) (s : Sl α) : Prop := HoldsR w s.a n (s.xs.map cells) ∧ s.xs.length ≤ s.c ∧ s.c ≤ maxLen

/-- What a part asks of the world. -/
def POk (w : World) : (n : Nat) → P n → Prop
  | 0, _ => True
  | n + 1, (p : PartOf (P n)) => (p.text.size ≤ maxLen ∧ -9223372036854775808 ≤ p.kind ∧ p.kind ≤ 9223372036854775807) ∧ SlHolds w 2 rgCells p.rg ∧ (∀ r ∈ p.rg.xs, (-9223372036854775808 ≤ r.1 ∧ r.1 ≤ 9223372036854775807) ∧ -9223372036854775808 ≤ r.2 ∧ r.2 ≤ 9223372036854775807) ∧
      SlHolds w 1 (fun s : Sl (P n) => [s.val]) p.ways ∧ ∀ s ∈ p.ways.xs, SlHolds w 5 (partCells n) s ∧ ∀ q ∈ s.xs, POk w n q
def SOk (w : World) (n : Nat) (s : Sl (P n)) : Prop := SlHolds w 5 (partCells n) s ∧ ∀ q ∈ s.xs, POk w n q

theorem SlHolds.under {α : Type} {w w' : World} {n : Nat} {cells : α → List Value} {s : Sl α} (h : SlHolds w n cells s) (hb : Below w.heap.size w w') : SlHolds w' n cells s := ⟨h.1.under hb, h.2⟩
theorem POk.under {w w' : World} (hb : Below w.heap.size w w') : ∀ (n : Nat) (p : P n), POk w n p → POk w' n p
  | 0, _, _ => trivial
  | n + 1, _, h => ⟨h.1, h.2.1.under hb, h.2.2.1, h.2.2.2.1.under hb, fun s hs => ⟨(h.2.2.2.2 s hs).1.under hb, fun q hq => POk.under hb n q ((h.2.2.2.2 s hs).2 q hq)⟩⟩
theorem SOk.under {w w' : World} {n : Nat} {s : Sl (P n)} (h : SOk w n s) (hb : Below w.heap.size w w') : SOk w' n s := ⟨h.1.under hb, fun q hq => (h.2 q hq).under hb⟩

/-- The bulk of parts. -/
def szOf {α : Type} (f : α → Nat) (p : PartOf α) : Nat := 1 + p.text.size + p.rg.xs.length + (p.ways.xs.map (fun s => 1 + (s.xs.map f).sum)).sum
def sz : (n : Nat) → P n → Nat
  | 0, _ => 0
  | n + 1, p => szOf (sz n) p
def szL (n : Nat) (xs : List (P n)) : Nat := (xs.map (sz n)).sum

theorem bulkAll_sum {H : Type} : ∀ (l : List (DataW H)), Rows.uptoBulkAll l = (l.map Rows.uptoBulk).sum
  | [] => rfl
  | d :: r => by
    rw [Rows.uptoBulkAll, bulkAll_sum r]
    rfl
theorem sum_le {α β : Type} {f : α → Nat} {g : β → Nat} : ∀ (xs : List α) (ys : List β), xs.length = ys.length → (∀ (i : Nat) x y, xs[i]? = some x → ys[i]? = some y → f x ≤ g y) → (xs.map f).sum ≤ (ys.map g).sum
  | [], [], _, _ => Nat.le_refl _
  | [], _ :: _, h, _ => by simp at h
  | _ :: _, [], h, _ => by simp at h
  | x :: xs, y :: ys, h, hp => by
    have h1 := hp 0 x y rfl rfl
    have h2 := sum_le xs ys (by simpa using h) (fun i a b ha hb => hp (i + 1) a b (by simpa using ha) (by simpa using hb))
    simp only [List.map_cons, List.sum_cons]
    omega

section
variable {H : Type} {enc : TypeId × Value → H} {Pr : Program} {w : World}

/-- The cells of a slice, each element as some 'α' that its cells stand for; the elements are read with less fuel; their bulk. -/
theorem open_sl {α : Type} (cellsOf : α → List Value) (wt : α → Nat) (sz : Nat) {ts te : TypeId} (ht : Pr.underlying ts = some (.slice te)) (hC : Pr.cellsOf te = sz) (hpos : 0 < sz) (hlen : ∀ x, (cellsOf x).length = sz) {fuel : Nat} {cs : List Value} {y : DataW H × List MemPlace}
    (hel : ∀ (n : Nat) (vs : List Value) (z : DataW H × List MemPlace), n < fuel → vs.length = sz → DataW.trod enc Pr w 0 (fun _ => true) true n te vs = some z → ∃ x : α, cellsOf x = vs ∧ wt x ≤ Rows.uptoBulk z.1)
    (hf : DataW.trod enc Pr w 0 (fun _ => true) true fuel ts cs = some y) : ∃ s : Sl α, cs = [s.val] ∧ SlHolds w sz cellsOf s ∧ (s.xs.map wt).sum + 1 ≤ Rows.uptoBulk y.1 := by
  rcases DataW.trod_slice ht hf with ⟨hcs, hy⟩ | ⟨a, len, cap, elems, rest, n, hfu, hcs, hy, _, hl, hm, hlen2, hi, _⟩
  · exact ⟨⟨none, 0, []⟩, hcs, ⟨.inl rfl, Nat.le_refl _, Nat.zero_le _⟩, by rw [hy]; simp [Rows.uptoBulk]⟩
  · obtain ⟨xs, hxl, hxs⟩ := list_of (p := fun i (x : α) => (∀ (j : Nat) (u : Value), (cellsOf x)[j]? = some u → w.cell? (a.add (i * sz + j)) = some u) ∧ ∀ z, elems[i]? = some z → wt x ≤ Rows.uptoBulk z.1) len (fun i hil => by
      have h1 := hi i hil
      rw [List.getElem?_eq_getElem (by omega), hC] at h1
      obtain ⟨vs, hc, htr⟩ := Option.bind_eq_some_iff.1 h1
      obtain ⟨_, hcl, hat⟩ := World.cells?_some hc
      obtain ⟨x, hx', hwt⟩ := hel n vs _ (by omega) hcl htr
      refine ⟨x, fun j u hu => ?_, fun z hz => ?_⟩
      · rw [hx'] at hu
        have hjl : j < sz := by have := (List.getElem?_eq_some_iff.1 hu).1; omega
        rw [← Go.Deep.add_add, hat j hjl, hu]
      · rw [List.getElem?_eq_getElem (by omega)] at hz
        injection hz with hz
        rw [← hz]
        exact hwt)
    have hsum : (xs.map wt).sum + 1 ≤ Rows.uptoBulk y.1 := by
      rw [hy]
      show _ ≤ Rows.uptoBulkAll (elems.map (·.1)) + Rows.uptoBulkAll (rest.map (·.1)) + 1
      have h1 : (xs.map wt).sum ≤ (elems.map (fun z => Rows.uptoBulk z.1)).sum := sum_le xs elems (by omega) (fun i x z hx hz => (hxs i x hx).2 z hz)
      rw [bulkAll_sum, List.map_map]
      exact Nat.succ_le_succ (Nat.le_trans h1 (Nat.le_add_right _ _))
    refine ⟨⟨some a, cap, xs⟩, by rw [Sl.val, hxl]; exact hcs, ⟨?_, by show xs.length ≤ cap; omega, hm⟩, hsum⟩
    cases hxe : xs with
    | nil => exact .inl rfl
    | cons x0 r0 =>
      have h00 := (hxs 0 x0 (by rw [hxe]; rfl)).1
      have hl0 := hlen x0
      have hu : (cellsOf x0)[0]? = some ((cellsOf x0)[0]'(by omega)) := List.getElem?_eq_getElem (by omega)
      have hc0 := h00 0 _ hu
      obtain ⟨b, off, spot⟩ := a
      have hspot : spot = none := by simpa [Addr.add] using World.cell?_spot hc0
      subst hspot
      have hadd : ∀ j, (⟨b, off, none⟩ : Addr).add j = ⟨b, off + j, none⟩ := fun j => by unfold Addr.add; split <;> simp_all
      refine .inr ⟨b, off, rfl, ?_, fun k row hk j u hu => ?_⟩
      · rw [hadd] at hc0
        exact cell_lt hc0
      · rw [← hxe, List.getElem?_map] at hk
        cases hk' : xs[k]? with
        | none => rw [hk'] at hk; simp at hk
        | some x =>
          rw [hk'] at hk
          simp at hk
          subst hk
          have := (hxs k x hk').1 j u hu
          rw [hadd] at this
          rw [← this, Nat.add_assoc]
end
end Go.Proofs.YtfenmeacimfiaaaGreatDoor
