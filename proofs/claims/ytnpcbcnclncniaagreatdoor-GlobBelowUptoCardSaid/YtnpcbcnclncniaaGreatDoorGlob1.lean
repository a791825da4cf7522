/-
  names.partCount.
-/
import Derived.Test.YtnpcbcnclncniaaGreatDoorGlobMem
import Derived.Test.YtnpcbcnclncniaaGreatDoorOwn
namespace Go.Proofs.YtnpcbcnclncniaaGreatDoor
open Go.RowKit

/-- How many parts there are. -/
def cnt : (n : Nat) → P n → Nat
  | 0, _ => 0
  | n + 1, p => 1 + ((PartOf.ways (α := P n) p).xs.map (fun s => (s.xs.map (cnt n)).sum)).sum
def cntL (n : Nat) (xs : List (P n)) : Nat := (xs.map (cnt n)).sum
def maxL (l : List Nat) : Nat := l.foldl max 0
/-- How deep ways stand within each other. -/
def dp : (n : Nat) → P n → Nat
  | 0, _ => 0
  | n + 1, p => maxL ((PartOf.ways (α := P n) p).xs.map (fun s => maxL (s.xs.map (dp n)))) + if PartOf.kind (α := P n) p = 6 then 1 else 0
def dpL (n : Nat) (xs : List (P n)) : Nat := maxL (xs.map (dp n))

theorem maxL_snoc (l : List Nat) (x : Nat) : maxL (l ++ [x]) = max (maxL l) x := by simp [maxL]
theorem take_map_snoc {α β : Type} {xs : List α} {k : Nat} {x : α} (f : α → β) (h : xs[k]? = some x) : (xs.take (k + 1)).map f = (xs.take k).map f ++ [f x] := by
  rw [List.take_add_one, h]
  simp
theorem maxL_le {l : List Nat} {B : Nat} (h : ∀ x ∈ l, x ≤ B) : maxL l ≤ B := by
  have : ∀ (l : List Nat) (a : Nat), a ≤ B → (∀ x ∈ l, x ≤ B) → l.foldl max a ≤ B := by
    intro l
    induction l with
    | nil => intro a ha _; exact ha
    | cons x l ih =>
      intro a ha hl
      exact ih (max a x) (by have := hl x (by simp); omega) (fun y hy => hl y (by simp [hy]))
  exact this l 0 (Nat.zero_le _) h
theorem le_sum {l : List Nat} {x : Nat} (h : x ∈ l) : x ≤ l.sum := by
  induction l with
  | nil => cases h
  | cons y l ih =>
    rw [List.sum_cons]
    rcases List.mem_cons.1 h with rfl | h
    · omega
    · have := ih h
      omega
theorem sum_mono {α : Type} {f g : α → Nat} {xs : List α} (h : ∀ x ∈ xs, f x ≤ g x) : (xs.map f).sum ≤ (xs.map g).sum := by
  induction xs with
  | nil => simp
  | cons y xs ih =>
    simp only [List.map_cons, List.sum_cons]
    have := h y (by simp)
    have := ih (fun x hx => h x (by simp [hx]))
    omega
theorem sum_ones1 {α : Type} : ∀ (xs : List α), (xs.map (fun _ => 1)).sum = xs.length
  | [] => rfl
  | _ :: xs => by
    rw [List.map_cons, List.sum_cons, sum_ones1 xs, List.length_cons]
    omega
theorem cnt_le : (n : Nat) → (p : P n) → cnt n p ≤ sz n p
  | 0, _ => Nat.le_refl _
  | n + 1, p => by
    show 1 + ((PartOf.ways (α := P n) p).xs.map (fun s => (s.xs.map (cnt n)).sum)).sum ≤ 1 + _ + _ + ((PartOf.ways (α := P n) p).xs.map (fun s => 1 + (s.xs.map (sz n)).sum)).sum
    have := sum_mono (xs := (PartOf.ways (α := P n) p).xs) (f := fun s => (s.xs.map (cnt n)).sum) (g := fun s => 1 + (s.xs.map (sz n)).sum) (fun s _ => by
      have := sum_mono (xs := s.xs) (fun q _ => cnt_le n q)
      omega)
    omega
theorem dp_le : (n : Nat) → (p : P n) → dp n p ≤ sz n p
  | 0, _ => Nat.le_refl _
  | n + 1, p => by
    show maxL ((PartOf.ways (α := P n) p).xs.map (fun s => maxL (s.xs.map (dp n)))) + _ ≤ 1 + _ + _ + ((PartOf.ways (α := P n) p).xs.map (fun s => 1 + (s.xs.map (sz n)).sum)).sum
    have h1 : maxL ((PartOf.ways (α := P n) p).xs.map (fun s => maxL (s.xs.map (dp n)))) ≤ ((PartOf.ways (α := P n) p).xs.map (fun s => 1 + (s.xs.map (sz n)).sum)).sum := by
      refine maxL_le (fun x hx => ?_)
      obtain ⟨s, hs, rfl⟩ := List.mem_map.1 hx
      have h2 : maxL (s.xs.map (dp n)) ≤ (s.xs.map (sz n)).sum := maxL_le (fun y hy => by
        obtain ⟨q, hq, rfl⟩ := List.mem_map.1 hy
        exact Nat.le_trans (dp_le n q) (le_sum (List.mem_map.2 ⟨q, hq, rfl⟩)))
      have h3 := le_sum (List.mem_map.2 ⟨s, hs, rfl⟩ : (1 + (s.xs.map (sz n)).sum) ∈ (PartOf.ways (α := P n) p).xs.map (fun s => 1 + (s.xs.map (sz n)).sum))
      omega
    split <;> omega
theorem cntL_le (n : Nat) (xs : List (P n)) : cntL n xs ≤ szL n xs := sum_mono (fun q _ => cnt_le n q)
theorem dpL_le (n : Nat) (xs : List (P n)) : dpL n xs ≤ szL n xs := maxL_le (fun y hy => by
  obtain ⟨q, hq, rfl⟩ := List.mem_map.1 hy
  exact Nat.le_trans (dp_le n q) (le_sum (List.mem_map.2 ⟨q, hq, rfl⟩)))
theorem sum_take_le {α : Type} (f : α → Nat) (xs : List α) (k : Nat) : ((xs.take k).map f).sum ≤ (xs.map f).sum := by
  have : xs.map f = (xs.take k).map f ++ (xs.drop k).map f := by rw [← List.map_append, List.take_append_drop]
  rw [this, List.sum_append]
  omega

/-- A block that holds a part. -/
def PartBox {α : Type} (w : World) (b : Nat) (p : PartOf α) : Prop := b < w.heap.size ∧ w.cell? ⟨b, 0, none⟩ = some (.int .i64 p.kind) ∧ w.cell? ⟨b, 1, none⟩ = some (.string p.text) ∧ w.cell? ⟨b, 2, none⟩ = some (.bool p.neg) ∧ w.cell? ⟨b, 3, none⟩ = some (.slice p.rg.a p.rg.xs.length p.rg.c) ∧ w.cell? ⟨b, 4, none⟩ = some (.slice p.ways.a p.ways.xs.length p.ways.c)
theorem PartBox.under {α : Type} {w w' : World} {b : Nat} {p : PartOf α} (h : PartBox w b p) (hb : Below w.heap.size w w') : PartBox w' b p := by
  obtain ⟨h0, h1, h2, h3, h4, h5⟩ := h
  exact ⟨Nat.lt_of_lt_of_le h0 hb.size, (hb.cell (p := ⟨b, 0, none⟩) h0).trans h1, (hb.cell (p := ⟨b, 1, none⟩) h0).trans h2, (hb.cell (p := ⟨b, 2, none⟩) h0).trans h3, (hb.cell (p := ⟨b, 3, none⟩) h0).trans h4, (hb.cell (p := ⟨b, 4, none⟩) h0).trans h5⟩
theorem partBox_new {α : Type} (w : World) (p : PartOf α) (t : TypeId) : PartBox (w.alloc (.cells #[.int .i64 p.kind, .string p.text, .bool p.neg, .slice p.rg.a p.rg.xs.length p.rg.c, .slice p.ways.a p.ways.xs.length p.ways.c] t)) w.heap.size p := by
  refine ⟨by simp, ?_, ?_, ?_, ?_, ?_⟩ <;> (rw [World.cell?_alloc_at _ _ _ _ rfl]; rfl)
theorem partRow {n : Nat} {w : World} {s : Sl (P (n + 1))} (h : SlHolds w 5 (partCells (n + 1)) s) {k : Nat} {p : PartOf (P n)} (hk : s.xs[k]? = some p) :
    ∃ b off, s.a = some ⟨b, off, none⟩ ∧ b < w.heap.size ∧ w.cell? ⟨b, off + k * 5, none⟩ = some (.int .i64 p.kind) ∧ w.cell? ⟨b, off + k * 5 + 1, none⟩ = some (.string p.text) ∧ w.cell? ⟨b, off + k * 5 + 2, none⟩ = some (.bool p.neg) ∧
      w.cell? ⟨b, off + k * 5 + 3, none⟩ = some (.slice p.rg.a p.rg.xs.length p.rg.c) ∧ w.cell? ⟨b, off + k * 5 + 4, none⟩ = some (.slice p.ways.a p.ways.xs.length p.ways.c) := by
  obtain ⟨b, off, ha, hb, hc⟩ := h.1.at (k := k) (row := partCellsOf p) (by rw [List.getElem?_map, hk]; rfl)
  exact ⟨b, off, ha, hb, hc 0 _ rfl, hc 1 _ rfl, hc 2 _ rfl, hc 3 _ rfl, hc 4 _ rfl⟩
theorem wayRow {α : Type} {w : World} {s : Sl (Sl α)} (h : SlHolds w 1 (fun s : Sl α => [s.val]) s) {k : Nat} {t : Sl α} (hk : s.xs[k]? = some t) :
    ∃ b off, s.a = some ⟨b, off, none⟩ ∧ b < w.heap.size ∧ w.cell? ⟨b, off + k, none⟩ = some (.slice t.a t.xs.length t.c) := by
  obtain ⟨b, off, ha, hb, hc⟩ := h.1.at (k := k) (row := [t.val]) (by rw [List.getElem?_map, hk]; rfl)
  have := hc 0 _ rfl
  rw [Nat.mul_one, Nat.add_zero] at this
  exact ⟨b, off, ha, hb, this⟩
end Go.Proofs.YtnpcbcnclncniaaGreatDoor
