/-
  An argument that is a slice of structs, opened.
-/
import Derived.Test.YtfenmeacimfiaaaGreatDoorRow
import Derived.Test.YtfenmeacimfiaaaGreatDoorRows2
import Derived.Deep.Slices
import Derived.Deep.Fields
namespace Go.Proofs.YtfenmeacimfiaaaGreatDoor
open Go.ChangeShapes Go.WideShapes Go.ChangeAt Go.RowKit Go.Deep

theorem list_of {α : Type} {p : Nat → α → Prop} : ∀ (n : Nat), (∀ i, i < n → ∃ x, p i x) → ∃ xs : List α, xs.length = n ∧ ∀ i x, xs[i]? = some x → p i x
  | 0, _ => ⟨[], rfl, by simp⟩
  | n + 1, h => by
    obtain ⟨xs, hl, hx⟩ := list_of n (fun i hi => h i (by omega))
    obtain ⟨x, hp⟩ := h n (by omega)
    refine ⟨xs ++ [x], by simp [hl], fun i y hy => ?_⟩
    rcases Nat.lt_or_ge i n with hlt | hge
    · rw [List.getElem?_append_left (by omega)] at hy
      exact hx i y hy
    · have hi : i = n := by
        have := (List.getElem?_eq_some_iff.1 hy).1
        simp at this
        omega
      subst hi
      rw [List.getElem?_append_right (by omega)] at hy
      simp [hl] at hy
      subst hy
      exact hp

section
variable {H : Type} {enc : TypeId × Value → H} {P : Program} {w : World} {b0 : Nat} {r : Reach}

/-- The cells of a slice of structs of one-cell fields: each element as some 'α' that its cells stand for. -/
theorem open_rows {α : Type} (cellsOf : α → List Value) {ts te : TypeId} {fs : Array Field} (ht : P.underlying ts = some (.slice te)) (he : P.underlying te = some (.struct fs)) (hone : oneCellFields P fs = true) (hC : P.cellsOf te = fs.size) (hpos : 0 < fs.size)
    (hlen : ∀ x, (cellsOf x).length = fs.size)
    (hel : ∀ (n : Nat) (vs : List Value), vs.length = fs.size → (∀ (j : Nat) (f : Field), fs[j]? = some f → ∃ v y, vs[j]? = some v ∧ DataW.trod enc P w 0 (fun _ => true) true n f.type [v] = some y) → ∃ x : α, cellsOf x = vs)
    {fuel : Nat} {cs : List Value} {y : DataW H × List MemPlace} (hf : DataW.trod enc P w 0 (fun _ => true) true fuel ts cs = some y) :
    ∃ (a : Option Addr) (c : Nat) (xs : List α), cs = [.slice a xs.length c] ∧ xs.length ≤ c ∧ c ≤ maxLen ∧ HoldsR w a fs.size (xs.map cellsOf) := by
  rcases open_slice ht hf with ⟨hcs, _⟩ | ⟨a, len, cap, m, n, D, Pl, hcs, _, hl, hm, hmm, hx, hi⟩
  · exact ⟨none, 0, [], hcs, by simp, by simp, .inl rfl⟩
  · have hml : len ≤ m := by rw [hmm]; simp; omega
    obtain ⟨xs, hxl, hxs⟩ := list_of (p := fun i (x : α) => ∀ (j : Nat) (u : Value), (cellsOf x)[j]? = some u → w.cell? (a.add (i * fs.size + j)) = some u) len (fun i hil => by
      obtain ⟨cs', hc, ht'⟩ := hi i (by omega)
      rw [hC] at hc
      obtain ⟨ys, n', _, _, _, hyl, hg⟩ := DataW.trod_struct he ht'
      obtain ⟨_, hcl, hat⟩ := World.cells?_some hc
      obtain ⟨x, hx'⟩ := hel n' cs' hcl (fun j f hj => by
        obtain ⟨ho, hk⟩ := hone_of hone j f hj
        have hjl : j < fs.size := (Array.getElem?_eq_some_iff.1 hj).1
        have h1 := hg j f hj
        rw [ho, hk] at h1
        have hone' : (cs'.drop j).take 1 = [cs'[j]'(by omega)] := by
          rw [List.drop_eq_getElem_cons (by omega)]
          rfl
        rw [hone'] at h1
        have hys : ys[j]? = some (ys[j]'(by omega)) := List.getElem?_eq_getElem (by omega)
        exact ⟨_, _, List.getElem?_eq_getElem (by omega), h1.trans hys⟩)
      refine ⟨x, fun j u hu => ?_⟩
      rw [hx'] at hu
      have hjl : j < fs.size := by have := (List.getElem?_eq_some_iff.1 hu).1; omega
      rw [← Go.Deep.add_add, hat j hjl, hu])
    refine ⟨some a, cap, xs, by rw [hxl]; exact hcs, by omega, hm, ?_⟩
    cases hxe : xs with
    | nil => exact .inl rfl
    | cons x0 r0 =>
      have h00 := hxs 0 x0 (by rw [hxe]; rfl)
      have hl0 := hlen x0
      have hu : (cellsOf x0)[0]? = some ((cellsOf x0)[0]'(by omega)) := List.getElem?_eq_getElem (by omega)
      have hc0 := h00 0 _ hu
      obtain ⟨b, off, spot⟩ := a
      have hspot : spot = none := by simpa [Addr.add] using World.cell?_spot hc0
      subst hspot
      have hadd : ∀ j, (⟨b, off, none⟩ : Addr).add j = ⟨b, off + j, none⟩ := fun j => by unfold Addr.add; split <;> simp_all
      refine .inr ⟨b, off, rfl, ?_, fun k row hk j u hu => ?_⟩
      · rw [hadd] at hc0
        exact cell_lt hc0
      · rw [← hxe, List.getElem?_map] at hk
        cases hk' : xs[k]? with
        | none => rw [hk'] at hk; simp at hk
        | some x =>
          rw [hk'] at hk
          simp at hk
          subst hk
          have := hxs k x hk' j u hu
          rw [hadd] at this
          rw [← this, Nat.add_assoc]
end
end Go.Proofs.YtfenmeacimfiaaaGreatDoor
