/-
  slices.Concat of texts.
-/
import Derived.Test.YtnpcbcnclncniaaDoorOwn
import Derived.Maps.AppendAt
import Derived.Lib.AppendZeros
namespace Go.Proofs.YtnpcbcnclncniaaDoor
open Go.RowKit

section
variable {P : Program}

/-- append of a slice that came in (nil, empty or not) to a row of the call's own. -/
theorem run_app_in {t e ty : TypeId} {z : Value} {bytes : Nat} {w0 wx : World} {a : Option Addr} {n cap : Nat} {xs : List Value}
    (hE : ElemOk P t e z bytes) (hO : Own e w0 wx a n cap xs) (A : Option Addr) (m c : Nat) (news : List Value) (hl : news.length = m) (hN : Holds wx A news) (h1 : ∀ u ∈ news, u.oneCell' = true)
    (h63 : n + m ≤ 9223372036854775807) (hby : (n + m) * bytes ≤ 140737488355328) :
    ∃ a' cap' w', (Builtin.append_ #[t, t] ty #[.slice a n cap, .slice A m c]).run P wx = .ok (.slice a' (n + m) cap') w' ∧ Own e w0 w' a' (n + m) cap' (xs ++ news) := by
  obtain ⟨i, ht, hi, hz0, hz1, hz2, hz3⟩ := hE
  have hba : w0.heap.size ≤ wx.heap.size := hO.2.size
  cases A with
  | none =>
    have hn : news = [] := by
      rcases hN with h | ⟨b, off, h, _⟩
      · exact h
      · cases h
    subst hn
    obtain rfl : m = 0 := hl.symm
    refine ⟨a, cap, wx, ?_, by simpa using hO⟩
    rcases hO.1.2 with ⟨hv, rfl⟩ | ⟨g, cap', cur, hv, _, _, hnc, _⟩
    · rw [hv]
      simp [Builtin.append_, run_underlying ht, sizeOf, typeInfo, hi, Builtin.lenOf, Builtin.firstCells]
    · rw [hv]
      simp [Builtin.append_, run_underlying ht, sizeOf, typeInfo, hi, Builtin.lenOf, Builtin.firstCells, hnc, storeCells]
      injection hv with e1 _ e3
      exact ⟨e1.symm, e3.symm⟩
  | some ad =>
    have hcells : ∀ (j : Nat) u, news[j]? = some u → wx.cell? (ad.add j) = some u := by
      intro j u hu
      obtain ⟨b, off, ha, _, hc⟩ := hN.at hu
      injection ha with ha
      subst ha
      have e2 : (⟨b, off, Option.none⟩ : Addr).add j = ⟨b, off + j, Option.none⟩ := by unfold Addr.add; split <;> simp_all
      rw [e2]
      exact hc
    obtain ⟨v', w', hrun, h2, h3, _, _⟩ := run_append_own_at (P := P) wx w0.heap.size t ty e i z 1 bytes ht hi hz0 hz1 hz2 hz3 (by decide) (.slice a n cap) n xs hO.1 ad m c news (by simpa using hl) hcells h1 (by unfold maxLen; omega) hby hba
    obtain ⟨a', cap', rfl, _⟩ := own_form h2
    exact ⟨a', cap', w', hrun, h2, hO.2.grown h3 hba (fun kk hkk => own_base hO.1 kk hkk)⟩
end

/-- A slice of texts that came in. -/
structure Part where
  a : Option Addr
  c : Nat
  xs : List ByteArray
def Part.val (p : Part) : Value := .slice p.a p.xs.length p.c
def Part.ok (w : World) (p : Part) : Prop := Holds w p.a (p.xs.map Value.string)
def partsOut (ps : List Part) : List ByteArray := (ps.map (·.xs)).flatten

theorem partsOut_take {ps : List Part} {k : Nat} {p : Part} (h : ps[k]? = some p) : partsOut (ps.take (k + 1)) = partsOut (ps.take k) ++ p.xs := by
  unfold partsOut
  rw [List.take_add_one, h]
  simp

theorem partsOut_le {ps : List Part} (k : Nat) : (partsOut (ps.take k)).length ≤ (partsOut ps).length := by
  have : partsOut ps = partsOut (ps.take k) ++ partsOut (ps.drop k) := by
    unfold partsOut
    rw [← List.flatten_append, ← List.map_append, List.take_append_drop]
  rw [this, List.length_append]
  omega

end Go.Proofs.YtnpcbcnclncniaaDoor
