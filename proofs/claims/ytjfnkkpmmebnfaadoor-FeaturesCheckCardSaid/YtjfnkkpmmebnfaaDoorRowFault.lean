/-
  An argument of type []Fault, opened.
-/
import Derived.Test.YtjfnkkpmmebnfaaDoorRowRows
import Derived.Test.YtjfnkkpmmebnfaaDoorFault
import Derived.Test.YtjfnkkpmmebnfaaDoorRowFeat
namespace Go.Proofs.YtjfnkkpmmebnfaaDoor
open Go.ChangeShapes Go.WideShapes Go.ChangeAt Go.RowKit Go.Deep

theorem faultOne : ∃ fs : Array Field, Tryd.prog.underlying 92 = some (.struct fs) ∧ oneCellFields Tryd.prog fs = true ∧ fs.size = 4 ∧ Tryd.prog.cellsOf 92 = fs.size ∧
    fs.map (·.type) = #[3, 3, 26, 3] :=
  ⟨_, Tryd.underlying92, by kernel_rfl, rfl, by kernel_rfl, by simp⟩

set_option maxRecDepth 100000 in
theorem open_faults {H : Type} {enc : TypeId × Value → H} {w : World} {b0 : Nat} {r : Reach} {v : Value} {d : DataW H} {p : List MemPlace}
    (hv : Value.okWide Tryd.prog w r b0 24 v) (h : DataW.Trod enc Tryd.prog w 0 (fun _ => true) true 24 v d p) :
    ∃ (a : Option Addr) (c : Nat) (xs : List Wh.Fault), v = .slice a xs.length c ∧ xs.length ≤ c ∧ HoldsR w a 4 (xs.map faultCells) := by
  obtain ⟨fs, hs, hone, h4, hC, hty⟩ := faultOne
  obtain ⟨a0, len, cap, rfl⟩ := okWide_slice Tryd.underlying24 hv
  obtain ⟨fuel, hf⟩ := h
  obtain ⟨a, c, xs, hcs, hlc, _, hH⟩ := open_rows faultCells Tryd.underlying24 hs hone hC (by omega) (fun x => by rw [h4]; rfl) (fun n vs hl hg => by
    obtain ⟨f0, e0, t0⟩ := field_at hty (j := 0) rfl
    obtain ⟨f1, e1, t1⟩ := field_at hty (j := 1) rfl
    obtain ⟨f2, e2, t2⟩ := field_at hty (j := 2) rfl
    obtain ⟨f3, e3, t3⟩ := field_at hty (j := 3) rfl
    obtain ⟨c0, y0, q0, z0⟩ := hg 0 f0 e0
    obtain ⟨c1, y1, q1, z1⟩ := hg 1 f1 e1
    obtain ⟨c2, y2, q2, z2⟩ := hg 2 f2 e2
    obtain ⟨c3, y3, q3, z3⟩ := hg 3 f3 e3
    rw [t0] at z0
    rw [t1] at z1
    rw [t2] at z2
    rw [t3] at z3
    obtain ⟨m0, u0, _, _⟩ := DataW.trod_int Tryd.underlying3 z0
    obtain ⟨m1, u1, _, _⟩ := DataW.trod_int Tryd.underlying3 z1
    obtain ⟨m2, u2, _, _⟩ := DataW.trod_int Tryd.underlying26 z2
    obtain ⟨m3, u3, _, _⟩ := DataW.trod_int Tryd.underlying3 z3
    cases u0
    cases u1
    cases u2
    cases u3
    rw [h4] at hl
    match vs, hl with
    | [d0, d1, d2, d3], _ =>
      simp at q0 q1 q2 q3
      subst q0 q1 q2 q3
      exact ⟨⟨m0, m1, m2, m3⟩, rfl⟩) hf
  rw [h4] at hH
  simp [Value.cells] at hcs
  obtain ⟨rfl, rfl, rfl⟩ := hcs
  exact ⟨a0, cap, xs, rfl, hlc, hH⟩
end Go.Proofs.YtjfnkkpmmebnfaaDoor
