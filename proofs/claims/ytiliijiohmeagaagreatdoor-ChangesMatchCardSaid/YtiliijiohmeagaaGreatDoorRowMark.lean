/-
  An argument of type []Mark, opened.
-/
import Derived.Test.YtiliijiohmeagaaGreatDoorRowRows
import Derived.Test.YtiliijiohmeagaaGreatDoorChg2
import Derived.Test.YtiliijiohmeagaaGreatDoorRowStruct
import Derived.Test.YtiliijiohmeagaaGreatDoorReach
namespace Go.Proofs.YtiliijiohmeagaaGreatDoor
open Go.ChangeShapes Go.WideShapes Go.ChangeAt Go.RowKit Go.Deep

theorem markOne : ∃ fs : Array Field, Tryz.prog.underlying 93 = some (.struct fs) ∧ oneCellFields Tryz.prog fs = true ∧ fs.size = 4 ∧ Tryz.prog.cellsOf 93 = fs.size ∧
    fs.map (·.type) = #[9, 3, 3, 9] :=
  ⟨_, Tryz.underlying93, by kernel_rfl, rfl, by kernel_rfl, by simp⟩

/-- A mark whose texts are no longer than an int says. -/
def OkMark (x : Wh.Mark) : Prop := x.path.size ≤ 9223372036854775807 ∧ x.sum.size ≤ 9223372036854775807

set_option maxRecDepth 100000 in
theorem open_marks {H : Type} {enc : TypeId × Value → H} {w : World} {b0 : Nat} {r : Reach} {v : Value} {d : DataW H} {p : List MemPlace}
    (hv : Value.okWide Tryz.prog w r b0 44 v) (h : DataW.Trod enc Tryz.prog w 0 (fun _ => true) true 44 v d p) :
    ∃ (a : Option Addr) (c : Nat) (xs : List Wh.Mark), v = .slice a xs.length c ∧ xs.length ≤ c ∧ HoldsR w a 4 (xs.map markCells) ∧ (∀ x ∈ xs, OkMark x) ∧ ((∀ x ∈ d.weights Tryz.prog 44, x ≤ reachBytes) → xs.length ≤ 2932031007317) := by
  obtain ⟨fs, hs, hone, h4, hC, hty⟩ := markOne
  obtain ⟨a0, len, cap, rfl⟩ := okWide_slice Tryz.underlying44 hv
  obtain ⟨fuel, hf⟩ := h
  have hK : (∀ x ∈ d.weights Tryz.prog 44, x ≤ reachBytes) → len ≤ 2932031007317 := by
    intro hw
    rcases Go.Deep.open_slice Tryz.underlying44 hf with ⟨hcs, _⟩ | ⟨a, len', cap', m, n, D, Pl, hcs, _, _, _, _, hx, _⟩
    · simp [Value.cells] at hcs
      omega
    · simp [Value.cells] at hcs
      obtain ⟨_, rfl, _⟩ := hcs
      have hd := congrArg Prod.fst hx
      simp only at hd
      subst hd
      have := hw _ (by simp only [DataW.weights, Tryz.underlying44]; exact List.mem_cons_self)
      have hb : Tryz.prog.bytesOf 93 = 48 := by kernel_rfl
      rw [hb] at this
      simp [reachBytes] at this
      omega
  obtain ⟨a, c, xs, hcs, hlc, _, hH⟩ := open_rows (α := {x : Wh.Mark // OkMark x}) (fun x => markCells x.1) Tryz.underlying44 hs hone hC (by omega) (fun x => by rw [h4]; rfl) (fun n vs hl hg => by
    obtain ⟨f0, e0, t0⟩ := field_at hty (j := 0) rfl
    obtain ⟨f1, e1, t1⟩ := field_at hty (j := 1) rfl
    obtain ⟨f2, e2, t2⟩ := field_at hty (j := 2) rfl
    obtain ⟨f3, e3, t3⟩ := field_at hty (j := 3) rfl
    obtain ⟨c0, y0, q0, z0⟩ := hg 0 f0 e0
    obtain ⟨c1, y1, q1, z1⟩ := hg 1 f1 e1
    obtain ⟨c2, y2, q2, z2⟩ := hg 2 f2 e2
    obtain ⟨c3, y3, q3, z3⟩ := hg 3 f3 e3
    rw [t0] at z0
    rw [t1] at z1
    rw [t2] at z2
    rw [t3] at z3
    obtain ⟨m0, u0, _, b0⟩ := DataW.trod_string Tryz.underlying9 z0
    obtain ⟨m1, u1, _, _⟩ := DataW.trod_int Tryz.underlying3 z1
    obtain ⟨m2, u2, _, _⟩ := DataW.trod_int Tryz.underlying3 z2
    obtain ⟨m3, u3, _, b3⟩ := DataW.trod_string Tryz.underlying9 z3
    cases u0
    cases u1
    cases u2
    cases u3
    rw [h4] at hl
    match vs, hl with
    | [d0, d1, d2, d3], _ =>
      simp at q0 q1 q2 q3
      subst q0 q1 q2 q3
      exact ⟨⟨⟨m0, m1, m2, m3⟩, b0, b3⟩, rfl⟩) hf
  rw [h4] at hH
  simp [Value.cells] at hcs
  obtain ⟨rfl, rfl, rfl⟩ := hcs
  refine ⟨a0, cap, xs.map (·.1), by simp, by simpa using hlc, by simpa [List.map_map, Function.comp_def] using hH, fun x hx => ?_, fun hw => by simpa using hK hw⟩
  obtain ⟨y, _, rfl⟩ := List.mem_map.1 hx
  exact y.2
end Go.Proofs.YtiliijiohmeagaaGreatDoor
