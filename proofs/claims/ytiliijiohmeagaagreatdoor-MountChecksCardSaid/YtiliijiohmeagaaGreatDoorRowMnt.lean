/-
  An argument of type MountOptions, opened.
-/
import Derived.Test.YtiliijiohmeagaaGreatDoorRowFeat
import Derived.Test.YtiliijiohmeagaaGreatDoorMnt2
namespace Go.Proofs.YtiliijiohmeagaaGreatDoor
open Go.ChangeShapes Go.WideShapes Go.ChangeAt Go.RowKit Go.Deep

theorem mntOne : ∃ fs : Array Field, Tryz.prog.underlying 25 = some (.struct fs) ∧ oneCellFields Tryz.prog fs = true ∧ fs.size = 7 ∧ Tryz.prog.cellsOf 25 = fs.size ∧
    fs.map (·.type) = #[3, 3, 3, 3, 3, 3, 4] :=
  ⟨_, Tryz.underlying25, by kernel_rfl, rfl, by kernel_rfl, by simp⟩

theorem seven_of {cs : Array Value} {c0 c1 c2 c3 c4 c5 c6 : Value} (h : cs.size = 7) (h0 : cs[0]? = some c0) (h1 : cs[1]? = some c1) (h2 : cs[2]? = some c2) (h3 : cs[3]? = some c3) (h4 : cs[4]? = some c4) (h5 : cs[5]? = some c5)
    (h6 : cs[6]? = some c6) : cs = #[c0, c1, c2, c3, c4, c5, c6] := by
  apply Array.ext'
  obtain ⟨l⟩ := cs
  match l, h with
  | [d0, d1, d2, d3, d4, d5, d6], _ =>
    simp at h0 h1 h2 h3 h4 h5 h6
    subst h0 h1 h2 h3 h4 h5 h6
    rfl

set_option maxRecDepth 100000 in
theorem open_mntopts {H : Type} {enc : TypeId × Value → H} {w : World} {b0 : Nat} {r : Reach} {v : Value} {d : DataW H} {p : List MemPlace}
    (hv : Value.okWide Tryz.prog w r b0 25 v) (h : DataW.Trod enc Tryz.prog w 0 (fun _ => true) true 25 v d p) :
    ∃ (x : Wh.MOpt), v = mntVal x := by
  obtain ⟨fs, hs, hone, h6, hC, hty⟩ := mntOne
  obtain ⟨cs, ys, n, rfl, hcs, _, _, hg⟩ := open_struct hs hone hC hv h
  obtain ⟨f0, e0, t0⟩ := field_at hty (j := 0) rfl
  obtain ⟨f1, e1, t1⟩ := field_at hty (j := 1) rfl
  obtain ⟨f2, e2, t2⟩ := field_at hty (j := 2) rfl
  obtain ⟨f3, e3, t3⟩ := field_at hty (j := 3) rfl
  obtain ⟨f4, e4, t4⟩ := field_at hty (j := 4) rfl
  obtain ⟨f5, e5, t5⟩ := field_at hty (j := 5) rfl
  obtain ⟨f6, e6, t6⟩ := field_at hty (j := 6) rfl
  obtain ⟨c0, y0, q0, _, z0⟩ := hg 0 f0 e0
  obtain ⟨c1, y1, q1, _, z1⟩ := hg 1 f1 e1
  obtain ⟨c2, y2, q2, _, z2⟩ := hg 2 f2 e2
  obtain ⟨c3, y3, q3, _, z3⟩ := hg 3 f3 e3
  obtain ⟨c4, y4, q4, _, z4⟩ := hg 4 f4 e4
  obtain ⟨c5, y5, q5, _, z5⟩ := hg 5 f5 e5
  obtain ⟨c6, y6, q6, _, z6⟩ := hg 6 f6 e6
  rw [t0] at z0
  rw [t1] at z1
  rw [t2] at z2
  rw [t3] at z3
  rw [t4] at z4
  rw [t5] at z5
  rw [t6] at z6
  obtain rfl := seven_of (hcs.trans h6) q0 q1 q2 q3 q4 q5 q6
  obtain ⟨m0, u0, _, _⟩ := DataW.trod_int Tryz.underlying3 z0
  obtain ⟨m1, u1, _, _⟩ := DataW.trod_int Tryz.underlying3 z1
  obtain ⟨m2, u2, _, _⟩ := DataW.trod_int Tryz.underlying3 z2
  obtain ⟨m3, u3, _, _⟩ := DataW.trod_int Tryz.underlying3 z3
  obtain ⟨m4, u4, _, _⟩ := DataW.trod_int Tryz.underlying3 z4
  obtain ⟨m5, u5, _, _⟩ := DataW.trod_int Tryz.underlying3 z5
  obtain ⟨m6, u6, _⟩ := DataW.trod_bool Tryz.underlying4 z6
  cases u0
  cases u1
  cases u2
  cases u3
  cases u4
  cases u5
  cases u6
  exact ⟨⟨m0, m1, m2, m3, m4, m5, m6⟩, rfl⟩
end Go.Proofs.YtiliijiohmeagaaGreatDoor
