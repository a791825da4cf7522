/-
  An argument of type Deal, opened.
-/
import Derived.Test.YtjcpcmiijadmcaaDoorRowStruct
import Derived.Test.YtjcpcmiijadmcaaDoorRowRows
import Derived.Test.YtjcpcmiijadmcaaDoorPlainDeal3
import Derived.Test.YtjcpcmiijadmcaaDoorDeal2
namespace Go.Proofs.YtjcpcmiijadmcaaDoor
open Go.ChangeShapes Go.WideShapes Go.ChangeAt Go.RowKit Go.Deep

theorem dealOne : ∃ fs : Array Field, Tryd.prog.underlying 26 = some (.struct fs) ∧ oneCellFields Tryd.prog fs = true ∧ fs.size = 4 ∧ Tryd.prog.cellsOf 26 = fs.size ∧
    fs.map (·.type) = #[22, 23, 24, 24] :=
  ⟨_, Tryd.underlying26, by kernel_rfl, rfl, by kernel_rfl, by simp⟩
theorem actOne : ∃ fs : Array Field, Tryd.prog.underlying 69 = some (.struct fs) ∧ oneCellFields Tryd.prog fs = true ∧ fs.size = 6 ∧ Tryd.prog.cellsOf 69 = fs.size ∧
    fs.map (·.type) = #[3, 3, 9, 9, 3, 3] :=
  ⟨_, Tryd.underlying69, by kernel_rfl, rfl, by kernel_rfl, by simp⟩
theorem refusalOne : ∃ fs : Array Field, Tryd.prog.underlying 72 = some (.struct fs) ∧ oneCellFields Tryd.prog fs = true ∧ fs.size = 2 ∧ Tryd.prog.cellsOf 72 = fs.size ∧
    fs.map (·.type) = #[9, 28] :=
  ⟨_, Tryd.underlying72, by kernel_rfl, rfl, by kernel_rfl, by simp⟩

theorem four_of {cs : Array Value} {c0 c1 c2 c3 : Value} (h : cs.size = 4) (h0 : cs[0]? = some c0) (h1 : cs[1]? = some c1) (h2 : cs[2]? = some c2) (h3 : cs[3]? = some c3) : cs = #[c0, c1, c2, c3] := by
  apply Array.ext'
  obtain ⟨l⟩ := cs
  match l, h with
  | [d0, d1, d2, d3], _ =>
    simp at h0 h1 h2 h3
    subst h0 h1 h2 h3
    rfl

def ActIn : Type := {x : Wh.Act // (x.frm.size ≤ maxLen ∧ x.to.size ≤ maxLen) ∧ (-9223372036854775808 ≤ x.size ∧ x.size ≤ 9223372036854775807) ∧ -9223372036854775808 ≤ x.time ∧ x.time ≤ 9223372036854775807}
def RefIn : Type := {x : Wh.Refusal // x.path.size ≤ maxLen ∧ -9223372036854775808 ≤ x.err ∧ x.err ≤ 9223372036854775807}

set_option maxRecDepth 100000 in
theorem acts_of_trod {H : Type} {enc : TypeId × Value → H} {w : World} {fuel : Nat} {cs : List Value} {y : DataW H × List MemPlace} (hf : DataW.trod enc Tryd.prog w 0 (fun _ => true) true fuel 22 cs = some y) :
    ∃ (a : Option Addr) (c : Nat) (xs : List ActIn), cs = [.slice a xs.length c] ∧ xs.length ≤ c ∧ c ≤ maxLen ∧ HoldsR w a 6 (xs.map (fun x => actCells x.1)) := by
  obtain ⟨fs, hs, hone, h4, hC, hty⟩ := actOne
  obtain ⟨a, c, xs, hcs, hlc, hcm, hH⟩ := open_rows (fun x : ActIn => actCells x.1) Tryd.underlying22 hs hone hC (by omega) (fun x => by rw [h4]; rfl) (fun n vs hl hg => by
    obtain ⟨f0, e0, t0⟩ := field_at hty (j := 0) rfl
    obtain ⟨f1, e1, t1⟩ := field_at hty (j := 1) rfl
    obtain ⟨f2, e2, t2⟩ := field_at hty (j := 2) rfl
    obtain ⟨f3, e3, t3⟩ := field_at hty (j := 3) rfl
    obtain ⟨f4, e4, t4⟩ := field_at hty (j := 4) rfl
    obtain ⟨f5, e5, t5⟩ := field_at hty (j := 5) rfl
    obtain ⟨c0, y0, q0, z0⟩ := hg 0 f0 e0
    obtain ⟨c1, y1, q1, z1⟩ := hg 1 f1 e1
    obtain ⟨c2, y2, q2, z2⟩ := hg 2 f2 e2
    obtain ⟨c3, y3, q3, z3⟩ := hg 3 f3 e3
    obtain ⟨c4, y4, q4, z4⟩ := hg 4 f4 e4
    obtain ⟨c5, y5, q5, z5⟩ := hg 5 f5 e5
    rw [t0] at z0
    rw [t1] at z1
    rw [t2] at z2
    rw [t3] at z3
    rw [t4] at z4
    rw [t5] at z5
    obtain ⟨m0, u0, _, _⟩ := DataW.trod_int Tryd.underlying3 z0
    obtain ⟨m1, u1, _, _⟩ := DataW.trod_int Tryd.underlying3 z1
    obtain ⟨m2, u2, _, b2⟩ := DataW.trod_string Tryd.underlying9 z2
    obtain ⟨m3, u3, _, b3⟩ := DataW.trod_string Tryd.underlying9 z3
    obtain ⟨m4, u4, _, b4⟩ := DataW.trod_int Tryd.underlying3 z4
    obtain ⟨m5, u5, _, b5⟩ := DataW.trod_int Tryd.underlying3 z5
    cases u0
    cases u1
    cases u2
    cases u3
    cases u4
    cases u5
    rw [h4] at hl
    match vs, hl with
    | [d0, d1, d2, d3, d4, d5], _ =>
      simp at q0 q1 q2 q3 q4 q5
      subst q0 q1 q2 q3 q4 q5
      exact ⟨⟨⟨m0, m1, m2, m3, m4, m5⟩, ⟨b2, b3⟩, bounds_i64 b4, bounds_i64 b5⟩, rfl⟩) hf
  rw [h4] at hH
  exact ⟨a, c, xs, hcs, hlc, hcm, hH⟩

set_option maxRecDepth 100000 in
theorem refs_of_trod {H : Type} {enc : TypeId × Value → H} {w : World} {fuel : Nat} {cs : List Value} {y : DataW H × List MemPlace} (hf : DataW.trod enc Tryd.prog w 0 (fun _ => true) true fuel 23 cs = some y) :
    ∃ (a : Option Addr) (c : Nat) (xs : List RefIn), cs = [.slice a xs.length c] ∧ xs.length ≤ c ∧ c ≤ maxLen ∧ HoldsR w a 2 (xs.map (fun x => refCells x.1)) := by
  obtain ⟨fs, hs, hone, h4, hC, hty⟩ := refusalOne
  obtain ⟨a, c, xs, hcs, hlc, hcm, hH⟩ := open_rows (fun x : RefIn => refCells x.1) Tryd.underlying23 hs hone hC (by omega) (fun x => by rw [h4]; rfl) (fun n vs hl hg => by
    obtain ⟨f0, e0, t0⟩ := field_at hty (j := 0) rfl
    obtain ⟨f1, e1, t1⟩ := field_at hty (j := 1) rfl
    obtain ⟨c0, y0, q0, z0⟩ := hg 0 f0 e0
    obtain ⟨c1, y1, q1, z1⟩ := hg 1 f1 e1
    rw [t0] at z0
    rw [t1] at z1
    obtain ⟨m0, u0, _, b0⟩ := DataW.trod_string Tryd.underlying9 z0
    obtain ⟨m1, u1, _, b1⟩ := DataW.trod_int Tryd.underlying28 z1
    cases u0
    cases u1
    rw [h4] at hl
    match vs, hl with
    | [d0, d1], _ =>
      simp at q0 q1
      subst q0 q1
      exact ⟨⟨⟨m0, m1⟩, b0, bounds_i64 b1⟩, rfl⟩) hf
  rw [h4] at hH
  exact ⟨a, c, xs, hcs, hlc, hcm, hH⟩

set_option maxRecDepth 100000 in
theorem open_deal {H : Type} {enc : TypeId × Value → H} {w : World} {b0 : Nat} {r : Reach} {v : Value} {d : DataW H} {p : List MemPlace}
    (hv : Value.okWide Tryd.prog w r b0 26 v) (h : DataW.Trod enc Tryd.prog w 0 (fun _ => true) true 26 v d p) :
    ∃ (x : DealAt), v = dealVal x ∧ DealOk x w ∧ x.d.nums := by
  obtain ⟨fs, hs, hone, h6, hC, hty⟩ := dealOne
  obtain ⟨cs, ys, n, rfl, hcs, _, _, hg⟩ := open_struct hs hone hC hv h
  obtain ⟨f0, e0, t0⟩ := field_at hty (j := 0) rfl
  obtain ⟨f1, e1, t1⟩ := field_at hty (j := 1) rfl
  obtain ⟨f2, e2, t2⟩ := field_at hty (j := 2) rfl
  obtain ⟨f3, e3, t3⟩ := field_at hty (j := 3) rfl
  obtain ⟨c0, y0, q0, _, z0⟩ := hg 0 f0 e0
  obtain ⟨c1, y1, q1, _, z1⟩ := hg 1 f1 e1
  obtain ⟨c2, y2, q2, _, z2⟩ := hg 2 f2 e2
  obtain ⟨c3, y3, q3, _, z3⟩ := hg 3 f3 e3
  rw [t0] at z0
  rw [t1] at z1
  rw [t2] at z2
  rw [t3] at z3
  obtain rfl := four_of (hcs.trans h6) q0 q1 q2 q3
  obtain ⟨a0, k0, xs, u0, l0, m0, H0⟩ := acts_of_trod z0
  obtain ⟨a1, k1, rs, u1, l1, m1, H1⟩ := refs_of_trod z1
  obtain ⟨a2, k2, es, u2, s2, l2, m2, H2⟩ := strs_of_trod Tryd.underlying24 Tryd.underlying9 cells_string z2
  obtain ⟨a3, k3, qs, u3, s3, l3, m3, H3⟩ := strs_of_trod Tryd.underlying24 Tryd.underlying9 cells_string z3
  cases u0
  cases u1
  cases u2
  cases u3
  unfold maxLen at *
  refine ⟨⟨⟨xs.map (·.1), rs.map (·.1), es, qs⟩, a0, a1, a2, a3, k0, k1, k2, k3⟩, by simp, ⟨?_, ?_, H2, H3, ?_, ?_, s2, s3, ?_, ?_, ?_, ?_⟩, ⟨?_, ?_⟩⟩
  · rw [List.map_map]
    exact H0
  · rw [List.map_map]
    exact H1
  · intro y hy
    obtain ⟨t, _, rfl⟩ := List.mem_map.1 hy
    exact t.2.1
  · intro y hy
    obtain ⟨t, _, rfl⟩ := List.mem_map.1 hy
    exact t.2.1
  · simp only [List.length_map]
    omega
  · simp only [List.length_map]
    omega
  · exact Nat.le_trans l2 m2
  · exact Nat.le_trans l3 m3
  · intro y hy
    obtain ⟨t, _, rfl⟩ := List.mem_map.1 hy
    exact t.2.2
  · intro y hy
    obtain ⟨t, _, rfl⟩ := List.mem_map.1 hy
    exact t.2.2
end Go.Proofs.YtjcpcmiijadmcaaDoor
