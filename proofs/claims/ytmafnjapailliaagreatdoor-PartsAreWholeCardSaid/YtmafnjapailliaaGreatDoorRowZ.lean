/-
  The texts RowStruct, RowFeat, in one.
-/
import Derived.Test.YtmafnjapailliaaGreatDoorRow
import Derived.Deep.Fields
import Derived.Test.YtmafnjapailliaaGreatDoorFeat
namespace Go.Proofs.YtmafnjapailliaaGreatDoor
open Go.ChangeShapes Go.WideShapes Go.ChangeAt Go.RowKit Go.Deep

section
variable {H : Type} {enc : TypeId × Value → H} {P : Program} {w : World} {b0 : Nat} {r : Reach}

/-- A struct by value whose fields take one cell each. -/
theorem open_struct {t : TypeId} {fs : Array Field} (hs : P.underlying t = some (.struct fs)) (hone : oneCellFields P fs = true) (hC : P.cellsOf t = fs.size) {v : Value} {d : DataW H} {p : List MemPlace}
    (hv : Value.okWide P w r b0 t v) (h : DataW.Trod enc P w 0 (fun _ => true) true t v d p) :
    ∃ (cs : Array Value) (ys : List (DataW H × List MemPlace)) (n : Nat), v = .agg cs ∧ cs.size = fs.size ∧ d = .agg (ys.map (·.1)) ∧ ys.length = fs.size ∧
      ∀ (j : Nat) (f : Field), fs[j]? = some f → ∃ c y, cs[j]? = some c ∧ ys[j]? = some y ∧ DataW.trod enc P w 0 (fun _ => true) true n f.type [c] = some y := by
  obtain ⟨cs, rfl, hsz⟩ := okWide_struct hs hv
  obtain ⟨fuel, hf⟩ := h
  obtain ⟨ys, n, _, hx, hcl, hyl, hg⟩ := DataW.trod_struct hs hf
  simp only [Prod.mk.injEq] at hx
  have hcs : cs.size = fs.size := hsz.trans hC
  refine ⟨cs, ys, n, rfl, hcs, hx.1, hyl, fun j f hj => ?_⟩
  obtain ⟨ho, hk⟩ := hone_of hone j f hj
  have hjl : j < fs.size := (Array.getElem?_eq_some_iff.1 hj).1
  have h1 := hg j f hj
  rw [ho, hk] at h1
  have hys : ys[j]? = some (ys[j]'(by omega)) := List.getElem?_eq_getElem (by omega)
  have hc : cs[j]? = some (cs[j]'(by omega)) := Array.getElem?_eq_getElem (by omega)
  refine ⟨_, _, hc, hys, ?_⟩
  have e1 : ((Value.agg cs).cells.toList.drop j).take 1 = [cs[j]'(by omega)] := by
    show (cs.toList.drop j).take 1 = _
    rw [List.drop_eq_getElem_cons (by simpa using (by omega : j < cs.size))]
    simp
  rw [e1] at h1
  exact h1.trans hys
end

theorem field_at {fs : Array Field} {ts : Array TypeId} (h : fs.map (·.type) = ts) {j : Nat} {t : TypeId} (ht : ts[j]? = some t) : ∃ f, fs[j]? = some f ∧ f.type = t := by
  rw [← h, Array.getElem?_map] at ht
  cases hf : fs[j]? with
  | none => rw [hf] at ht; simp at ht
  | some f => rw [hf] at ht; exact ⟨f, rfl, by simpa using ht⟩
end Go.Proofs.YtmafnjapailliaaGreatDoor
namespace Go.Proofs.YtmafnjapailliaaGreatDoor
open Go.ChangeShapes Go.WideShapes Go.ChangeAt Go.RowKit Go.Deep

theorem featOne : ∃ fs : Array Field, Tryz.prog.underlying 23 = some (.struct fs) ∧ oneCellFields Tryz.prog fs = true ∧ fs.size = 9 ∧ Tryz.prog.cellsOf 23 = fs.size ∧
    fs.map (·.type) = #[3, 3, 3, 3, 3, 3, 3, 3, 9] :=
  ⟨_, Tryz.underlying23, by kernel_rfl, rfl, by kernel_rfl, by simp⟩

theorem nine_of {cs : Array Value} {c0 c1 c2 c3 c4 c5 c6 c7 c8 : Value} (h : cs.size = 9) (h0 : cs[0]? = some c0) (h1 : cs[1]? = some c1) (h2 : cs[2]? = some c2) (h3 : cs[3]? = some c3) (h4 : cs[4]? = some c4) (h5 : cs[5]? = some c5)
    (h6 : cs[6]? = some c6) (h7 : cs[7]? = some c7) (h8 : cs[8]? = some c8) : cs = #[c0, c1, c2, c3, c4, c5, c6, c7, c8] := by
  apply Array.ext'
  obtain ⟨l⟩ := cs
  match l, h with
  | [d0, d1, d2, d3, d4, d5, d6, d7, d8], _ =>
    simp at h0 h1 h2 h3 h4 h5 h6 h7 h8
    subst h0 h1 h2 h3 h4 h5 h6 h7 h8
    rfl

set_option maxRecDepth 100000 in
theorem open_features {H : Type} {enc : TypeId × Value → H} {w : World} {b0 : Nat} {r : Reach} {v : Value} {d : DataW H} {p : List MemPlace}
    (hv : Value.okWide Tryz.prog w r b0 23 v) (h : DataW.Trod enc Tryz.prog w 0 (fun _ => true) true 23 v d p) :
    ∃ (x : Wh.Feat), v = featVal x ∧ FeatOk x := by
  obtain ⟨fs, hs, hone, h6, hC, hty⟩ := featOne
  obtain ⟨cs, ys, n, rfl, hcs, _, _, hg⟩ := open_struct hs hone hC hv h
  obtain ⟨f0, e0, t0⟩ := field_at hty (j := 0) rfl
  obtain ⟨f1, e1, t1⟩ := field_at hty (j := 1) rfl
  obtain ⟨f2, e2, t2⟩ := field_at hty (j := 2) rfl
  obtain ⟨f3, e3, t3⟩ := field_at hty (j := 3) rfl
  obtain ⟨f4, e4, t4⟩ := field_at hty (j := 4) rfl
  obtain ⟨f5, e5, t5⟩ := field_at hty (j := 5) rfl
  obtain ⟨f6, e6, t6⟩ := field_at hty (j := 6) rfl
  obtain ⟨f7, e7, t7⟩ := field_at hty (j := 7) rfl
  obtain ⟨f8, e8, t8⟩ := field_at hty (j := 8) rfl
  obtain ⟨c0, y0, q0, _, z0⟩ := hg 0 f0 e0
  obtain ⟨c1, y1, q1, _, z1⟩ := hg 1 f1 e1
  obtain ⟨c2, y2, q2, _, z2⟩ := hg 2 f2 e2
  obtain ⟨c3, y3, q3, _, z3⟩ := hg 3 f3 e3
  obtain ⟨c4, y4, q4, _, z4⟩ := hg 4 f4 e4
  obtain ⟨c5, y5, q5, _, z5⟩ := hg 5 f5 e5
  obtain ⟨c6, y6, q6, _, z6⟩ := hg 6 f6 e6
  obtain ⟨c7, y7, q7, _, z7⟩ := hg 7 f7 e7
  obtain ⟨c8, y8, q8, _, z8⟩ := hg 8 f8 e8
  rw [t0] at z0
  rw [t1] at z1
  rw [t2] at z2
  rw [t3] at z3
  rw [t4] at z4
  rw [t5] at z5
  rw [t6] at z6
  rw [t7] at z7
  rw [t8] at z8
  obtain rfl := nine_of (hcs.trans h6) q0 q1 q2 q3 q4 q5 q6 q7 q8
  obtain ⟨m0, u0, _, b0'⟩ := DataW.trod_int Tryz.underlying3 z0
  obtain ⟨m1, u1, _, b1'⟩ := DataW.trod_int Tryz.underlying3 z1
  obtain ⟨m2, u2, _, b2'⟩ := DataW.trod_int Tryz.underlying3 z2
  obtain ⟨m3, u3, _, b3'⟩ := DataW.trod_int Tryz.underlying3 z3
  obtain ⟨m4, u4, _, b4'⟩ := DataW.trod_int Tryz.underlying3 z4
  obtain ⟨m5, u5, _, b5'⟩ := DataW.trod_int Tryz.underlying3 z5
  obtain ⟨m6, u6, _, b6'⟩ := DataW.trod_int Tryz.underlying3 z6
  obtain ⟨m7, u7, _, b7'⟩ := DataW.trod_int Tryz.underlying3 z7
  obtain ⟨s8, u8, _, b8'⟩ := DataW.trod_string Tryz.underlying9 z8
  cases u0
  cases u1
  cases u2
  cases u3
  cases u4
  cases u5
  cases u6
  cases u7
  cases u8
  exact ⟨⟨m0, m1, m2, m3, m4, m5, m6, m7, s8⟩, rfl, ⟨bounds_i64 b1', b8'⟩⟩
end Go.Proofs.YtmafnjapailliaaGreatDoor
