/-
  The texts RowStruct, RowEnc, RowEnU, in one.
-/
import Derived.Test.YtikegddlbelfaaaGreatDoorRow
import Derived.Deep.Fields
import Derived.Test.YtikegddlbelfaaaGreatDoorEnG
namespace Go.Proofs.YtikegddlbelfaaaGreatDoor
open Go.ChangeShapes Go.WideShapes Go.ChangeAt Go.RowKit Go.Deep

section
variable {H : Type} {enc : TypeId × Value → H} {P : Program} {w : World} {b0 : Nat} {r : Reach}

/-- A struct by value whose fields take one cell each. -/
theorem open_struct {t : TypeId} {fs : Array Field} (hs : P.underlying t = some (.struct fs)) (hone : oneCellFields P fs = true) (hC : P.cellsOf t = fs.size) {v : Value} {d : DataW H} {p : List MemPlace}
    (hv : Value.okWide P w r b0 t v) (h : DataW.Trod enc P w 0 (fun _ => true) true t v d p) :
    ∃ (cs : Array Value) (ys : List (DataW H × List MemPlace)) (n : Nat), v = .agg cs ∧ cs.size = fs.size ∧ d = .agg (ys.map (·.1)) ∧ ys.length = fs.size ∧
      ∀ (j : Nat) (f : Field), fs[j]? = some f → ∃ c y, cs[j]? = some c ∧ ys[j]? = some y ∧ DataW.trod enc P w 0 (fun _ => true) true n f.type [c] = some y := by
  obtain ⟨cs, rfl, hsz⟩ := okWide_struct hs hv
  obtain ⟨fuel, hf⟩ := h
  obtain ⟨ys, n, _, hx, hcl, hyl, hg⟩ := DataW.trod_struct hs hf
  simp only [Prod.mk.injEq] at hx
  have hcs : cs.size = fs.size := hsz.trans hC
  refine ⟨cs, ys, n, rfl, hcs, hx.1, hyl, fun j f hj => ?_⟩
  obtain ⟨ho, hk⟩ := hone_of hone j f hj
  have hjl : j < fs.size := (Array.getElem?_eq_some_iff.1 hj).1
  have h1 := hg j f hj
  rw [ho, hk] at h1
  have hys : ys[j]? = some (ys[j]'(by omega)) := List.getElem?_eq_getElem (by omega)
  have hc : cs[j]? = some (cs[j]'(by omega)) := Array.getElem?_eq_getElem (by omega)
  refine ⟨_, _, hc, hys, ?_⟩
  have e1 : ((Value.agg cs).cells.toList.drop j).take 1 = [cs[j]'(by omega)] := by
    show (cs.toList.drop j).take 1 = _
    rw [List.drop_eq_getElem_cons (by simpa using (by omega : j < cs.size))]
    simp
  rw [e1] at h1
  exact h1.trans hys
end

theorem field_at {fs : Array Field} {ts : Array TypeId} (h : fs.map (·.type) = ts) {j : Nat} {t : TypeId} (ht : ts[j]? = some t) : ∃ f, fs[j]? = some f ∧ f.type = t := by
  rw [← h, Array.getElem?_map] at ht
  cases hf : fs[j]? with
  | none => rw [hf] at ht; simp at ht
  | some f => rw [hf] at ht; exact ⟨f, rfl, by simpa using ht⟩
end Go.Proofs.YtikegddlbelfaaaGreatDoor
namespace Go.Proofs.YtikegddlbelfaaaGreatDoor
open Go.ChangeShapes Go.WideShapes Go.ChangeAt Go.RowKit Go.Deep

theorem encOne : ∃ fs : Array Field, Tryz.prog.underlying 24 = some (.struct fs) ∧ oneCellFields Tryz.prog fs = true ∧ fs.size = 6 ∧ Tryz.prog.cellsOf 24 = fs.size ∧
    fs.map (·.type) = #[9, 9, 9, 22, 4, 3] :=
  ⟨_, Tryz.underlying24, by kernel_rfl, rfl, by kernel_rfl, by simp⟩

theorem six_of {cs : Array Value} {c0 c1 c2 c3 c4 c5 : Value} (h : cs.size = 6) (h0 : cs[0]? = some c0) (h1 : cs[1]? = some c1) (h2 : cs[2]? = some c2) (h3 : cs[3]? = some c3) (h4 : cs[4]? = some c4) (h5 : cs[5]? = some c5) :
    cs = #[c0, c1, c2, c3, c4, c5] := by
  apply Array.ext'
  obtain ⟨l⟩ := cs
  match l, h with
  | [d0, d1, d2, d3, d4, d5], _ =>
    simp at h0 h1 h2 h3 h4 h5
    subst h0 h1 h2 h3 h4 h5
    rfl

set_option maxRecDepth 100000 in
theorem open_encoding {H : Type} {enc : TypeId × Value → H} {w : World} {b0 : Nat} {r : Reach} {v : Value} {d : DataW H} {p : List MemPlace}
    (hv : Value.okWide Tryz.prog w r b0 24 v) (h : DataW.Trod enc Tryz.prog w 0 (fun _ => true) true 24 v d p) :
    ∃ (x : Wh.Enc) (a : Option Addr) (c : Nat), v = encVal x a c ∧ EncOk x a w := by
  obtain ⟨fs, hs, hone, h6, hC, hty⟩ := encOne
  obtain ⟨cs, ys, n, rfl, hcs, _, _, hg⟩ := open_struct hs hone hC hv h
  obtain ⟨f0, e0, t0⟩ := field_at hty (j := 0) rfl
  obtain ⟨f1, e1, t1⟩ := field_at hty (j := 1) rfl
  obtain ⟨f2, e2, t2⟩ := field_at hty (j := 2) rfl
  obtain ⟨f3, e3, t3⟩ := field_at hty (j := 3) rfl
  obtain ⟨f4, e4, t4⟩ := field_at hty (j := 4) rfl
  obtain ⟨f5, e5, t5⟩ := field_at hty (j := 5) rfl
  obtain ⟨c0, y0, q0, _, z0⟩ := hg 0 f0 e0
  obtain ⟨c1, y1, q1, _, z1⟩ := hg 1 f1 e1
  obtain ⟨c2, y2, q2, _, z2⟩ := hg 2 f2 e2
  obtain ⟨c3, y3, q3, _, z3⟩ := hg 3 f3 e3
  obtain ⟨c4, y4, q4, _, z4⟩ := hg 4 f4 e4
  obtain ⟨c5, y5, q5, _, z5⟩ := hg 5 f5 e5
  rw [t0] at z0
  rw [t1] at z1
  rw [t2] at z2
  rw [t3] at z3
  rw [t4] at z4
  rw [t5] at z5
  obtain rfl := six_of (hcs.trans h6) q0 q1 q2 q3 q4 q5
  obtain ⟨sf, u0, _, b0'⟩ := DataW.trod_string Tryz.underlying9 z0
  obtain ⟨sh, u1, _, b1'⟩ := DataW.trod_string Tryz.underlying9 z1
  obtain ⟨st, u2, _, b2'⟩ := DataW.trod_string Tryz.underlying9 z2
  obtain ⟨bb, u4, _⟩ := DataW.trod_bool Tryz.underlying4 z4
  obtain ⟨mm, u5, _, b5'⟩ := DataW.trod_int Tryz.underlying3 z5
  obtain ⟨a, c, zs, u3, b3, b4, b6, b7⟩ := strs_of_trod Tryz.underlying22 Tryz.underlying9 cells_string z3
  cases u0
  cases u1
  cases u2
  cases u3
  cases u4
  cases u5
  exact ⟨⟨sf, sh, st, zs, bb, mm⟩, a, c, rfl, ⟨b7, Nat.le_trans b4 b6, b3, b0', b1', b2', bounds_i64 b5'⟩⟩
end Go.Proofs.YtikegddlbelfaaaGreatDoor
namespace Go.Proofs.YtikegddlbelfaaaGreatDoor
open Go.ChangeShapes Go.WideShapes Go.ChangeAt Go.RowKit Go.Deep

set_option maxRecDepth 100000 in
theorem open_encoding_up {H : Type} {enc : TypeId × Value → H} {w : World} {b0 : Nat} {r : Reach} {v : Value} {d : DataW H} {p : List MemPlace}
    (hv : Value.okWide Tryz.prog w r b0 24 v) (h : DataW.Trod enc Tryz.prog w 0 (fun _ => true) true 24 v d p) :
    ∃ (x : Wh.Enc) (a : Option Addr) (c : Nat), v = encVal x a c ∧ EncOk x a w ∧ x.forbid.size + 1 ≤ Rows.uptoBulk d := by
  obtain ⟨x, a, c, hx, hok⟩ := open_encoding hv h
  obtain ⟨fs, hs, hone, h6, hC, hty⟩ := encOne
  obtain ⟨cs, ys, n, hcs0, hcs, hd, _, hg⟩ := open_struct hs hone hC hv h
  obtain ⟨f0, e0, t0⟩ := field_at hty (j := 0) rfl
  obtain ⟨c0, y0, q0, hy0, z0⟩ := hg 0 f0 e0
  rw [t0] at z0
  obtain ⟨sf, u0, v0, _⟩ := DataW.trod_string Tryz.underlying9 z0
  refine ⟨x, a, c, hx, hok, ?_⟩
  have e1 : encVal x a c = .agg cs := hx.symm.trans hcs0
  unfold encVal at e1
  injection e1 with e1
  rw [← e1] at q0
  cases u0
  injection q0 with q0
  injection q0 with q0
  cases ys with
  | nil => simp at hy0
  | cons y ys =>
    simp at hy0
    subst hy0
    rw [hd, v0, List.map_cons]
    simp only [Rows.uptoBulk, Rows.uptoBulkAll]
    rw [← q0, Lib.size_eq]
    omega
theorem upto_two {H : Type} {d e : DataW H} (hk : Rows.uptoSmall H [d, e] = true) : Rows.uptoBulk d ≤ 1048576 ∧ Rows.uptoBulk e ≤ 1048576 := by
  have := upto_bound hk
  simp only [Rows.uptoBulkAll] at this
  omega
end Go.Proofs.YtikegddlbelfaaaGreatDoor
