/-
  An argument of type []GlobPart, opened; a glob.
-/
import Derived.Test.YtnpcbcnclncniaaDoorGlobMem
import Derived.OpenShut
namespace Go.Proofs.YtnpcbcnclncniaaDoor
open Go.ChangeShapes Go.WideShapes Go.ChangeAt Go.RowKit Go.Deep

theorem partOne : ∃ fs : Array Field, Tryd.prog.underlying 64 = some (.struct fs) ∧ oneCellFields Tryd.prog fs = true ∧ fs.size = 5 ∧ Tryd.prog.cellsOf 64 = 5 ∧
    fs.map (·.type) = #[3, 9, 4, 61, 62] :=
  ⟨_, Tryd.underlying64, by kernel_rfl, rfl, by kernel_rfl, by simp⟩
theorem cells_pair : Tryd.prog.cellsOf 67 = 2 := by kernel_rfl
theorem cells_parts : Tryd.prog.cellsOf 22 = 1 := by kernel_rfl

abbrev okI (n : Int) : Prop := -9223372036854775808 ≤ n ∧ n ≤ 9223372036854775807
def RgIn : Type := {r : Int × Int // okI r.1 ∧ okI r.2}

theorem sum_ones {α : Type} : ∀ (xs : List α), (xs.map (fun _ => 1)).sum = xs.length
  | [] => rfl
  | _ :: xs => by
    rw [List.map_cons, List.sum_cons, sum_ones xs, List.length_cons]
    omega

theorem mapSub {α : Type} {p : α → Prop} {w : World} {n : Nat} {cells : α → List Value} {s : Sl {x : α // p x}} (h : SlHolds w n (fun x => cells x.1) s) : SlHolds w n cells ⟨s.a, s.c, s.xs.map (·.1)⟩ ∧ (∀ x ∈ s.xs.map (·.1), p x) ∧ (⟨s.a, s.c, s.xs.map (·.1)⟩ : Sl α).val = s.val := by
  refine ⟨⟨?_, ?_, h.2.2⟩, ?_, ?_⟩
  · show HoldsR w s.a n ((s.xs.map (·.1)).map cells)
    rw [List.map_map]
    exact h.1
  · show (s.xs.map (·.1)).length ≤ s.c
    rw [List.length_map]
    exact h.2.1
  · intro x hx
    obtain ⟨t, _, rfl⟩ := List.mem_map.1 hx
    exact t.2
  · simp [Sl.val]

section
variable {H : Type} {enc : TypeId × Value → H} {w : World}

set_option maxRecDepth 100000 in
theorem open_pairs {fuel : Nat} {cs : List Value} {y : DataW H × List MemPlace} (hf : DataW.trod enc Tryd.prog w 0 (fun _ => true) true fuel 61 cs = some y) :
    ∃ s : Sl (Int × Int), cs = [s.val] ∧ SlHolds w 2 rgCells s ∧ (∀ r ∈ s.xs, okI r.1 ∧ okI r.2) ∧ s.xs.length + 1 ≤ Rows.uptoBulk y.1 := by
  obtain ⟨s, hcs, hs, hbk⟩ := open_sl (α := RgIn) (fun r => rgCells r.1) (fun _ => 1) 2 Tryd.underlying61 cells_pair (by decide) (fun _ => rfl) (fun n vs z _ hl hz => by
    obtain ⟨xs, m, _, hzz, _, hxl, hx⟩ := DataW.trod_array Tryd.underlying67 hz
    match vs, hl with
    | [v0, v1], _ =>
      have h0 := hx 0 (by decide)
      have h1 := hx 1 (by decide)
      rw [cells_int, List.getElem?_eq_getElem (by omega)] at h0 h1
      obtain ⟨m0, u0, _, b0⟩ := DataW.trod_int Tryd.underlying3 h0
      obtain ⟨m1, u1, _, b1⟩ := DataW.trod_int Tryd.underlying3 h1
      simp at u0 u1
      subst u0 u1
      exact ⟨⟨(m0, m1), bounds_i64 b0, bounds_i64 b1⟩, rfl, by rw [hzz]; simp [Rows.uptoBulk]⟩) hf
  obtain ⟨h1, h2, h3⟩ := mapSub (p := fun r : Int × Int => okI r.1 ∧ okI r.2) hs
  refine ⟨_, by rw [h3]; exact hcs, h1, h2, ?_⟩
  rw [sum_ones] at hbk
  show (List.map (·.1) s.xs).length + 1 ≤ _
  rw [List.length_map]
  exact hbk

set_option maxRecDepth 100000 in
theorem open_parts : ∀ (fuel D : Nat), fuel ≤ D → ∀ {cs : List Value} {y : DataW H × List MemPlace}, DataW.trod enc Tryd.prog w 0 (fun _ => true) true fuel 22 cs = some y → ∃ s : Sl (P D), cs = [s.val] ∧ SOk w D s ∧ szL D s.xs + 1 ≤ Rows.uptoBulk y.1 := by
  intro fuel
  induction fuel using Nat.strongRecOn with
  | _ fuel ih =>
    intro D hD cs y hf
    obtain ⟨fs, hs, hone, h5, hC, hty⟩ := partOne
    obtain ⟨s, hcs, hsl, hbk⟩ := open_sl (α := {p : P D // POk w D p}) (fun p => partCells D p.1) (fun p => sz D p.1) 5 Tryd.underlying22 hC (by decide) (fun p => partCells_len D p.1) (fun n vs z hn hl hz => by
      cases D with
      | zero => omega
      | succ D =>
        obtain ⟨ys, n', hn', hzz, _, hyl, hg⟩ := DataW.trod_struct hs hz
        have hfld : ∀ (j : Nat) (f : Field), fs[j]? = some f → ∃ v y', vs[j]? = some v ∧ DataW.trod enc Tryd.prog w 0 (fun _ => true) true n' f.type [v] = some y' ∧ ys[j]? = some y' := by
          intro j f hj
          obtain ⟨ho, hk⟩ := hone_of hone j f hj
          have hjl : j < fs.size := (Array.getElem?_eq_some_iff.1 hj).1
          have h1 := hg j f hj
          rw [ho, hk] at h1
          have hone' : (vs.drop j).take 1 = [vs[j]'(by omega)] := by
            rw [List.drop_eq_getElem_cons (by omega)]
            rfl
          rw [hone'] at h1
          have hys : ys[j]? = some (ys[j]'(by omega)) := List.getElem?_eq_getElem (by omega)
          exact ⟨_, _, List.getElem?_eq_getElem (by omega), h1.trans hys, hys⟩
        obtain ⟨f0, e0, t0⟩ := field_at hty (j := 0) rfl
        obtain ⟨f1, e1, t1⟩ := field_at hty (j := 1) rfl
        obtain ⟨f2, e2, t2⟩ := field_at hty (j := 2) rfl
        obtain ⟨f3, e3, t3⟩ := field_at hty (j := 3) rfl
        obtain ⟨f4, e4, t4⟩ := field_at hty (j := 4) rfl
        obtain ⟨c0, y0, q0, z0, v0⟩ := hfld 0 f0 e0
        obtain ⟨c1, y1, q1, z1, v1⟩ := hfld 1 f1 e1
        obtain ⟨c2, y2, q2, z2, v2⟩ := hfld 2 f2 e2
        obtain ⟨c3, y3, q3, z3, v3⟩ := hfld 3 f3 e3
        obtain ⟨c4, y4, q4, z4, v4⟩ := hfld 4 f4 e4
        rw [t0] at z0
        rw [t1] at z1
        rw [t2] at z2
        rw [t3] at z3
        rw [t4] at z4
        obtain ⟨m0, u0, _, b0⟩ := DataW.trod_int Tryd.underlying3 z0
        obtain ⟨m1, u1, g1, b1⟩ := DataW.trod_string Tryd.underlying9 z1
        obtain ⟨m2, u2, _⟩ := DataW.trod_bool Tryd.underlying4 z2
        obtain ⟨rg, u3, hrg, hrb, k3⟩ := open_pairs z3
        obtain ⟨ws, u4, hws, k4⟩ := open_sl (α := {s : Sl (P D) // SOk w D s}) (fun s => [s.1.val]) (fun s => 1 + szL D s.1.xs) 1 Tryd.underlying62 cells_parts (by decide) (fun _ => rfl) (fun k vs' z' hk hl' hz' => by
          obtain ⟨s, hcs', hs', hk'⟩ := ih k (by omega) D (by omega) hz'
          exact ⟨⟨s, hs'⟩, hcs'.symm, by show 1 + szL D s.xs ≤ _; omega⟩) z4
        obtain ⟨w1, w2, w3⟩ := mapSub (p := fun s : Sl (P D) => SOk w D s) (cells := fun s => [s.val]) hws
        cases u0
        cases u1
        cases u2
        cases u3
        cases u4
        match vs, hl with
        | [d0, d1, d2, d3, d4], _ =>
          simp at q0 q1 q2 q3 q4
          subst q0 q1 q2 q3 q4
          refine ⟨⟨(⟨m0, m1, m2, rg, ⟨ws.a, ws.c, ws.xs.map (·.1)⟩⟩ : PartOf (P D)), ⟨⟨b1, bounds_i64 b0⟩, hrg, hrb, w1, fun s hs => w2 s hs⟩⟩, ?_, ?_⟩
          · show [_, _, _, _, _] = _
            rw [w3]
          · obtain ⟨r0, rfl⟩ : ∃ r0, ys = r0 := ⟨_, rfl⟩
            match ys, hyl.trans h5, hzz, v0, v1, v2, v3, v4 with
            | [x0, x1, x2, x3, x4], _, hzz, v0, v1, v2, v3, v4 =>
              simp at v0 v1 v2 v3 v4
              subst v0 v1 v2 v3 v4
              rw [hzz]
              show szOf (sz D) _ ≤ Rows.uptoBulk x0.1 + (Rows.uptoBulk x1.1 + (Rows.uptoBulk x2.1 + (Rows.uptoBulk x3.1 + (Rows.uptoBulk x4.1 + 0)))) + 1
              have j1 : Rows.uptoBulk x1.1 = m1.size + 1 := by rw [g1, Lib.size_eq]; rfl
              have j4 : (ws.xs.map (fun s => 1 + szL D s.1.xs)).sum + 1 ≤ Rows.uptoBulk x4.1 := k4
              have j5 : (List.map (fun s : Sl (P D) => 1 + (s.xs.map (sz D)).sum) (ws.xs.map (·.1))).sum = (ws.xs.map (fun s => 1 + szL D s.1.xs)).sum := by rw [List.map_map]; rfl
              unfold szOf
              simp only []
              rw [j5]
              omega) hf
    obtain ⟨h1, h2, h3⟩ := mapSub (p := fun q : P D => POk w D q) (cells := partCells D) hsl
    refine ⟨_, by rw [h3]; exact hcs, ⟨h1, h2⟩, ?_⟩
    have e : szL D (s.xs.map (·.1)) = (s.xs.map (fun p => sz D p.1)).sum := by unfold szL; rw [List.map_map]; rfl
    show szL D (s.xs.map (·.1)) + 1 ≤ _
    rw [e]
    exact hbk
end
end Go.Proofs.YtnpcbcnclncniaaDoor
