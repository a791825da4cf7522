/-
  Parts of the proof: RowUni.
-/
import Derived.Test.YtchfhojighopkaaGreatDoorGuBO
import Derived.Test.YtchfhojighopkaaGreatDoorGuBP
import Derived.Test.YtchfhojighopkaaGreatDoorGuBR
namespace Go.Proofs.YtchfhojighopkaaGreatDoor
open Go.ChangeShapes Go.WideShapes Go.ChangeAt Go.RowKit Go.Deep

theorem specOne : ∃ fs : Array Field, Tryz.prog.underlying 24 = some (.struct fs) ∧ oneCellFields Tryz.prog fs = true ∧ fs.size = 4 ∧ Tryz.prog.cellsOf 24 = fs.size ∧
  fs.map (·.type) = #[3, 3, 3, 22] :=
 ⟨_, Tryz.underlying24, by kernel_rfl, rfl, by kernel_rfl, by simp⟩
theorem four_of {cs : Array Value} {c0 c1 c2 c3 : Value} (h : cs.size = 4) (h0 : cs[0]? = some c0) (h1 : cs[1]? = some c1) (h2 : cs[2]? = some c2) (h3 : cs[3]? = some c3) : cs = #[c0, c1, c2, c3] := by
 apply Array.ext'
 obtain ⟨l⟩ := cs
 match l, h with
 | [d0, d1, d2, d3], _ =>
  simp at h0 h1 h2 h3
  subst h0 h1 h2 h3
  rfl
theorem rows_of_holds {w : World} {a : Option Addr} {zs : List Int} (h : Holds w a (zs.map (Value.int .i64))) : HoldsR w a 1 (zs.map fun n => [Value.int .i64 n]) ∧ (a = none → zs.length = 0) := by
 rcases h with h | ⟨b, off, rfl, hb, hc⟩
 ·have : zs = [] := by simpa using h
  subst this
  exact ⟨.inl rfl, fun _ => rfl⟩
 ·refine ⟨.inr ⟨b, off, rfl, hb, fun k row hk j u hu => ?_⟩, fun e => by cases e⟩
  rw [List.getElem?_map] at hk
  cases hz : zs[k]? with
  | none => rw [hz] at hk; simp at hk
  | some z =>
   rw [hz] at hk
   simp at hk
   subst hk
   match j, hu with
   | 0, hu =>
    simp at hu
    subst hu
    have := hc k (.int .i64 z) (by rw [List.getElem?_map, hz]; rfl)
    rwa [Nat.mul_one, Nat.add_zero]
theorem ints_of_trod {H : Type} {enc : TypeId × Value → H} {w : World} {fuel : Nat} {v : Value} {y : DataW H × List MemPlace} (hf : DataW.trod enc Tryz.prog w 0 (fun _ => true) true fuel 22 [v] = some y) :
  ∃ (a : Option Addr) (c : Nat) (zs : List Int), [v] = [Value.slice a zs.length c] ∧ Holds w a (zs.map (Value.int .i64)) := by
 rcases open_ints Tryz.underlying22 Tryz.underlying3 cells_int hf with ⟨hcs, hx⟩ | ⟨a, len, cap, zs, hcs, _, hl, hm, hz, hx, hcell, hwz⟩
 ·exact ⟨none, 0, [], hcs, .inl rfl⟩
 ·rw [if_pos rfl] at hz
  have hlen : (zs.take len).length = len := by rw [List.length_take]; omega
  refine ⟨some a, cap, zs.take len, by rw [hlen]; exact hcs, ?_⟩
  by_cases h0 : zs.take len = []
  ·rw [h0]; exact .inl rfl
  ·have hpos : 0 < len := by
    rcases Nat.eq_zero_or_pos len with h1 | h1
    ·rw [h1] at h0; simp at h0
    ·exact h1
   obtain ⟨b, off, rfl, hc⟩ := ints_at hcell (by omega)
   refine .inr ⟨b, off, rfl, cell_lt (p := ⟨b, off + 0, none⟩) (hc 0 (by omega)), fun j u hu => ?_⟩
   rw [List.getElem?_map] at hu
   cases hj : (zs.take len)[j]? with
   | none => rw [hj] at hu; simp at hu
   | some z =>
    rw [hj] at hu
    simp at hu
    subst hu
    have hjl : j < len := by have := (List.getElem?_eq_some_iff.1 hj).1; omega
    rw [hc j (by omega)]
    rw [List.getElem?_take_of_lt hjl] at hj
    simp [List.getD_eq_getElem?_getD, hj]
set_option maxRecDepth 100000 in
theorem open_spec {H : Type} {enc : TypeId × Value → H} {w : World} {b0 : Nat} {r : Reach} {v : Value} {d : DataW H} {p : List MemPlace}
  (hv : Value.okWide Tryz.prog w r b0 24 v) (h : DataW.Trod enc Tryz.prog w 0 (fun _ => true) true 24 v d p) :
  ∃ (cr ch se : Int) (fx : List Int) (fa : Option Addr) (fc : Nat), v = .agg #[.int .i64 cr, .int .i64 ch, .int .i64 se, .slice fa fx.length fc] ∧ HoldsR w fa 1 (fx.map fun n => [Value.int .i64 n]) ∧ (fa = none → fx.length = 0) := by
 obtain ⟨fs, hs, hone, h4, hC, hty⟩ := specOne
 obtain ⟨cs, ys, n, rfl, hcs, _, _, hg⟩ := open_struct hs hone hC hv h
 obtain ⟨f0, e0, t0⟩ := field_at hty (j := 0) rfl
 obtain ⟨f1, e1, t1⟩ := field_at hty (j := 1) rfl
 obtain ⟨f2, e2, t2⟩ := field_at hty (j := 2) rfl
 obtain ⟨f3, e3, t3⟩ := field_at hty (j := 3) rfl
 obtain ⟨c0, y0, q0, _, z0⟩ := hg 0 f0 e0
 obtain ⟨c1, y1, q1, _, z1⟩ := hg 1 f1 e1
 obtain ⟨c2, y2, q2, _, z2⟩ := hg 2 f2 e2
 obtain ⟨c3, y3, q3, _, z3⟩ := hg 3 f3 e3
 rw [t0] at z0
 rw [t1] at z1
 rw [t2] at z2
 rw [t3] at z3
 obtain rfl := four_of (hcs.trans h4) q0 q1 q2 q3
 obtain ⟨n0, u0, _, _⟩ := DataW.trod_int Tryz.underlying3 z0
 obtain ⟨n1, u1, _, _⟩ := DataW.trod_int Tryz.underlying3 z1
 obtain ⟨n2, u2, _, _⟩ := DataW.trod_int Tryz.underlying3 z2
 obtain ⟨a, c, zs, u3, hz⟩ := ints_of_trod z3
 cases u0
 cases u1
 cases u2
 cases u3
 exact ⟨n0, n1, n2, zs, a, c, rfl, rows_of_holds hz⟩
theorem cells_arr4 : Tryz.prog.cellsOf 33 = 4 := by kernel_rfl
theorem cells_arr3 : Tryz.prog.cellsOf 58 = 3 := by kernel_rfl
set_option maxRecDepth 100000 in
theorem open_nums4 {H : Type} {enc : TypeId × Value → H} {w : World} {b0 : Nat} {r : Reach} {v : Value} {d : DataW H} {p : List MemPlace}
  (hv : Value.okWide Tryz.prog w r b0 25 v) (h : DataW.Trod enc Tryz.prog w 0 (fun _ => true) true 25 v d p) :
  ∃ (a : Option Addr) (c : Nat) (xs : List (List Int)), v = .slice a xs.length c ∧ Nums w a 4 xs := by
 obtain ⟨a0, len, cap, rfl⟩ := okWide_slice Tryz.underlying25 hv
 obtain ⟨fuel, hf⟩ := h
 obtain ⟨a, c, xs, hcs, _, _, hH, hr⟩ := open_arrs Tryz.underlying25 Tryz.underlying33 Tryz.underlying3 cells_int cells_arr4 (by decide) hf
 simp [Value.cells] at hcs
 obtain ⟨rfl, rfl, rfl⟩ := hcs
 exact ⟨a0, cap, xs, rfl, hH, hr⟩
set_option maxRecDepth 100000 in
theorem open_nums3 {H : Type} {enc : TypeId × Value → H} {w : World} {b0 : Nat} {r : Reach} {v : Value} {d : DataW H} {p : List MemPlace}
  (hv : Value.okWide Tryz.prog w r b0 26 v) (h : DataW.Trod enc Tryz.prog w 0 (fun _ => true) true 26 v d p) :
  ∃ (a : Option Addr) (c : Nat) (xs : List (List Int)), v = .slice a xs.length c ∧ Nums w a 3 xs := by
 obtain ⟨a0, len, cap, rfl⟩ := okWide_slice Tryz.underlying26 hv
 obtain ⟨fuel, hf⟩ := h
 obtain ⟨a, c, xs, hcs, _, _, hH, hr⟩ := open_arrs Tryz.underlying26 Tryz.underlying58 Tryz.underlying3 cells_int cells_arr3 (by decide) hf
 simp [Value.cells] at hcs
 obtain ⟨rfl, rfl, rfl⟩ := hcs
 exact ⟨a0, cap, xs, rfl, hH, hr⟩
end Go.Proofs.YtchfhojighopkaaGreatDoor
