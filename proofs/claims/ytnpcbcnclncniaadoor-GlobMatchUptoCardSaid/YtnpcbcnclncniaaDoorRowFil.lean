/-
  Arguments of the types Glob, Filter and Info, opened.
-/
import Derived.Test.YtnpcbcnclncniaaDoorGlobRow
import Derived.Test.YtnpcbcnclncniaaDoorFil1
namespace Go.Proofs.YtnpcbcnclncniaaDoor
open Go.ChangeShapes Go.WideShapes Go.ChangeAt Go.RowKit Go.Deep

theorem cells_bool1 : Tryd.prog.cellsOf 4 = 1 := by kernel_rfl
theorem cells_glob3 : Tryd.prog.cellsOf 24 = 3 := by kernel_rfl
theorem cells_rule4 : Tryd.prog.cellsOf 56 = 4 := by kernel_rfl

section
variable {H : Type} {enc : TypeId × Value → H} {w : World}

set_option maxRecDepth 100000 in
theorem open_glob3 {fuel D : Nat} (hD : fuel ≤ D) {cs : List Value} {y : DataW H × List MemPlace} (hl : cs.length = 3) (hf : DataW.trod enc Tryd.prog w 0 (fun _ => true) true fuel 24 cs = some y) :
    ∃ (rooted dirs : Bool) (s : Sl (P D)), cs = [.bool rooted, .bool dirs, s.val] ∧ SOk w D s ∧ szL D s.xs + 1 ≤ Rows.uptoBulk y.1 := by
  obtain ⟨ys, n', hn', hzz, _, hyl, hg⟩ := DataW.trod_struct Tryd.underlying24 hf
  match cs, hl with
  | [c0, c1, c2], _ =>
    match ys, hyl with
    | [x0, x1, x2], _ =>
      have h0 : DataW.trod enc Tryd.prog w 0 (fun _ => true) true n' 4 (([c0, c1, c2].drop 0).take (Tryd.prog.cellsOf 4)) = some x0 := hg 0 _ rfl
      have h1 : DataW.trod enc Tryd.prog w 0 (fun _ => true) true n' 4 (([c0, c1, c2].drop 1).take (Tryd.prog.cellsOf 4)) = some x1 := hg 1 _ rfl
      have h2 : DataW.trod enc Tryd.prog w 0 (fun _ => true) true n' 22 (([c0, c1, c2].drop 2).take (Tryd.prog.cellsOf 22)) = some x2 := hg 2 _ rfl
      rw [cells_bool1] at h0 h1
      rw [cells_parts] at h2
      obtain ⟨m0, u0, _⟩ := DataW.trod_bool Tryd.underlying4 h0
      obtain ⟨m1, u1, _⟩ := DataW.trod_bool Tryd.underlying4 h1
      obtain ⟨s, u2, hs, hk⟩ := open_parts n' D (by omega) h2
      simp at u0 u1 u2
      subst u0 u1 u2
      refine ⟨m0, m1, s, rfl, hs, ?_⟩
      rw [hzz]
      show _ ≤ Rows.uptoBulk x0.1 + (Rows.uptoBulk x1.1 + (Rows.uptoBulk x2.1 + 0)) + 1
      omega

set_option maxRecDepth 100000 in
theorem open_rules {fuel D : Nat} (hD : fuel ≤ D) {cs : List Value} {y : DataW H × List MemPlace} (hf : DataW.trod enc Tryd.prog w 0 (fun _ => true) true fuel 34 cs = some y) :
    ∃ s : Sl (RuleOf D), cs = [s.val] ∧ SlHolds w 4 ruleCells s ∧ (∀ r ∈ s.xs, SOk w D r.parts) ∧ (s.xs.map (fun r => 1 + szL D r.parts.xs)).sum + 1 ≤ Rows.uptoBulk y.1 := by
  obtain ⟨s, hcs, hsl, hbk⟩ := open_sl (α := {r : RuleOf D // SOk w D r.parts}) (fun r => ruleCells r.1) (fun r => 1 + szL D r.1.parts.xs) 4 Tryd.underlying34 cells_rule4 (by decide) (fun _ => rfl) (fun n vs z hn hl hz => by
    obtain ⟨ys, n', hn', hzz, _, hyl, hg⟩ := DataW.trod_struct Tryd.underlying56 hz
    match vs, hl with
    | [c0, c1, c2, c3], _ =>
      match ys, hyl with
      | [x0, x1], _ =>
        have h0 : DataW.trod enc Tryd.prog w 0 (fun _ => true) true n' 4 (([c0, c1, c2, c3].drop 0).take (Tryd.prog.cellsOf 4)) = some x0 := hg 0 _ rfl
        have h1 : DataW.trod enc Tryd.prog w 0 (fun _ => true) true n' 24 (([c0, c1, c2, c3].drop 1).take (Tryd.prog.cellsOf 24)) = some x1 := hg 1 _ rfl
        rw [cells_bool1] at h0
        rw [cells_glob3] at h1
        obtain ⟨m0, u0, _⟩ := DataW.trod_bool Tryd.underlying4 h0
        obtain ⟨rooted, dirs, s, u1, hs, hk⟩ := open_glob3 (D := D) (by omega) rfl h1
        simp at u0 u1
        obtain ⟨e1, e2, e3⟩ := u1
        subst u0 e1 e2 e3
        refine ⟨⟨⟨m0, rooted, dirs, s⟩, hs⟩, rfl, ?_⟩
        rw [hzz]
        show 1 + szL D s.xs ≤ Rows.uptoBulk x0.1 + (Rows.uptoBulk x1.1 + 0) + 1
        omega) hf
  obtain ⟨h1, h2, h3⟩ := mapSub (p := fun r : RuleOf D => SOk w D r.parts) (cells := ruleCells) hsl
  refine ⟨_, by rw [h3]; exact hcs, h1, h2, ?_⟩
  have e : ((s.xs.map (·.1)).map (fun r : RuleOf D => 1 + szL D r.parts.xs)).sum = (s.xs.map (fun r => 1 + szL D r.1.parts.xs)).sum := by rw [List.map_map]; rfl
  show ((s.xs.map (·.1)).map (fun r : RuleOf D => 1 + szL D r.parts.xs)).sum + 1 ≤ _
  rw [e]
  exact hbk
end

/-- An Info that came in. -/
structure InfoOf where
  path : ByteArray
  dir : Bool
  size : Int
  time : Int
  a4 : Option Addr
  n4 : Nat
  c4 : Nat
  a5 : Option Addr
  n5 : Nat
  c5 : Nat
  id : ByteArray
abbrev infoArr (x : InfoOf) : Array Value := #[.string x.path, .bool x.dir, .int .i64 x.size, .int .i64 x.time, .slice x.a4 x.n4 x.c4, .slice x.a5 x.n5 x.c5, .string x.id]

theorem six_of {cs : Array Value} {c0 c1 c2 c3 c4 c5 : Value} (h : cs.size = 6) (h0 : cs[0]? = some c0) (h1 : cs[1]? = some c1) (h2 : cs[2]? = some c2) (h3 : cs[3]? = some c3) (h4 : cs[4]? = some c4) (h5 : cs[5]? = some c5) : cs = #[c0, c1, c2, c3, c4, c5] := by
  apply Array.ext'
  obtain ⟨l⟩ := cs
  match l, h with
  | [d0, d1, d2, d3, d4, d5], _ =>
    simp at h0 h1 h2 h3 h4 h5
    subst h0 h1 h2 h3 h4 h5
    rfl
theorem seven_of {cs : Array Value} {c0 c1 c2 c3 c4 c5 c6 : Value} (h : cs.size = 7) (h0 : cs[0]? = some c0) (h1 : cs[1]? = some c1) (h2 : cs[2]? = some c2) (h3 : cs[3]? = some c3) (h4 : cs[4]? = some c4) (h5 : cs[5]? = some c5) (h6 : cs[6]? = some c6) : cs = #[c0, c1, c2, c3, c4, c5, c6] := by
  apply Array.ext'
  obtain ⟨l⟩ := cs
  match l, h with
  | [d0, d1, d2, d3, d4, d5, d6], _ =>
    simp at h0 h1 h2 h3 h4 h5 h6
    subst h0 h1 h2 h3 h4 h5 h6
    rfl

theorem filterOne : ∃ fs : Array Field, Tryd.prog.underlying 36 = some (.struct fs) ∧ oneCellFields Tryd.prog fs = true ∧ fs.size = 6 ∧ Tryd.prog.cellsOf 36 = fs.size ∧
    fs.map (·.type) = #[34, 3, 3, 3, 3, 3] :=
  ⟨_, Tryd.underlying36, by kernel_rfl, rfl, by kernel_rfl, by simp⟩
theorem infoOne : ∃ fs : Array Field, Tryd.prog.underlying 40 = some (.struct fs) ∧ oneCellFields Tryd.prog fs = true ∧ fs.size = 7 ∧ Tryd.prog.cellsOf 40 = fs.size ∧
    fs.map (·.type) = #[9, 4, 3, 3, 37, 38, 9] :=
  ⟨_, Tryd.underlying40, by kernel_rfl, rfl, by kernel_rfl, by simp⟩

theorem upto_hd {H : Type} {d : DataW H} {ds : List (DataW H)} (hk : Rows.uptoSmall H (d :: ds) = true) : Rows.uptoBulk d ≤ 1048576 := by
  have := upto_bound hk
  rw [Rows.uptoBulkAll] at this
  omega
theorem upto_tl {H : Type} {d : DataW H} {ds : List (DataW H)} (hk : Rows.uptoSmall H (d :: ds) = true) : Rows.uptoSmall H ds = true := by
  have := upto_bound hk
  rw [Rows.uptoBulkAll] at this
  exact decide_eq_true (by omega)

section
variable {H : Type} {enc : TypeId × Value → H} {w : World} {b0 : Nat} {r : Reach}

set_option maxRecDepth 100000 in
theorem open_filter {v : Value} {d : DataW H} {p : List MemPlace} (hv : Value.okWide Tryd.prog w r b0 36 v) (h : DataW.Trod enc Tryd.prog w 0 (fun _ => true) true 36 v d p) :
    ∃ (D : Nat) (f : FilterOf D), v = .agg (filterArr f) ∧ SlHolds w 4 ruleCells f.rules ∧ (∀ r ∈ f.rules.xs, SOk w D r.parts) ∧ (f.rules.xs.map (fun r => 1 + szL D r.parts.xs)).sum + 1 ≤ Rows.uptoBulk d := by
  obtain ⟨fs, hs, hone, h6, hC, hty⟩ := filterOne
  obtain ⟨cs, ys, n, rfl, hcs, hd, hyl, hg⟩ := open_struct hs hone hC hv h
  obtain ⟨f0, e0, t0⟩ := field_at hty (j := 0) rfl
  obtain ⟨f1, e1, t1⟩ := field_at hty (j := 1) rfl
  obtain ⟨f2, e2, t2⟩ := field_at hty (j := 2) rfl
  obtain ⟨f3, e3, t3⟩ := field_at hty (j := 3) rfl
  obtain ⟨f4, e4, t4⟩ := field_at hty (j := 4) rfl
  obtain ⟨f5, e5, t5⟩ := field_at hty (j := 5) rfl
  obtain ⟨c0, y0, q0, v0, z0⟩ := hg 0 f0 e0
  obtain ⟨c1, y1, q1, v1, z1⟩ := hg 1 f1 e1
  obtain ⟨c2, y2, q2, v2, z2⟩ := hg 2 f2 e2
  obtain ⟨c3, y3, q3, v3, z3⟩ := hg 3 f3 e3
  obtain ⟨c4, y4, q4, v4, z4⟩ := hg 4 f4 e4
  obtain ⟨c5, y5, q5, v5, z5⟩ := hg 5 f5 e5
  rw [t0] at z0
  rw [t1] at z1
  rw [t2] at z2
  rw [t3] at z3
  rw [t4] at z4
  rw [t5] at z5
  obtain ⟨s, u0, hsl, hso, hk⟩ := open_rules (Nat.le_refl n) z0
  obtain ⟨m1, u1, _, _⟩ := DataW.trod_int Tryd.underlying3 z1
  obtain ⟨m2, u2, _, _⟩ := DataW.trod_int Tryd.underlying3 z2
  obtain ⟨m3, u3, _, _⟩ := DataW.trod_int Tryd.underlying3 z3
  obtain ⟨m4, u4, _, _⟩ := DataW.trod_int Tryd.underlying3 z4
  obtain ⟨m5, u5, _, _⟩ := DataW.trod_int Tryd.underlying3 z5
  cases u0
  cases u1
  cases u2
  cases u3
  cases u4
  cases u5
  refine ⟨n, ⟨s, m1, m2, m3, m4, m5⟩, ?_, hsl, hso, ?_⟩
  · rw [six_of (hcs.trans h6) q0 q1 q2 q3 q4 q5]
  · match ys, hyl.trans h6, v0 with
    | [x0, x1, x2, x3, x4, x5], _, v0 =>
      simp at v0
      subst v0
      rw [hd]
      show _ ≤ Rows.uptoBulk x0.1 + (Rows.uptoBulk x1.1 + (Rows.uptoBulk x2.1 + (Rows.uptoBulk x3.1 + (Rows.uptoBulk x4.1 + (Rows.uptoBulk x5.1 + 0))))) + 1
      simp only [] at hk ⊢
      omega

set_option maxRecDepth 100000 in
theorem open_info {v : Value} {d : DataW H} {p : List MemPlace} (hv : Value.okWide Tryd.prog w r b0 40 v) (h : DataW.Trod enc Tryd.prog w 0 (fun _ => true) true 40 v d p) :
    ∃ x : InfoOf, v = .agg (infoArr x) ∧ x.path.size ≤ maxLen ∧ okI x.size ∧ okI x.time ∧ x.path.size + 1 ≤ Rows.uptoBulk d := by
  obtain ⟨fs, hs, hone, h6, hC, hty⟩ := infoOne
  obtain ⟨cs, ys, n, rfl, hcs, hd, hyl, hg⟩ := open_struct hs hone hC hv h
  obtain ⟨f0, e0, t0⟩ := field_at hty (j := 0) rfl
  obtain ⟨f1, e1, t1⟩ := field_at hty (j := 1) rfl
  obtain ⟨f2, e2, t2⟩ := field_at hty (j := 2) rfl
  obtain ⟨f3, e3, t3⟩ := field_at hty (j := 3) rfl
  obtain ⟨f4, e4, t4⟩ := field_at hty (j := 4) rfl
  obtain ⟨f5, e5, t5⟩ := field_at hty (j := 5) rfl
  obtain ⟨f6, e6, t6⟩ := field_at hty (j := 6) rfl
  obtain ⟨c0, y0, q0, v0, z0⟩ := hg 0 f0 e0
  obtain ⟨c1, y1, q1, v1, z1⟩ := hg 1 f1 e1
  obtain ⟨c2, y2, q2, v2, z2⟩ := hg 2 f2 e2
  obtain ⟨c3, y3, q3, v3, z3⟩ := hg 3 f3 e3
  obtain ⟨c4, y4, q4, v4, z4⟩ := hg 4 f4 e4
  obtain ⟨c5, y5, q5, v5, z5⟩ := hg 5 f5 e5
  obtain ⟨c6, y6, q6, v6, z6⟩ := hg 6 f6 e6
  rw [t0] at z0
  rw [t1] at z1
  rw [t2] at z2
  rw [t3] at z3
  rw [t4] at z4
  rw [t5] at z5
  rw [t6] at z6
  obtain ⟨m0, u0, g0, b0⟩ := DataW.trod_string Tryd.underlying9 z0
  obtain ⟨m1, u1, _⟩ := DataW.trod_bool Tryd.underlying4 z1
  obtain ⟨m2, u2, _, b2⟩ := DataW.trod_int Tryd.underlying3 z2
  obtain ⟨m3, u3, _, b3⟩ := DataW.trod_int Tryd.underlying3 z3
  obtain ⟨a4, n4, k4, u4⟩ : ∃ a n c, [c4] = [Value.slice a n c] := by
    rcases DataW.trod_slice Tryd.underlying37 z4 with ⟨u, _⟩ | ⟨a, len, cap, elems, rest, n, _, u, _⟩
    · exact ⟨_, _, _, u⟩
    · exact ⟨_, _, _, u⟩
  obtain ⟨a5, n5, k5, u5⟩ : ∃ a n c, [c5] = [Value.slice a n c] := by
    rcases DataW.trod_slice Tryd.underlying38 z5 with ⟨u, _⟩ | ⟨a, len, cap, elems, rest, n, _, u, _⟩
    · exact ⟨_, _, _, u⟩
    · exact ⟨_, _, _, u⟩
  obtain ⟨m6, u6, _, _⟩ := DataW.trod_string Tryd.underlying9 z6
  cases u0
  cases u1
  cases u2
  cases u3
  cases u4
  cases u5
  cases u6
  refine ⟨⟨m0, m1, m2, m3, a4, n4, k4, a5, n5, k5, m6⟩, ?_, b0, bounds_i64 b2, bounds_i64 b3, ?_⟩
  · rw [seven_of (hcs.trans h6) q0 q1 q2 q3 q4 q5 q6]
  · match ys, hyl.trans h6, v0 with
    | [x0, x1, x2, x3, x4, x5, x6], _, v0 =>
      simp at v0
      subst v0
      rw [hd]
      have j1 : Rows.uptoBulk x0.1 = m0.size + 1 := by rw [g0, Lib.size_eq]; rfl
      show _ ≤ Rows.uptoBulk x0.1 + (Rows.uptoBulk x1.1 + (Rows.uptoBulk x2.1 + (Rows.uptoBulk x3.1 + (Rows.uptoBulk x4.1 + (Rows.uptoBulk x5.1 + (Rows.uptoBulk x6.1 + 0)))))) + 1
      simp only []
      omega

set_option maxRecDepth 100000 in
theorem open_glob {v : Value} {d : DataW H} {p : List MemPlace} (hv : Value.okWide Tryd.prog w r b0 24 v) (h : DataW.Trod enc Tryd.prog w 0 (fun _ => true) true 24 v d p) :
    ∃ (D : Nat) (rooted dirs : Bool) (s : Sl (P D)), v = .agg #[.bool rooted, .bool dirs, .slice s.a s.xs.length s.c] ∧ SOk w D s ∧ szL D s.xs + 1 ≤ Rows.uptoBulk d := by
  obtain ⟨cs, rfl, hsz⟩ := okWide_struct Tryd.underlying24 hv
  obtain ⟨fuel, hf⟩ := h
  obtain ⟨rooted, dirs, s, hc, hs, hk⟩ := open_glob3 (Nat.le_refl fuel) (by show cs.toList.length = 3; rw [Array.length_toList, hsz, cells_glob3]) hf
  refine ⟨fuel, rooted, dirs, s, ?_, hs, hk⟩
  have hc : cs.toList = [.bool rooted, .bool dirs, s.val] := hc
  congr 1
  exact Array.toList_inj.1 hc
end
end Go.Proofs.YtnpcbcnclncniaaDoor
