/-
  alike of two equal plans.
-/
import Derived.Test.YtfenmeacimfiaaaGreatDoorPw10
import Derived.BigQuiet
import Derived.Laws.StructEq
namespace Go.Proofs.YtfenmeacimfiaaaGreatDoor
open Go.RowKit

theorem neqStepP (c : PStep) (w : World) : (binOp .neq 154 (.agg #[.int .i64 c.kind, .string c.path, .string c.dst, .int .i64 c.size, .int .i64 c.time]) (.agg #[.int .i64 c.kind, .string c.path, .string c.dst, .int .i64 c.size, .int .i64 c.time])).run Tryz.prog w = .ok (.bool false) w := by
  have u0 := Tryz.underlying3
  have u1 := Tryz.underlying9
  have hS : Tryz.prog.underlying 154 = some (.struct (Tryz.prog.fieldsOf 154)) := by kernel_rfl
  have hp : Tryz.prog.stoodInHeld 154 = false := by kernel_rfl
  rw [run_neq_struct, show (10000 : Nat) = 9999 + 1 from rfl, run_equalIn_agg w 9999 154 _ _ hS hp]
  simp only [Program.fieldsOf, Tryz.underlying154]
  go_simp

set_option maxHeartbeats 2000000 in
theorem equalStepP_any (cs : List PStep) (a1 a2 : Option Addr) (c1 c2 : Nat) (w : World) (h1 : HoldsR w a1 5 (cs.map stepCells)) (h2 : HoldsR w a2 5 (cs.map stepCells)) (hl : cs.length ≤ 2000000) :
    Calls Tryz.prog 156 #[.slice a1 cs.length c1, .slice a2 cs.length c2] w fun e w' => e = .returned (.bool true) ∧ Below w.heap.size w w' := by
  have H1 := Lib.hid h1
  have H2 := Lib.hid h2
  have hg : Tryz.prog.eqGuardType Tryz.prog.depth 154 = false := by kernel_rfl
  clear h1 h2
  generalize hn : cs.length = N at *
  have HN := Lib.hid hn
  clear hn
  go_enter Tryz.func156, Tryz.ntmps156
  go_wp2_with fail
  go_loopg [13] N (fun g i wx => ∃ k : Nat, k + g = N ∧ i = .int .i64 k ∧ Below w.heap.size w wx)
  case atStart => exact ⟨0, by omega, rfl, Below.refl _ _⟩
  case round =>
    obtain ⟨k, hk, rfl, hb⟩ := hrel
    by_cases hlt : k < N
    · obtain ⟨g, rfl⟩ : ∃ g, gk = g + 1 := ⟨gk - 1, by omega⟩
      obtain ⟨c, hc⟩ : ∃ c, cs[k]? = some c := ⟨_, List.getElem?_eq_getElem (by rw [HN.out]; exact hlt)⟩
      obtain ⟨b1, o1, e1, hb1, p0, p1, p2, p3, p4⟩ := stepRow (H1.out.under hb) hc
      obtain ⟨b2, o2, e2, hb2, q0, q1, q2, q3, q4⟩ := stepRow (H2.out.under hb) hc
      subst e1 e2
      have hne := neqStepP c
      have hI : (k : Int) < (N : Int) := by omega
      have hI0 : (0 : Int) ≤ (k : Int) := by omega
      clear hc
      go_wp2_with fail
      go_quiet (fail)
      go_wp2_with fail
      go_roundg g
      case measure => omega
      case rel => exact ⟨k + 1, by omega, by go_num, bDrewN hb _⟩
    · have hI : ¬ (k : Int) < (N : Int) := by omega
      go_wp2_with fail
      go_ret
      exact ⟨rfl, hb⟩

set_option maxHeartbeats 2000000 in
theorem listStepP_any (cs : List PStep) (a1 a2 : Option Addr) (c1 c2 : Nat) (w : World) (h1 : HoldsR w a1 5 (cs.map stepCells)) (h2 : HoldsR w a2 5 (cs.map stepCells)) (hl : cs.length ≤ 2000000) :
    Calls Tryz.prog 101 #[.slice a1 cs.length c1, .slice a2 cs.length c2] w fun e w' => e = .returned (.bool true) ∧ Below w.heap.size w w' := by
  have HE := Lib.hid (equalStepP_any cs a1 a2 c1 c2 w h1 h2 hl)
  clear h1 h2
  go_enter Tryz.func101, Tryz.ntmps101
  go_wp2_with (go_at_call 156; refine HE.out.mono ?_; rintro e w2 ⟨rfl, hb2⟩)
  go_ret
  exact ⟨rfl, hb2⟩

theorem neqRefP (c : PRef) (w : World) : (binOp .neq 151 (.agg #[.string c.path, .int .i64 c.err]) (.agg #[.string c.path, .int .i64 c.err])).run Tryz.prog w = .ok (.bool false) w := by
  have u0 := Tryz.underlying3
  have u1 := Tryz.underlying9
  have u2 := Tryz.underlying27
  have hS : Tryz.prog.underlying 151 = some (.struct (Tryz.prog.fieldsOf 151)) := by kernel_rfl
  have hp : Tryz.prog.stoodInHeld 151 = false := by kernel_rfl
  rw [run_neq_struct, show (10000 : Nat) = 9999 + 1 from rfl, run_equalIn_agg w 9999 151 _ _ hS hp]
  simp only [Program.fieldsOf, Tryz.underlying151]
  go_simp

set_option maxHeartbeats 2000000 in
theorem equalRefP_any (cs : List PRef) (a1 a2 : Option Addr) (c1 c2 : Nat) (w : World) (h1 : HoldsR w a1 2 (cs.map refCells)) (h2 : HoldsR w a2 2 (cs.map refCells)) (hl : cs.length ≤ 2000000) :
    Calls Tryz.prog 150 #[.slice a1 cs.length c1, .slice a2 cs.length c2] w fun e w' => e = .returned (.bool true) ∧ Below w.heap.size w w' := by
  have H1 := Lib.hid h1
  have H2 := Lib.hid h2
  have hg : Tryz.prog.eqGuardType Tryz.prog.depth 151 = false := by kernel_rfl
  clear h1 h2
  generalize hn : cs.length = N at *
  have HN := Lib.hid hn
  clear hn
  go_enter Tryz.func150, Tryz.ntmps150
  go_wp2_with fail
  go_loopg [13] N (fun g i wx => ∃ k : Nat, k + g = N ∧ i = .int .i64 k ∧ Below w.heap.size w wx)
  case atStart => exact ⟨0, by omega, rfl, Below.refl _ _⟩
  case round =>
    obtain ⟨k, hk, rfl, hb⟩ := hrel
    by_cases hlt : k < N
    · obtain ⟨g, rfl⟩ : ∃ g, gk = g + 1 := ⟨gk - 1, by omega⟩
      obtain ⟨c, hc⟩ : ∃ c, cs[k]? = some c := ⟨_, List.getElem?_eq_getElem (by rw [HN.out]; exact hlt)⟩
      obtain ⟨b1, o1, e1, hb1, p0, p1⟩ := prefRow (H1.out.under hb) hc
      obtain ⟨b2, o2, e2, hb2, q0, q1⟩ := prefRow (H2.out.under hb) hc
      subst e1 e2
      have hne := neqRefP c
      have hI : (k : Int) < (N : Int) := by omega
      have hI0 : (0 : Int) ≤ (k : Int) := by omega
      clear hc
      go_wp2_with fail
      go_quiet (fail)
      go_wp2_with fail
      go_roundg g
      case measure => omega
      case rel => exact ⟨k + 1, by omega, by go_num, bDrewN hb _⟩
    · have hI : ¬ (k : Int) < (N : Int) := by omega
      go_wp2_with fail
      go_ret
      exact ⟨rfl, hb⟩

set_option maxHeartbeats 2000000 in
theorem listRefP_any (cs : List PRef) (a1 a2 : Option Addr) (c1 c2 : Nat) (w : World) (h1 : HoldsR w a1 2 (cs.map refCells)) (h2 : HoldsR w a2 2 (cs.map refCells)) (hl : cs.length ≤ 2000000) :
    Calls Tryz.prog 91 #[.slice a1 cs.length c1, .slice a2 cs.length c2] w fun e w' => e = .returned (.bool true) ∧ Below w.heap.size w w' := by
  have HE := Lib.hid (equalRefP_any cs a1 a2 c1 c2 w h1 h2 hl)
  clear h1 h2
  go_enter Tryz.func91, Tryz.ntmps91
  go_wp2_with (go_at_call 150; refine HE.out.mono ?_; rintro e w2 ⟨rfl, hb2⟩)
  go_ret
  exact ⟨rfl, hb2⟩

theorem planAs0 (v : Value) (w : World) : (Instr.typeAssert (.iface 26 v) 20 62 true).run Tryz.prog w = .ok (.tuple #[.agg #[.int .i64 0, .int .i64 0, .slice none 0 0, .slice none 0 0], .bool false]) w := by kernel_rfl
theorem planAs1 (v : Value) (w : World) : (Instr.typeAssert (.iface 26 v) 20 60 true).run Tryz.prog w = .ok (.tuple #[.slice none 0 0, .bool false]) w := by kernel_rfl
theorem planAs2 (v : Value) (w : World) : (Instr.typeAssert (.iface 26 v) 20 67 true).run Tryz.prog w = .ok (.tuple #[.slice none 0 0, .bool false]) w := by kernel_rfl
theorem planAs3 (v : Value) (w : World) : (Instr.typeAssert (.iface 26 v) 20 70 true).run Tryz.prog w = .ok (.tuple #[.slice none 0 0, .bool false]) w := by kernel_rfl
theorem planAs4 (v : Value) (w : World) : (Instr.typeAssert (.iface 26 v) 20 73 true).run Tryz.prog w = .ok (.tuple #[.slice none 0 0, .bool false]) w := by kernel_rfl
theorem planAs5 (v : Value) (w : World) : (Instr.typeAssert (.iface 26 v) 20 78 true).run Tryz.prog w = .ok (.tuple #[.agg #[.slice none 0 0, .slice none 0 0, .slice none 0 0, .slice none 0 0], .bool false]) w := by kernel_rfl
theorem planAs6 (v : Value) (w : World) : (Instr.typeAssert (.iface 26 v) 20 84 true).run Tryz.prog w = .ok (.tuple #[.agg #[.slice none 0 0, .slice none 0 0, .int .i64 0, .int .i64 0, .int .i64 0], .bool false]) w := by kernel_rfl
theorem planAs7 (v : Value) (w : World) : (Instr.typeAssert (.iface 26 v) 20 90 true).run Tryz.prog w = .ok (.tuple #[.agg #[.string ByteArray.empty, .bool false, .int .i64 0, .int .i64 0, .slice none 0 0, .slice none 0 0, .string ByteArray.empty], .bool false]) w := by kernel_rfl
theorem planAs8 (v : Value) (w : World) : (Instr.typeAssert (.iface 26 v) 20 93 true).run Tryz.prog w = .ok (.tuple #[.slice none 0 0, .bool false]) w := by kernel_rfl
theorem planAs9 (v : Value) (w : World) : (Instr.typeAssert (.iface 26 v) 20 49 true).run Tryz.prog w = .ok (.tuple #[.slice none 0 0, .bool false]) w := by kernel_rfl
theorem planAs10 (v : Value) (w : World) : (Instr.typeAssert (.iface 26 v) 20 98 true).run Tryz.prog w = .ok (.tuple #[.slice none 0 0, .bool false]) w := by kernel_rfl
theorem planAs11 (v : Value) (w : World) : (Instr.typeAssert (.iface 26 v) 20 81 true).run Tryz.prog w = .ok (.tuple #[.slice none 0 0, .bool false]) w := by kernel_rfl
theorem planAs12 (v : Value) (w : World) : (Instr.typeAssert (.iface 26 v) 20 34 true).run Tryz.prog w = .ok (.tuple #[.agg #[.bool false, .bool false, .slice none 0 0], .bool false]) w := by kernel_rfl
theorem planAs13 (v : Value) (w : World) : (Instr.typeAssert (.iface 26 v) 20 41 true).run Tryz.prog w = .ok (.tuple #[.slice none 0 0, .bool false]) w := by kernel_rfl
theorem planAsPlan (v : Value) (w : World) : (Instr.typeAssert (.iface 26 v) 20 26 true).run Tryz.prog w = .ok (.tuple #[v, .bool true]) w := by kernel_rfl

theorem box_two (w : World) (us vs : Array Value) (t : TypeId) : BoxIs ((w.alloc (.cells us t)).alloc (.cells vs t)) w.heap.size us t ∧ BoxIs ((w.alloc (.cells us t)).alloc (.cells vs t)) (w.heap.size + 1) vs t ∧ Below w.heap.size w ((w.alloc (.cells us t)).alloc (.cells vs t)) := by
  have h2 := BoxIs.new (w.alloc (.cells us t)) vs t
  have hz : (w.alloc (.cells us t)).heap.size = w.heap.size + 1 := by simp
  rw [hz] at h2
  exact ⟨(BoxIs.new w _ _).under (bAlloc (Below.refl _ _) _), h2, bAlloc (bAlloc (Below.refl _ _) _) _⟩

set_option maxHeartbeats 4000000 in
set_option maxRecDepth 100000 in
theorem eqPlan_any (S : List PStep) (R : List PRef) (a b : Int) (sa sa2 ra ra2 : Option Addr) (sc sc2 rc rc2 : Nat) (w : World) (h1 : HoldsR w sa 5 (S.map stepCells)) (h2 : HoldsR w sa2 5 (S.map stepCells)) (h3 : HoldsR w ra 2 (R.map refCells)) (h4 : HoldsR w ra2 2 (R.map refCells)) (hl : S.length + R.length ≤ 2000000) :
    Calls Tryz.prog 43 #[.agg #[.slice sa S.length sc, .slice ra R.length rc, .int .i64 a, .int .i64 b], .agg #[.slice sa2 S.length sc2, .slice ra2 R.length rc2, .int .i64 a, .int .i64 b]] w fun e w' => e = .returned (.bool true) ∧ Below w.heap.size w w' := by
  have HS := Lib.hid (fun W (hb : Below w.heap.size w W) => listStepP_any S sa sa2 sc sc2 W (h1.under hb) (h2.under hb) (by omega))
  have HR := Lib.hid (fun W (hb : Below w.heap.size w W) => listRefP_any R ra ra2 rc rc2 W (h3.under hb) (h4.under hb) (by omega))
  have HB := Lib.hid (box_two w #[.slice sa S.length sc, .slice ra R.length rc, .int .i64 a, .int .i64 b] #[.slice sa2 S.length sc2, .slice ra2 R.length rc2, .int .i64 a, .int .i64 b] planTy)
  clear h1 h2 h3 h4 hl
  generalize S.length = NS at *
  generalize R.length = NR at *
  go_enter Tryz.func43, Tryz.ntmps43
  go_upto_region 1 with fail
  generalize (w.alloc _).alloc _ = w1 at *
  have c0 := HB.out.1.cell (j := 0) rfl; have c1 := HB.out.1.cell (j := 1) rfl; have c2 := HB.out.1.cell (j := 2) rfl; have c3 := HB.out.1.cell (j := 3) rfl; have k0 := HB.out.2.1.cell (j := 0) rfl; have k1 := HB.out.2.1.cell (j := 1) rfl; have k2 := HB.out.2.1.cell (j := 2) rfl; have k3 := HB.out.2.1.cell (j := 3) rfl
  go_wp2_with (first | (go_at_call 101; refine (HS.out _ HB.out.2.2).mono ?_; rintro e w2 ⟨rfl, hb2⟩; have HB2 := Lib.hid (And.intro (HB.out.1.under hb2) (And.intro (HB.out.2.1.under hb2) (bTrans HB.out.2.2 hb2))); have c0 := HB2.out.1.cell (j := 0) rfl; have c1 := HB2.out.1.cell (j := 1) rfl; have c2 := HB2.out.1.cell (j := 2) rfl; have c3 := HB2.out.1.cell (j := 3) rfl; have k0 := HB2.out.2.1.cell (j := 0) rfl; have k1 := HB2.out.2.1.cell (j := 1) rfl; have k2 := HB2.out.2.1.cell (j := 2) rfl; have k3 := HB2.out.2.1.cell (j := 3) rfl) | (go_at_call 91; refine (HR.out _ HB2.out.2.2).mono ?_; rintro e w3 ⟨rfl, hb3⟩; have HB3 := Lib.hid (And.intro (HB2.out.1.under hb3) (And.intro (HB2.out.2.1.under hb3) (bTrans HB2.out.2.2 hb3))); have c0 := HB3.out.1.cell (j := 0) rfl; have c1 := HB3.out.1.cell (j := 1) rfl; have c2 := HB3.out.1.cell (j := 2) rfl; have c3 := HB3.out.1.cell (j := 3) rfl; have k0 := HB3.out.2.1.cell (j := 0) rfl; have k1 := HB3.out.2.1.cell (j := 1) rfl; have k2 := HB3.out.2.1.cell (j := 2) rfl; have k3 := HB3.out.2.1.cell (j := 3) rfl))
  go_ret
  exact ⟨rfl, HB3.out.2.2⟩

set_option maxHeartbeats 4000000 in
set_option maxRecDepth 100000 in
theorem alikePlan_any (S : List PStep) (R : List PRef) (a b : Int) (sa sa2 ra ra2 : Option Addr) (sc sc2 rc rc2 : Nat) (w : World) (h1 : HoldsR w sa 5 (S.map stepCells)) (h2 : HoldsR w sa2 5 (S.map stepCells)) (h3 : HoldsR w ra 2 (R.map refCells)) (h4 : HoldsR w ra2 2 (R.map refCells)) (hl : S.length + R.length ≤ 2000000) :
    Calls Tryz.prog 11 #[.iface 26 (.agg #[.slice sa S.length sc, .slice ra R.length rc, .int .i64 a, .int .i64 b]), .iface 26 (.agg #[.slice sa2 S.length sc2, .slice ra2 R.length rc2, .int .i64 a, .int .i64 b])] w fun e w' => e = .returned (.bool true) ∧ Below w.heap.size w w' := by
  have HK := Lib.hid (fun W (hb : Below w.heap.size w W) => eqPlan_any S R a b sa sa2 ra ra2 sc sc2 rc rc2 W (h1.under hb) (h2.under hb) (h3.under hb) (h4.under hb) hl)
  have HB := Lib.hid (box_two w #[.slice sa S.length sc, .slice ra R.length rc, .int .i64 a, .int .i64 b] #[.slice sa2 S.length sc2, .slice ra2 R.length rc2, .int .i64 a, .int .i64 b] planTy)
  have has0 := @planAs0
  have has1 := @planAs1
  have has2 := @planAs2
  have has3 := @planAs3
  have has4 := @planAs4
  have has5 := @planAs5
  have has6 := @planAs6
  have has7 := @planAs7
  have has8 := @planAs8
  have has9 := @planAs9
  have has10 := @planAs10
  have has11 := @planAs11
  have has12 := @planAs12
  have has13 := @planAs13
  have hasP := @planAsPlan
  clear h1 h2 h3 h4 hl
  generalize S.length = NS at *
  generalize R.length = NR at *
  go_enter Tryz.func11, Tryz.ntmps11
  go_upto_region 61 with fail
  generalize (w.alloc _).alloc _ = w1 at *
  have c0 := HB.out.1.cell (j := 0) rfl; have c1 := HB.out.1.cell (j := 1) rfl; have c2 := HB.out.1.cell (j := 2) rfl; have c3 := HB.out.1.cell (j := 3) rfl; have k0 := HB.out.2.1.cell (j := 0) rfl; have k1 := HB.out.2.1.cell (j := 1) rfl; have k2 := HB.out.2.1.cell (j := 2) rfl; have k3 := HB.out.2.1.cell (j := 3) rfl
  go_wp2_with (go_at_call 43; refine (HK.out _ HB.out.2.2).mono ?_; rintro e w2 ⟨rfl, hb2⟩)
  go_ret
  exact ⟨rfl, bTrans HB.out.2.2 hb2⟩
end Go.Proofs.YtfenmeacimfiaaaGreatDoor
