/-
  alike of two equal slices of changes; the law ChangesMatch.
-/
import Derived.Test.YtiliijiohmeagaaGreatDoorChg8
import Derived.Test.YtiliijiohmeagaaGreatDoorChg6
import Derived.Test.YtiliijiohmeagaaGreatDoorPaths
namespace Go.Proofs.YtiliijiohmeagaaGreatDoor
open Go.RowKit

theorem asState (v : Value) (w : World) : (Instr.typeAssert (.iface 45 v) 20 106 true).run Tryz.prog w = .ok (.tuple #[.agg #[.int .i64 0, .int .i64 0, .slice none 0 0, .slice none 0 0], .bool false]) w := by kernel_rfl
theorem asMarks (v : Value) (w : World) : (Instr.typeAssert (.iface 45 v) 20 44 true).run Tryz.prog w = .ok (.tuple #[.slice none 0 0, .bool false]) w := by kernel_rfl
theorem asChanges (v : Value) (w : World) : (Instr.typeAssert (.iface 45 v) 20 45 true).run Tryz.prog w = .ok (.tuple #[v, .bool true]) w := by kernel_rfl

set_option maxHeartbeats 4000000 in
set_option maxRecDepth 100000 in
theorem alikeSame_any (cs : List Wh.Change) (a1 a2 : Option Addr) (c1 c2 : Nat) (w : World) (h1 : HoldsR w a1 2 (cs.map chgCells)) (h2 : HoldsR w a2 2 (cs.map chgCells)) (hl : cs.length ≤ 5864062014634) :
    Calls Tryz.prog 15 #[.iface 45 (.slice a1 cs.length c1), .iface 45 (.slice a2 cs.length c2)] w fun e w' => e = .returned (.bool true) ∧ Below w.heap.size w w' := by
  have ha1 := @asState
  have ha2 := @asMarks
  have ha3 := @asChanges
  have HE := Lib.hid (fun W (hb : Below w.heap.size w W) => listeqSame_any cs a1 a2 c1 c2 W (h1.under hb) (h2.under hb) hl)
  clear h1 h2
  generalize cs.length = N at *
  go_enter Tryz.func15, Tryz.ntmps15
  go_wp2_with (go_at_call 42; refine (HE.out _ (Below.refl _ _)).mono ?_; rintro e w2 ⟨rfl, hb2⟩)
  go_ret
  exact ⟨rfl, hb2⟩
end Go.Proofs.YtiliijiohmeagaaGreatDoor
