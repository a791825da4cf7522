/-
  What a row's list of laid variables gives: the library's table of powers; and a world that lays it.
-/
import Derived.Test.YtikegddlbelfaaaGreatDoorRow
import Derived.Test.YtikegddlbelfaaaGreatDoorNum
import Derived.Lib.LaidU8
import Derived.LaidLaws
namespace Go.Proofs.YtikegddlbelfaaaGreatDoor
open Go.ChangeShapes Go.WideShapes Go.ChangeAt Go.RowKit

theorem laid_no_handle {P : Program} {l : List (String × DataW Unit)} {W : World} (hl : (l.filter fun x => x.2.handleName?.isSome) = []) (h : laidMetH P l W) : laidMet P l W := by
  unfold laidMetH at h
  rw [hl] at h
  exact h

theorem powData : (Rows.laid_internal_strconv_uint64pow10 : DataW Unit) = Lib.tabData .u64 Lib.pow10Tab := by rfl

theorem envT_of {W : World} (h : Lib.VarReads Tryz.prog W "internal/strconv.uint64pow10" Rows.laid_internal_strconv_uint64pow10) : EnvT W := by
  obtain ⟨g, t, cs, fuel, p, hg, hty, hvar, hd⟩ := h
  obtain rfl : 3 = g := Option.some.inj ((show Tryz.prog.globalNamed "internal/strconv.uint64pow10" = some 3 by kernel_rfl).symm.trans hg)
  obtain rfl : 204 = t := Option.some.inj ((show (Tryz.prog.globals[3]?).map (·.type) = some 204 by kernel_rfl).symm.trans hty)
  rw [powData] at hd
  have hc := Lib.cells_of_tab Tryz.underlying204 Tryz.underlying182 (by kernel_rfl) (by kernel_rfl) hd
  unfold EnvT Lib.TabIs
  rw [hvar, ← hc]

/-- A block's cells laid anew. -/
def layVals (cs : List Value) (o : Obj) : Obj := match o with
  | .cells _ t frozen => .cells cs.toArray t frozen
  | o => o

def nums (k : IntKind) : List (DataW Unit) → List Value
  | .lit (.int _ n) :: r => .int k n :: nums k r
  | _ => []
def numsOf (k : IntKind) : DataW Unit → List Value
  | .agg l => nums k l
  | _ => []

/-- A world for the witnesses, with all that the rows on printed numbers list. -/
noncomputable def laidWorldT (os : Os) : World :=
  { laidWorld os with heap := ((((laidWorld os).heap.modify 3 (layVals (numsOf .u64 Rows.laid_internal_strconv_uint64pow10))).modify 4 (layVals (numsOf .u8 Rows.laid_math_bits_deBruijn32tab))).modify 5 (layVals (numsOf .u8 Rows.laid_math_bits_deBruijn64tab))) }
end Go.Proofs.YtikegddlbelfaaaGreatDoor
