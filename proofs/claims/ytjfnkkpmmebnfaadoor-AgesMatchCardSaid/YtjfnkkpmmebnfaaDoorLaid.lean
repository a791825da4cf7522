/-
  What a row's list of laid variables gives: the library's table of powers, its error variable; and a world that lays them.
-/
import Derived.Test.YtjfnkkpmmebnfaaDoorRow
import Derived.Test.YtjfnkkpmmebnfaaDoorSize5
import Derived.Lib.LaidU8
import Derived.LaidLaws
namespace Go.Proofs.YtjfnkkpmmebnfaaDoor
open Go.ChangeShapes Go.WideShapes Go.ChangeAt Go.RowKit

theorem laid_no_handle {P : Program} {l : List (String × DataW Unit)} {W : World} (hl : (l.filter fun x => x.2.handleName?.isSome) = []) (h : laidMetH P l W) : laidMet P l W := by
  unfold laidMetH at h
  rw [hl] at h
  exact h

theorem powData : (Rows.laid_internal_strconv_uint64pow10 : DataW Unit) = Lib.tabData .u64 Lib.pow10Tab := by rfl

theorem envT_of {W : World} (h : Lib.VarReads Tryd.prog W "internal/strconv.uint64pow10" Rows.laid_internal_strconv_uint64pow10) : EnvT W := by
  obtain ⟨g, t, cs, fuel, p, hg, hty, hvar, hd⟩ := h
  obtain rfl : 3 = g := Option.some.inj ((show Tryd.prog.globalNamed "internal/strconv.uint64pow10" = some 3 by kernel_rfl).symm.trans hg)
  obtain rfl : 254 = t := Option.some.inj ((show (Tryd.prog.globals[3]?).map (·.type) = some 254 by kernel_rfl).symm.trans hty)
  rw [powData] at hd
  have hc := Lib.cells_of_tab Tryd.underlying254 Tryd.underlying144 (by kernel_rfl) (by kernel_rfl) hd
  unfold EnvT Lib.TabIs
  rw [hvar, ← hc]

theorem envE_of {W : World} (h : Lib.VarReads Tryd.prog W "strconv.ErrRange" Rows.laid_strconv_ErrRange) : EnvE W := by
  obtain ⟨g, t, cs, fuel, p, hg, hty, hvar, hd⟩ := h
  obtain rfl : 2 = g := Option.some.inj ((show Tryd.prog.globalNamed "strconv.ErrRange" = some 2 by kernel_rfl).symm.trans hg)
  obtain rfl : 120 = t := Option.some.inj ((show (Tryd.prog.globals[2]?).map (·.type) = some 120 by kernel_rfl).symm.trans hty)
  obtain ⟨_, u, v, hcs, _, _⟩ := iface_of_trod Tryd.underlying120 hd
  have hc := World.var?_cell hg hvar 0
  have e : cs[0]? = some (.iface u v) := by
    have := congrArg (·[0]?) hcs
    simpa using this
  rw [e] at hc
  exact ⟨_, hc, .inr ⟨u, v, rfl⟩⟩

/-- A block's cells laid anew. -/
def layVals (cs : List Value) (o : Obj) : Obj := match o with
  | .cells _ t frozen => .cells cs.toArray t frozen
  | o => o

def nums (k : IntKind) : List (DataW Unit) → List Value
  | .lit (.int _ n) :: r => .int k n :: nums k r
  | _ => []
def numsOf (k : IntKind) : DataW Unit → List Value
  | .agg l => nums k l
  | _ => []
def textOf : DataW Unit → ByteArray
  | .iface _ (.ptr (.agg [.lit (.string s)])) => ⟨s.toArray⟩
  | _ => ⟨#[]⟩

/-- A world for the witnesses, with all that the rows on numbers list. -/
noncomputable def laidWorld2 (os : Os) : World :=
  { laidWorld os with heap := ((((((laidWorld os).heap.modify 3 (layVals (numsOf .u64 Rows.laid_internal_strconv_uint64pow10))).modify 6 (layVals (numsOf .u8 Rows.laid_math_bits_deBruijn32tab))).modify 7 (layVals (numsOf .u8 Rows.laid_math_bits_deBruijn64tab))).modify 2 (layVals [.iface 264 (.pointer (some ⟨(laidWorld os).heap.size, 0, none⟩))])).modify 1 (layVals [.iface 264 (.pointer (some ⟨(laidWorld os).heap.size + 1, 0, none⟩))])).push (.cells #[.string (textOf Rows.laid_strconv_ErrRange)] 266) |>.push (.cells #[.string (textOf Rows.laid_strconv_ErrSyntax)] 266) }
end Go.Proofs.YtjfnkkpmmebnfaaDoor
