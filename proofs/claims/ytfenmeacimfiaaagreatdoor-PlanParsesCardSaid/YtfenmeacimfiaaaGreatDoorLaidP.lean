/-
  What a row's list of laid variables gives PlanParses: the table of powers, the library's error variables, the words of steps; and a world that lays them.
-/
import Derived.Test.YtfenmeacimfiaaaGreatDoorLaidT
import Derived.Test.YtfenmeacimfiaaaGreatDoorPw6
namespace Go.Proofs.YtfenmeacimfiaaaGreatDoor
open Go.ChangeShapes Go.WideShapes Go.ChangeAt Go.RowKit

theorem errRange_of {W : World} (h : Lib.VarReads Tryz.prog W "strconv.ErrRange" Rows.laid_strconv_ErrRange) : ∃ ev, W.cell? ⟨3, 0, none⟩ = some ev ∧ (ev = .nilIface ∨ ∃ te pe, ev = .iface te pe) := by
  obtain ⟨g, t, cs, fuel, p, hg, hty, hvar, hd⟩ := h
  obtain rfl : 3 = g := Option.some.inj ((show Tryz.prog.globalNamed "strconv.ErrRange" = some 3 by kernel_rfl).symm.trans hg)
  obtain rfl : 141 = t := Option.some.inj ((show (Tryz.prog.globals[3]?).map (·.type) = some 141 by kernel_rfl).symm.trans hty)
  obtain ⟨_, u, v, hcs, _, _⟩ := iface_of_trod Tryz.underlying141 hd
  have hc := World.var?_cell hg hvar 0
  have e : cs[0]? = some (.iface u v) := by
    have := congrArg (·[0]?) hcs
    simpa using this
  rw [e] at hc
  exact ⟨_, hc, .inr ⟨u, v, rfl⟩⟩
theorem errSyntax_of {W : World} (h : Lib.VarReads Tryz.prog W "strconv.ErrSyntax" Rows.laid_strconv_ErrSyntax) : ∃ ev, W.cell? ⟨2, 0, none⟩ = some ev ∧ (ev = .nilIface ∨ ∃ te pe, ev = .iface te pe) := by
  obtain ⟨g, t, cs, fuel, p, hg, hty, hvar, hd⟩ := h
  obtain rfl : 2 = g := Option.some.inj ((show Tryz.prog.globalNamed "strconv.ErrSyntax" = some 2 by kernel_rfl).symm.trans hg)
  obtain rfl : 141 = t := Option.some.inj ((show (Tryz.prog.globals[2]?).map (·.type) = some 141 by kernel_rfl).symm.trans hty)
  obtain ⟨_, u, v, hcs, _, _⟩ := iface_of_trod Tryz.underlying141 hd
  have hc := World.var?_cell hg hvar 0
  have e : cs[0]? = some (.iface u v) := by
    have := congrArg (·[0]?) hcs
    simpa using this
  rw [e] at hc
  exact ⟨_, hc, .inr ⟨u, v, rfl⟩⟩
theorem envX_of {W : World} (h1 : Lib.VarReads Tryz.prog W "strconv.ErrRange" Rows.laid_strconv_ErrRange) (h2 : Lib.VarReads Tryz.prog W "strconv.ErrSyntax" Rows.laid_strconv_ErrSyntax) : EnvX W := ⟨errRange_of h1, errSyntax_of h2⟩

/-- A table of texts. -/
def strData {H : Type} (zs : List (List UInt8)) : DataW H := .agg (zs.map fun z => .lit (.string z))
theorem cells_of_strs {H : Type} {enc : TypeId × Value → H} {Pr : Program} {w : World} {base : Nat} {sp : Nat → Bool} {held : Bool} {fuel : Nat} {t e : TypeId} {n : Nat} {cs : List Value} {zs : List (List UInt8)} {p : List MemPlace}
    (ht : Pr.underlying t = some (.array n e)) (he : Pr.underlying e = some .string) (hce : Pr.cellsOf e = 1) (hct : Pr.cellsOf t = n)
    (h : DataW.trod enc Pr w base sp held fuel t cs = some (strData zs, p)) : ∀ (i : Nat) (z : List UInt8), zs[i]? = some z → cs[i]? = some (.string ⟨z.toArray⟩) := by
  cases fuel with
  | zero => simp [DataW.trod] at h
  | succ fuel =>
    simp only [DataW.trod, ht, hce, hct, Nat.mul_one] at h
    split at h
    · rename_i hl
      obtain ⟨xs, hm, hx⟩ := Option.map_eq_some_iff.1 h
      have hxs : xs.map (·.1) = zs.map fun z => (DataW.lit (.string z) : DataW H) := by
        have := congrArg Prod.fst hx
        simpa [strData] using this
      have hxl : xs.length = n := by simpa using Lib.mapM_length hm
      have hzl : zs.length = n := by
        have := congrArg List.length hxs
        simp at this
        omega
      intro i z hz
      have hi : i < n := by
        have := (List.getElem?_eq_some_iff.1 hz).1
        omega
      obtain ⟨b, hb, hf⟩ := Lib.mapM_at hm i i (by simp [hi])
      obtain ⟨s, hc, rfl, _⟩ := DataW.trod_string he hf
      have h1 : cs[i]? = some (.string s) := by
        have := congrArg (·[0]?) hc
        simpa [List.getElem?_take, List.getElem?_drop] using this
      have h2 : (xs.map (·.1))[i]? = some (DataW.lit (.string s.data.toList) : DataW H) := by simp [hb]
      rw [hxs] at h2
      simp only [List.getElem?_map, Option.map_eq_some_iff, DataW.lit.injEq, Lit.string.injEq] at h2
      obtain ⟨z', hz', e2⟩ := h2
      rw [hz] at hz'
      injection hz' with hz'
      rw [h1, hz', e2]
    · cases h
theorem stepData : (Rows.laid_wherryman_plan_stepWords : DataW Unit) = strData Wh.stepW := by rfl
theorem envS_of {W : World} (h : Lib.VarReads Tryz.prog W "wherryman/plan.stepWords" Rows.laid_wherryman_plan_stepWords) : EnvS W := by
  obtain ⟨g, t, cs, fuel, p, hg, hty, hvar, hd⟩ := h
  obtain rfl : 0 = g := Option.some.inj ((show Tryz.prog.globalNamed "wherryman/plan.stepWords" = some 0 by kernel_rfl).symm.trans hg)
  obtain rfl : 152 = t := Option.some.inj ((show (Tryz.prog.globals[0]?).map (·.type) = some 152 by kernel_rfl).symm.trans hty)
  rw [stepData] at hd
  have hc := cells_of_strs Tryz.underlying152 Tryz.underlying9 (by kernel_rfl) (by kernel_rfl) hd
  intro k hk
  rw [World.var?_cell hg hvar k]
  have hl : ∀ k, k ≤ 10 → Wh.stepW[k]? = some (Wh.stepW.getD k []) := by
    intro k hk
    rw [List.getD_eq_getElem?_getD, List.getElem?_eq_getElem (by show k < 11; omega)]
    rfl
  rw [← Array.getElem?_toList]
  exact hc k _ (hl k hk)

def strsOf : DataW Unit → List Value
  | .agg l => go l
  | _ => []
where go : List (DataW Unit) → List Value
  | .lit (.string s) :: r => .string ⟨s.toArray⟩ :: go r
  | _ => []
def textOfX : DataW Unit → ByteArray
  | .iface _ (.ptr (.agg [.lit (.string s)])) => ⟨s.toArray⟩
  | _ => ⟨#[]⟩
/-- A world for the witnesses, with all that the row lists. -/
noncomputable def laidWorldP (os : Os) : World :=
  { laidWorld os with heap := (((((((laidWorld os).heap.modify 6 (layVals (numsOf .u64 Rows.laid_internal_strconv_uint64pow10))).modify 7 (layVals (numsOf .u8 Rows.laid_math_bits_deBruijn32tab))).modify 8 (layVals (numsOf .u8 Rows.laid_math_bits_deBruijn64tab))).modify 0 (layVals (strsOf Rows.laid_wherryman_plan_stepWords))).modify 3 (layVals [.iface 301 (.pointer (some ⟨(laidWorld os).heap.size, 0, none⟩))])).modify 2 (layVals [.iface 301 (.pointer (some ⟨(laidWorld os).heap.size + 1, 0, none⟩))])).push (.cells #[.string (textOfX Rows.laid_strconv_ErrRange)] 303) |>.push (.cells #[.string (textOfX Rows.laid_strconv_ErrSyntax)] 303) }
end Go.Proofs.YtfenmeacimfiaaaGreatDoor
