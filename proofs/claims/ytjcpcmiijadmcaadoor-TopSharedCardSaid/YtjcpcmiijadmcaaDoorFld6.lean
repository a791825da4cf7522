/-
  slices.Index, slices.Contains of shares.
-/
import Derived.Test.YtjcpcmiijadmcaaDoorFld5
import Derived.Laws.StructEq
namespace Go.Proofs.YtjcpcmiijadmcaaDoor
open Go.RowKit Wh.Fld

def eqSh (a b : Share) : Bool := a.x == b.x && a.d.toList == b.d.toList
abbrev shareVal (s : Share) : Value := .agg #[.int .i64 s.x.toNat, .string s.d]

theorem eqShare (a b : Share) (w : World) : (binOp .eql 39 (shareVal a) (shareVal b)).run Tryd.prog w = .ok (.bool (eqSh a b)) w := by
  have u3 := Tryd.underlying3
  have u9 := Tryd.underlying9
  have hS : Tryd.prog.underlying 39 = some (.struct (Tryd.prog.fieldsOf 39)) := by kernel_rfl
  have hp : Tryd.prog.stoodInHeld 39 = false := by kernel_rfl
  have k1 : (((a.x.toNat : Nat) : Int) == ((b.x.toNat : Nat) : Int)) = (a.x == b.x) := by
    rw [Bool.eq_iff_iff]
    simp only [beq_iff_eq]
    constructor
    · intro h
      exact BitVec.eq_of_toNat_eq (by omega)
    · intro h
      rw [h]
  unfold eqSh
  rw [← k1]
  rw [run_eql_struct, show (10000 : Nat) = 9999 + 1 from rfl, run_equalIn_agg w 9999 39 _ _ hS hp]
  simp only [Program.fieldsOf, Tryd.underlying39]
  clear k1
  generalize ((a.x.toNat : Nat) : Int) = A
  generalize ((b.x.toNat : Nat) : Int) = B
  go_simp
  by_cases h1 : A = B <;> by_cases h2 : a.d.toList = b.d.toList <;> simp [h1, h2]


/-- What Index returns: not below 0 if, and only if, one is like it. -/
def IdxPost (any : Bool) (w : World) (e : Ending) (w' : World) : Prop := ∃ r : Int, e = .returned (.int .i64 r) ∧ decide (0 ≤ r) = any ∧ Below w.heap.size w w'

set_option maxHeartbeats 1000000 in
theorem indexSh_any (xs : List Share) (a : Option Addr) (c : Nat) (v : Share) (w : World) (hH : HoldsR w a 2 (xs.map shareCells)) (hl : xs.length ≤ 1000) :
    Calls Tryd.prog 43 #[.slice a xs.length c, shareVal v] w (IdxPost (xs.any (eqSh v)) w) := by
  have HH := Lib.hid hH
  have hg : Tryd.prog.eqGuardType Tryd.prog.depth 39 = false := by kernel_rfl
  have HB0 := Lib.hid (shareBox_new w v 39)
  have hb0 := bAlloc (Below.refl w.heap.size w) (.cells #[.int .i64 v.x.toNat, .string v.d] 39)
  clear hH
  go_enter Tryd.func43, Tryd.ntmps43
  go_upto_region 1 with fail
  generalize w.alloc _ = w1 at *
  go_wp2_with fail
  go_loopg [8] xs.length (fun g i wx => ∃ k : Nat, k + g = xs.length ∧ i = .int .i64 k ∧ Below w1.heap.size w1 wx ∧ Hid (xs.any (eqSh v) = (xs.drop k).any (eqSh v)))
  case atStart => exact ⟨0, by omega, rfl, Below.refl _ _, Lib.hid rfl⟩
  case round =>
    obtain ⟨k, hk, rfl, hb, HA⟩ := hrel
    by_cases hlt : k < xs.length
    · obtain ⟨g, rfl⟩ : ∃ g, gk = g + 1 := ⟨gk - 1, by omega⟩
      obtain ⟨s, hx⟩ : ∃ s, xs[k]? = some s := ⟨_, List.getElem?_eq_getElem hlt⟩
      obtain ⟨ba, off, ha, hba, r0, r1⟩ := shareRow (HH.out.under (bTrans hb0 hb)) hx
      obtain ⟨p0, p1, p2⟩ := HB0.out.under hb
      subst ha
      have hdr : xs.drop k = s :: xs.drop (k + 1) := by rw [List.drop_eq_getElem_cons hlt, (List.getElem?_eq_some_iff.1 hx).2]
      rw [hdr, List.any_cons] at HA
      have heq := eqShare v s
      clear hx hdr
      generalize eqSh v s = E at *
      cases E
      all_goals
        go_wp2_with fail
        go_quiet (fail)
        go_wp2_with fail
      · go_roundg g
        case measure => omega
        case rel => exact ⟨k + 1, by omega, by go_num, bDrewN hb _, HA⟩
      · go_ret
        exact ⟨k, rfl, by rw [HA.out]; simp, bDrewN (bTrans hb0 hb) _⟩
    · have HA2 : Hid (xs.any (eqSh v) = false) := Lib.hid (by rw [HA.out, List.drop_of_length_le (by omega)]; rfl)
      go_wp2_with fail
      go_ret
      exact ⟨-1, rfl, by rw [HA2.out]; rfl, bTrans hb0 hb⟩

set_option maxHeartbeats 1000000 in
theorem containsSh_any (xs : List Share) (a : Option Addr) (c : Nat) (v : Share) (w : World) (hH : HoldsR w a 2 (xs.map shareCells)) (hl : xs.length ≤ 1000) :
    Calls Tryd.prog 16 #[.slice a xs.length c, shareVal v] w fun e w' => e = .returned (.bool (xs.any (eqSh v))) ∧ Below w.heap.size w w' := by
  have hb0 := bAlloc (Below.refl w.heap.size w) (.cells #[.int .i64 v.x.toNat, .string v.d] 39)
  have HI := Lib.hid (indexSh_any xs a c v _ (hH.under hb0) hl)
  generalize xs.any (eqSh v) = E at *
  clear hH
  go_enter Tryd.func16, Tryd.ntmps16
  go_wp2_with fail
  refine HI.out.mono ?_
  rintro e w2 ⟨r, rfl, hr, hb2⟩
  go_wp2_with fail
  go_ret
  exact ⟨rfl, bTrans hb0 hb2⟩
end Go.Proofs.YtjcpcmiijadmcaaDoor
