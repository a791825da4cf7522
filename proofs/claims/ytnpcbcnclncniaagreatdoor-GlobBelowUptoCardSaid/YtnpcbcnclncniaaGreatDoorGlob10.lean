/-
  wherryref1.checkParts: its closure uses; its ranges.
-/
import Derived.Test.YtnpcbcnclncniaaGreatDoorGlobT2
namespace Go.Proofs.YtnpcbcnclncniaaGreatDoor
open Go.RowKit

def usesB (kind k : Int) (u : Bool) : Bool := (kind == k) || !u

set_option maxHeartbeats 1000000 in
theorem uses_any {α : Type} (q : PartOf α) (b : Nat) (k : Int) (u : Bool) (w : World) (hb : PartBox w b q) :
    Calls Tryz.prog 54 #[.int .i64 k, .bool u, .pointer (some ⟨b, 0, none⟩)] w fun e w' => e = .returned (.bool (usesB q.kind k u)) ∧ w = w' := by
  have HR : Hid (usesB q.kind k u = ((q.kind == k) || !u)) := Lib.hid rfl
  generalize usesB q.kind k u = R at *
  obtain ⟨p0, p1, p2, p3, p4, p5⟩ := hb
  generalize q.kind = kind at *
  clear p2 p3 p4 p5
  cases c : (kind == k) <;> cases u
  all_goals
    rw [c] at HR
    go_enter Tryz.func54, Tryz.ntmps54
    go_wp2_with fail
    go_ret
    exact ⟨ret_bool HR.out.symm, rfl⟩

/-- What the reference's two tests of a part's form say together. -/
theorem refForm_eq (kind : Int) (tb sb wb re nul pv : Bool) :
    ((!usesB kind 1 tb || !usesB kind 5 sb || !usesB kind 6 wb) || ((kind == 1 && (!tb || nul || pv)) || (kind == 5 && re) || (kind == 6 && !wb))) = (formBad kind tb sb wb re nul || (kind == 1 && pv)) := by
  unfold formBad usesB
  by_cases k1 : kind = 1
  · subst k1
    cases tb <;> cases sb <;> cases wb <;> cases re <;> cases nul <;> cases pv <;> rfl
  by_cases k5 : kind = 5
  · subst k5
    cases tb <;> cases sb <;> cases wb <;> cases re <;> cases nul <;> cases pv <;> rfl
  by_cases k6 : kind = 6
  · subst k6
    cases tb <;> cases sb <;> cases wb <;> cases re <;> cases nul <;> cases pv <;> rfl
  have e1 : (kind == 1) = false := by simp [k1]
  have e5 : (kind == 5) = false := by simp [k5]
  have e6 : (kind == 6) = false := by simp [k6]
  rw [if_neg k1, if_neg k5, if_neg k6, e1, e5, e6]
  cases tb <;> cases sb <;> cases wb <;> cases re <;> cases nul <;> cases pv <;> rfl

theorem idx_nul (s : ByteArray) : ∃ J : Int, hasNul s = decide (0 ≤ J) ∧ ∀ w : World, Calls Tryz.prog 55 #[.string s, .int .u8 0] w fun e w' => e = .returned (.int .i64 J) ∧ w = w' := by
  refine ⟨Lib.indexByte s.data.toList 0, ?_, fun w => ?_⟩
  · exact Lib.contains_iff_indexByte s.data.toList 0
  · exact (Tryz.strings_IndexByte s 0 w).mono fun e w' h => ⟨h.1, h.2.symm⟩

def rgBadR (a b : Int) : Bool := decide (a < 1) || decide (255 < b) || decide (b < a) || (decide (a ≤ 47) && decide (47 ≤ b))
theorem rgBadR_eq (a b : Int) : rgBadR a b = rgBad a b := by
  unfold rgBadR rgBad
  rw [Bool.eq_iff_iff]
  simp
  omega
end Go.Proofs.YtnpcbcnclncniaaGreatDoor
