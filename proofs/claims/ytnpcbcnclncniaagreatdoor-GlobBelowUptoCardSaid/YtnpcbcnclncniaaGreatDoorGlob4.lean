/-
  names.partForm.
-/
import Derived.Test.YtnpcbcnclncniaaGreatDoorGlob3
import Derived.Test.YtnpcbcnclncniaaGreatDoorBytes
namespace Go.Proofs.YtnpcbcnclncniaaGreatDoor
open Go.RowKit

/-- The form of a part is wrong: its text, set and ways are there or not; its ranges are none; its text holds a 0. -/
def formBad (kind : Int) (tb sb wb re nul : Bool) : Bool := if kind = 1 then sb || wb || !tb || nul else if kind = 5 then tb || wb || re else if kind = 6 then tb || sb || !wb else tb || sb || wb
def hasNul (s : ByteArray) : Bool := s.data.toList.contains 0
def partBad {α : Type} (p : PartOf α) : Bool := formBad p.kind (!p.text.toList.isEmpty) (p.neg || decide (0 < p.rg.xs.length)) (decide (0 < p.ways.xs.length)) (decide (p.rg.xs.length = 0)) (hasNul p.text)

def formErr {α : Type} (p : PartOf α) : Int := if partBad p then 6 else 0

abbrev partVal {α : Type} (p : PartOf α) : Value := .agg #[.int .i64 p.kind, .string p.text, .bool p.neg, .slice p.rg.a p.rg.xs.length p.rg.c, .slice p.ways.a p.ways.xs.length p.ways.c]

set_option maxHeartbeats 4000000 in
set_option maxRecDepth 100000 in
theorem partForm_any {α : Type} (p : PartOf α) (w : World) (h1 : p.rg.xs.length ≤ 1048576) (h2 : p.ways.xs.length ≤ 1048576) :
    Calls Tryz.prog 79 #[partVal p] w fun e w' => e = .returned (.int .i64 (formErr p)) ∧ Below w.heap.size w w' := by
  have HB0 := Lib.hid (partBox_new w p 92)
  have HN := Lib.hid (hasByte_any p.text 0)
  have HP : Hid (formErr p = if formBad p.kind (!p.text.toList.isEmpty) (p.neg || decide (0 < p.rg.xs.length)) (decide (0 < p.ways.xs.length)) (decide (p.rg.xs.length = 0)) (hasNul p.text) then 6 else 0) := Lib.hid rfl
  have hb0 := bAlloc (Below.refl w.heap.size w) (.cells #[.int .i64 p.kind, .string p.text, .bool p.neg, .slice p.rg.a p.rg.xs.length p.rg.c, .slice p.ways.a p.ways.xs.length p.ways.c] 92)
  generalize formErr p = E at *
  obtain ⟨kind, text, neg, ⟨ra, rc, rxs⟩, ⟨wa, wc, wxs⟩⟩ := p
  simp only [] at *
  go_enter Tryz.func79, Tryz.ntmps79
  go_upto_region 1 with fail
  generalize w.alloc _ = w1 at *
  obtain ⟨p0, p1, p2, p3, p4, p5⟩ := HB0.out
  go_cut [3, 4, 5] (fun s3 s4 s5 wx => s3 = .bool (!text.toList.isEmpty) ∧ s4 = .bool (neg || decide (0 < rxs.length)) ∧ s5 = .bool (decide (0 < wxs.length)) ∧ Below w1.heap.size w1 wx)
  case first =>
    cases neg
    all_goals
      go_quiet (fail)
      go_wp2_with fail
      go_meet
      refine ⟨?_, ?_, ?_, bDrewN (Below.refl _ _) _⟩
      all_goals first | rfl | (simp; done)
  case rest =>
    obtain ⟨rfl, rfl, rfl, hb1⟩ := hcut
    obtain ⟨p0, p1, p2, p3, p4, p5⟩ := HB0.out.under hb1
    have e5 : ((rxs.length : Int) == 0) = decide (rxs.length = 0) := by
      rw [Bool.eq_iff_iff]
      simp
    change Hid (∀ W, Calls Tryz.prog 105 #[.string text, .int .u8 0] W fun e w' => e = .returned (.bool (hasNul text)) ∧ w' = W) at HN
    generalize (!text.toList.isEmpty) = tb at *
    generalize (neg || decide (0 < rxs.length)) = sb at *
    generalize decide (0 < wxs.length) = wb at *
    generalize decide (rxs.length = 0) = re at *
    generalize hasNul text = nul at *
    have hbb := bTrans hb0 hb1
    clear hb0 hb1 HB0
    by_cases k1 : kind = 1
    · subst k1
      cases sb <;> cases wb <;> cases tb <;> cases nul
      all_goals
        go_wp2_with (go_at_call 105; refine (HN.out _).mono ?_; rintro e w5 ⟨rfl, rfl⟩)
        go_ret
        exact ⟨ret_int (by rw [HP.out]; rfl), hbb⟩
    have q1 : (kind == 1) = false := by simp [k1]
    by_cases k5 : kind = 5
    · subst k5
      clear q1 k1
      cases tb <;> cases wb <;> cases re
      all_goals
        go_wp2_with fail
        go_ret
        exact ⟨ret_int (by rw [HP.out]; rfl), hbb⟩
    have q5 : (kind == 5) = false := by simp [k5]
    by_cases k6 : kind = 6
    · subst k6
      clear q1 k1 q5 k5
      cases tb <;> cases sb <;> cases wb
      all_goals
        go_wp2_with fail
        go_ret
        exact ⟨ret_int (by rw [HP.out]; rfl), hbb⟩
    have q6 : (kind == 6) = false := by simp [k6]
    have HP2 : Hid (E = if (tb || sb || wb) then 6 else 0) := Lib.hid (by rw [HP.out]; unfold formBad; rw [if_neg k1, if_neg k5, if_neg k6])
    clear k1 k5 k6 HP
    cases tb <;> cases sb <;> cases wb
    all_goals
      go_wp2_with fail
      go_ret
      exact ⟨ret_int (by rw [HP2.out]; rfl), hbb⟩
end Go.Proofs.YtnpcbcnclncniaaGreatDoor
