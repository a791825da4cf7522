/-
  Parts of the proof: StoreFeat.
-/
import Derived.Test.YtchfhojighopkaaGreatDoorGuAK
namespace Go.Proofs.YtchfhojighopkaaGreatDoor
open Go.RowKit

theorem enters_stFeat1 : ∀ args w, (callFunc 65 args).run Tryz.prog w = .ok (.enter 65 args) w := enters_of Tryz.func65 (by kernel_rfl) rfl
theorem enters_stFeat2 : ∀ args w, (callFunc 66 args).run Tryz.prog w = .ok (.enter 66 args) w := enters_of Tryz.func66 (by kernel_rfl) rfl

set_option maxHeartbeats 1000000 in
theorem stFeat1_any (f : Wh.Feat) (b : Nat) (n : Int) (w : World) (hb : w.cell? ⟨b, 0, none⟩ = some (.int .i64 f.has)) :
  Calls Tryz.prog 65 #[.int .i64 n, .pointer (some ⟨b, 0, none⟩)] w fun e w' => e = .returned (.bool (Wh.hasB f n)) ∧ w' = w := by
 have hI : Wh.hasB f n = (bits .and .i64 f.has n != 0) := rfl
 have HI := Lib.hid hI
 clear hI
 go_enter Tryz.func65, Tryz.ntmps65
 go_wp2
 go_ret
 exact ⟨ret_bool HI.out.symm, rfl⟩

set_option maxHeartbeats 1000000 in
theorem stFeat2_any (n lo hi : Int) (w : World) :
  Calls Tryz.prog 66 #[.int .i64 n, .int .i64 lo, .int .i64 hi] w fun e w' => e = .returned (.bool (Wh.inB n lo hi)) ∧ w' = w := by
 have hI : Wh.inB n lo hi = (decide (lo ≤ n) && decide (n ≤ hi)) := rfl
 have HI := Lib.hid hI
 clear hI
 by_cases h1 : lo ≤ n
 ·go_enter Tryz.func66, Tryz.ntmps66
  go_wp2
  go_ret
  exact ⟨ret_bool (by rw [HI.out]; simp [h1]), rfl⟩
 ·go_enter Tryz.func66, Tryz.ntmps66
  go_wp2
  go_ret
  exact ⟨ret_bool (by rw [HI.out]; simp; omega), rfl⟩

set_option maxHeartbeats 1000000 in
theorem kinds_any (w : World) :
  Calls Tryz.prog 68 #[] w fun e w' => e = .returned (.slice (some ⟨w.heap.size, 0, none⟩) 5 5) ∧ w' = w.alloc (.cells #[.int .i64 1, .int .i64 2, .int .i64 3, .int .i64 4, .int .i64 5] 3) := by
 go_enter Tryz.func68, Tryz.ntmps68
 go_wp2_with fail
 go_ret
 exact ⟨rfl, rfl⟩

/-- A slice of the kinds comes back. -/
def KindsBack (w : World) (e : Ending) (w' : World) : Prop :=
 ∃ a, e = .returned (.slice (some ⟨a, 0, none⟩) 5 5) ∧ a < w'.heap.size ∧ (∀ (j : Nat) (n : Int), [1, 2, 3, 4, 5][j]? = some n → w'.cell? ⟨a, 0 + j, none⟩ = some (.int .i64 n)) ∧ Below w.heap.size w w'

theorem kindsBack_new (w : World) : KindsBack w (.returned (.slice (some ⟨w.heap.size, 0, none⟩) 5 5)) (w.alloc (.cells #[.int .i64 1, .int .i64 2, .int .i64 3, .int .i64 4, .int .i64 5] 3)) := by
 refine ⟨_, rfl, by simp, fun j n hn => ?_, bAlloc (Below.refl _ _) _⟩
 rw [World.cell?_alloc_at _ _ _ _ rfl, Nat.zero_add]
 rcases j with _ | _ | _ | _ | _ | j <;> simp at hn <;> simp [hn]

theorem kinds_back (w : World) : Calls Tryz.prog 68 #[] w (KindsBack w) := by
 refine (kinds_any w).mono ?_
 rintro e w' ⟨rfl, rfl⟩
 exact kindsBack_new w

set_option maxHeartbeats 4000000 in
set_option maxRecDepth 100000 in
theorem stCheckFeat_any (f : Wh.Feat) (hf : FeatOk f) (w : World) :
  Calls Tryz.prog 38 #[featVal f] w fun e w' => e = .returned (.int .i64 (Wh.featErr f)) ∧ Below w.heap.size w w' := by
 have hb1 : Below w.heap.size w (w.alloc (featObj f)) := bAlloc (Below.refl _ _) _
 have HB := Lib.hid (featBox_new w f)
 have hE : Wh.featErr f = if Wh.hasBad f || !Wh.formP Wh.okF f.forbid.data.toList then 6 else if Wh.sumsBad f then 5 else if Wh.rangeOk f then 0 else 7 := rfl
 have HE := Lib.hid hE
 have hfs := hf.forbid
 have HFo := Lib.hid (fun W => forbidForm_any f.forbid W hfs)
 clear hE hf
 generalize Wh.featErr f = E at *
 generalize Wh.formP Wh.okF f.forbid.data.toList = FO at *
 unfold featVal
 go_enter Tryz.func38, Tryz.ntmps38
 go_upto_region 1 with fail
 unfold featObj at *
 generalize w.alloc (.cells #[.int .i64 f.has, .int .i64 f.sums, .int .i64 f.prec, .int .i64 f.maxName, .int .i64 f.maxPath, .int .i64 f.maxSize, .int .i64 f.page, .int .i64 f.partSize, .string f.forbid] 66) = w1 at *
 obtain ⟨k0, k1, k2, k3, k4, k5, k6, k7, k8, k9⟩ := HB.out
 have hen1 := enters_stFeat1
 have hen2 := enters_stFeat2
 go_upto_region 3 with fail
 go_cut [40] (fun s40 wx => s40 = .bool (Wh.hasBad f || !FO) ∧ wx = w1)
 case first =>
  have hq : Wh.hasBad f = (decide (f.has < 0) || decide (4095 < f.has) || (Wh.hasB f 8 && !Wh.hasB f 4) || (Wh.hasB f 2048 && !Wh.hasB f 64)) := rfl
  have H8 := Lib.hid (fun W hb => stFeat1_any f w.heap.size 8 W hb)
  have H4 := Lib.hid (fun W hb => stFeat1_any f w.heap.size 4 W hb)
  have H20 := Lib.hid (fun W hb => stFeat1_any f w.heap.size 2048 W hb)
  have H64 := Lib.hid (fun W hb => stFeat1_any f w.heap.size 64 W hb)
  generalize Wh.hasBad f = B at *
  generalize Wh.hasB f 8 = b8 at *
  generalize Wh.hasB f 4 = b4 at *
  generalize Wh.hasB f 2048 = b20 at *
  generalize Wh.hasB f 64 = b64 at *
  have HQ := Lib.hid hq
  clear hq
  by_cases c1 : f.has < 0
  ·go_wp2_with fail
   go_meet
   exact ⟨by rw [HQ.out]; simp [c1], rfl⟩
  ·by_cases c2 : 4095 < f.has
   ·go_wp2_with fail
    go_meet
    exact ⟨by rw [HQ.out]; simp [c2], rfl⟩
   ·have d1 : decide (f.has < 0) = false := by simpa using c1
    have d2 : decide (4095 < f.has) = false := by simpa using c2
    cases b8 <;> cases b4 <;> cases b20 <;> cases b64 <;> cases FO
    all_goals
     go_wp2_with (first | (go_at_call_of 65 (Value.int .i64 8); refine (H8.out _ (by assumption)).mono ?_; rintro e w' ⟨rfl, hw'⟩; subst w') | (go_at_call_of 65 (Value.int .i64 4); refine (H4.out _ (by assumption)).mono ?_; rintro e w' ⟨rfl, hw'⟩; subst w') | (go_at_call_of 65 (Value.int .i64 2048); refine (H20.out _ (by assumption)).mono ?_; rintro e w' ⟨rfl, hw'⟩; subst w') | (go_at_call_of 65 (Value.int .i64 64); refine (H64.out _ (by assumption)).mono ?_; rintro e w' ⟨rfl, hw'⟩; subst w') | (go_at_call 67; refine (HFo.out _).mono ?_; rintro e w' ⟨rfl, hw'⟩; subst w'))
     go_meet
     exact ⟨by rw [HQ.out, d1, d2]; rfl, rfl⟩
 case rest =>
  obtain ⟨rfl, rfl⟩ := hcut
  cases hhb : (Wh.hasBad f || !FO)
  case true =>
   have HF : Hid (E = 6) := Lib.hid (by rw [HE.out, hhb]; rfl)
   clear hhb
   go_wp2_with fail
   go_ret
   exact ⟨ret_int HF.out.symm, hb1⟩
  case false =>
   rw [hhb] at HE
   clear hhb k0 k1 k2 k3 k4 k5 k6 k7 k8 k9
   go_wp2_with fail
   refine (kinds_back _).mono ?_
   rintro e w2 ⟨a, rfl, ha, hc, hb2⟩
   have c0 := hc 0 1 rfl
   have c1 := hc 1 2 rfl
   have c2 := hc 2 3 rfl
   have c3 := hc 3 4 rfl
   have c4 := hc 4 5 rfl
   clear hc
   simp only [Nat.zero_add] at c0 c1 c2 c3 c4
   have o1 : bits BinOp.or IntKind.i64 0 2 = 2 := by decide
   have o2 : bits BinOp.or IntKind.i64 2 4 = 6 := by decide
   have o3 : bits BinOp.or IntKind.i64 6 8 = 14 := by decide
   have o4 : bits BinOp.or IntKind.i64 14 16 = 30 := by decide
   have o5 : bits BinOp.or IntKind.i64 30 32 = 62 := by decide
   go_wp2_with fail
   refine wp_loop_rounds 6 ?_
   iterate 5
    rw [rounds_succ]
    go_wp2_with fail
   rw [rounds_succ]
   clear c0 c1 c2 c3 c4 o1 o2 o3 o4 o5
   obtain ⟨k0, k1, k2, k3, k4, k5, k6, k7, k8, k9⟩ := HB.out.under hb2
   replace hb1 := bTrans hb1 hb2
   clear hb2 HB
   have hsb : (bits BinOp.andNot IntKind.i64 f.sums 62 != 0) = Wh.sumsBad f := rfl
   have hrg : Wh.rangeOk f = (Wh.inB f.prec 1 86400000000000 && Wh.inB f.maxName 1 255 && Wh.inB f.maxPath f.maxName 1024 && Wh.inB f.maxSize 0 1048576 && Wh.inB f.page 1 1000 && Wh.inB f.partSize 1 (max f.maxSize 1)) := rfl
   rw [hrg] at HE
   clear hrg
   cases hsbb : Wh.sumsBad f
   ·rw [hsbb] at hsb HE
    clear hsbb
    cases r1 : Wh.inB f.prec 1 86400000000000
    case false =>
     have HK : Hid (E = 7) := Lib.hid (by rw [HE.out, r1]; rfl)
     go_wp2_with (go_at_call 66; refine (stFeat2_any _ _ _ _).mono ?_; rintro e w' ⟨rfl, hw'⟩; subst w')
     go_ret
     exact ⟨ret_int HK.out.symm, hb1⟩
    cases r2 : Wh.inB f.maxName 1 255
    case false =>
     have HK : Hid (E = 7) := Lib.hid (by rw [HE.out, r1, r2]; rfl)
     go_wp2_with (go_at_call 66; refine (stFeat2_any _ _ _ _).mono ?_; rintro e w' ⟨rfl, hw'⟩; subst w')
     go_ret
     exact ⟨ret_int HK.out.symm, hb1⟩
    cases r3 : Wh.inB f.maxPath f.maxName 1024
    case false =>
     have HK : Hid (E = 7) := Lib.hid (by rw [HE.out, r1, r2, r3]; rfl)
     go_wp2_with (go_at_call 66; refine (stFeat2_any _ _ _ _).mono ?_; rintro e w' ⟨rfl, hw'⟩; subst w')
     go_ret
     exact ⟨ret_int HK.out.symm, hb1⟩
    cases r4 : Wh.inB f.maxSize 0 1048576
    case false =>
     have HK : Hid (E = 7) := Lib.hid (by rw [HE.out, r1, r2, r3, r4]; rfl)
     go_wp2_with (go_at_call 66; refine (stFeat2_any _ _ _ _).mono ?_; rintro e w' ⟨rfl, hw'⟩; subst w')
     go_ret
     exact ⟨ret_int HK.out.symm, hb1⟩
    cases r5 : Wh.inB f.page 1 1000
    case false =>
     have HK : Hid (E = 7) := Lib.hid (by rw [HE.out, r1, r2, r3, r4, r5]; rfl)
     go_wp2_with (go_at_call 66; refine (stFeat2_any _ _ _ _).mono ?_; rintro e w' ⟨rfl, hw'⟩; subst w')
     go_ret
     exact ⟨ret_int HK.out.symm, hb1⟩
    cases r6 : Wh.inB f.partSize 1 (max f.maxSize 1)
    case false =>
     have HK : Hid (E = 7) := Lib.hid (by rw [HE.out, r1, r2, r3, r4, r5, r6]; rfl)
     go_wp2_with (go_at_call 66; refine (stFeat2_any _ _ _ _).mono ?_; rintro e w' ⟨rfl, hw'⟩; subst w')
     go_ret
     exact ⟨ret_int HK.out.symm, hb1⟩
    have HK : Hid (E = 0) := Lib.hid (by rw [HE.out, r1, r2, r3, r4, r5, r6]; rfl)
    go_wp2_with (go_at_call 66; refine (stFeat2_any _ _ _ _).mono ?_; rintro e w' ⟨rfl, hw'⟩; subst w')
    go_ret
    exact ⟨ret_int HK.out.symm, hb1⟩
   ·rw [hsbb] at hsb HE
    have HK : Hid (E = 5) := Lib.hid (by rw [HE.out]; rfl)
    clear hsbb
    go_wp2_with fail
    go_ret
    exact ⟨ret_int HK.out.symm, hb1⟩
end Go.Proofs.YtchfhojighopkaaGreatDoor
