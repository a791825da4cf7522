/-
  Both CheckMount.
-/
import Derived.Test.YtiliijiohmeagaaGreatDoorFeat
namespace Wh
/-- Options of a mount. -/
structure MOpt where
  block : Int
  ahead : Int
  cache : Int
  expiry : Int
  delay : Int
  handles : Int
  only : Bool
/-- Whether all lie within their bounds. -/
def mntOk (o : MOpt) : Bool := inB o.block 1 65536 && inB o.ahead 0 100 && inB o.cache 0 1073741824 && inB o.expiry 0 1125899906842624 && inB o.delay 0 1125899906842624 && inB o.handles 1 1000
/-- P205: the error of options. -/
def mntErr (o : MOpt) : Int := if mntOk o then 0 else 7
end Wh
namespace Go.Proofs.YtiliijiohmeagaaGreatDoor
open Go.RowKit

def mntVal (o : Wh.MOpt) : Value := .agg #[.int .i64 o.block, .int .i64 o.ahead, .int .i64 o.cache, .int .i64 o.expiry, .int .i64 o.delay, .int .i64 o.handles, .bool o.only]

/-- A block that holds options. -/
def MntBox (w : World) (b : Nat) (o : Wh.MOpt) : Prop :=
  b < w.heap.size ∧ w.cell? ⟨b, 0, none⟩ = some (.int .i64 o.block) ∧ w.cell? ⟨b, 1, none⟩ = some (.int .i64 o.ahead) ∧ w.cell? ⟨b, 2, none⟩ = some (.int .i64 o.cache) ∧ w.cell? ⟨b, 3, none⟩ = some (.int .i64 o.expiry) ∧
    w.cell? ⟨b, 4, none⟩ = some (.int .i64 o.delay) ∧ w.cell? ⟨b, 5, none⟩ = some (.int .i64 o.handles) ∧ w.cell? ⟨b, 6, none⟩ = some (.bool o.only)

theorem MntBox.under {w w' : World} {b : Nat} {o : Wh.MOpt} (h : MntBox w b o) (hb : Below w.heap.size w w') : MntBox w' b o := by
  obtain ⟨h0, h1, h2, h3, h4, h5, h6, h7⟩ := h
  have hc := fun j => hb.cell (p := ⟨b, j, none⟩) h0
  exact ⟨Nat.lt_of_lt_of_le h0 hb.size, (hc 0).trans h1, (hc 1).trans h2, (hc 2).trans h3, (hc 3).trans h4, (hc 4).trans h5, (hc 5).trans h6, (hc 6).trans h7⟩

abbrev mntObj (o : Wh.MOpt) : Obj := .cells #[.int .i64 o.block, .int .i64 o.ahead, .int .i64 o.cache, .int .i64 o.expiry, .int .i64 o.delay, .int .i64 o.handles, .bool o.only] 25

theorem mntBox_new (w : World) (o : Wh.MOpt) : MntBox (w.alloc (mntObj o)) w.heap.size o := by
  refine ⟨by simp, ?_, ?_, ?_, ?_, ?_, ?_, ?_⟩ <;> (rw [World.cell?_alloc_at _ _ _ _ rfl]; rfl)


theorem enters_mntIn : ∀ args w, (callFunc 22 args).run Tryz.prog w = .ok (.enter 22 args) w := enters_of Tryz.func22 (by kernel_rfl) rfl

set_option maxHeartbeats 1000000 in
theorem mntIn_any (n lo hi : Int) (w : World) :
    Calls Tryz.prog 22 #[.int .i64 n, .int .i64 lo, .int .i64 hi] w fun e w' => e = .returned (.bool (Wh.inB n lo hi)) ∧ w' = w := by
  have hI : Wh.inB n lo hi = (decide (lo ≤ n) && decide (n ≤ hi)) := rfl
  have HI := Lib.hid hI
  clear hI
  by_cases h1 : lo ≤ n
  · go_enter Tryz.func22, Tryz.ntmps22
    go_wp2
    go_ret
    exact ⟨ret_bool (by rw [HI.out]; simp [h1]), rfl⟩
  · go_enter Tryz.func22, Tryz.ntmps22
    go_wp2
    go_ret
    exact ⟨ret_bool (by rw [HI.out]; simp; omega), rfl⟩

set_option maxHeartbeats 4000000 in
set_option maxRecDepth 100000 in
theorem mntIn_check (o : Wh.MOpt) (w : World) :
    Calls Tryz.prog 8 #[mntVal o] w fun e w' => e = .returned (.int .i64 (Wh.mntErr o)) ∧ Below w.heap.size w w' := by
  have hb1 : Below w.heap.size w (w.alloc (mntObj o)) := bAlloc (Below.refl _ _) _
  have HB := Lib.hid (mntBox_new w o)
  have hE : Wh.mntErr o = if Wh.mntOk o then 0 else 7 := rfl
  have hrg : Wh.mntOk o = (Wh.inB o.block 1 65536 && Wh.inB o.ahead 0 100 && Wh.inB o.cache 0 1073741824 && Wh.inB o.expiry 0 1125899906842624 && Wh.inB o.delay 0 1125899906842624 && Wh.inB o.handles 1 1000) := rfl
  rw [hrg] at hE
  have HE := Lib.hid hE
  clear hE hrg
  generalize Wh.mntErr o = E at *
  unfold mntVal
  go_enter Tryz.func8, Tryz.ntmps8
  go_upto_region 1 with fail
  unfold mntObj at *
  generalize w.alloc _ = w1 at *
  obtain ⟨k0, k1, k2, k3, k4, k5, k6, k7⟩ := HB.out
  have hen := enters_mntIn
  cases r0 : Wh.inB o.block 1 65536
  case false =>
    have HK : Hid (E = 7) := Lib.hid (by rw [HE.out, r0]; rfl)
    go_wp2_with (go_at_call 22; refine (mntIn_any _ _ _ _).mono ?_; rintro e w' ⟨rfl, hw'⟩; subst w')
    go_ret
    exact ⟨ret_int HK.out.symm, hb1⟩
  cases r1 : Wh.inB o.ahead 0 100
  case false =>
    have HK : Hid (E = 7) := Lib.hid (by rw [HE.out, r0, r1]; rfl)
    go_wp2_with (go_at_call 22; refine (mntIn_any _ _ _ _).mono ?_; rintro e w' ⟨rfl, hw'⟩; subst w')
    go_ret
    exact ⟨ret_int HK.out.symm, hb1⟩
  cases r2 : Wh.inB o.cache 0 1073741824
  case false =>
    have HK : Hid (E = 7) := Lib.hid (by rw [HE.out, r0, r1, r2]; rfl)
    go_wp2_with (go_at_call 22; refine (mntIn_any _ _ _ _).mono ?_; rintro e w' ⟨rfl, hw'⟩; subst w')
    go_ret
    exact ⟨ret_int HK.out.symm, hb1⟩
  cases r3 : Wh.inB o.expiry 0 1125899906842624
  case false =>
    have HK : Hid (E = 7) := Lib.hid (by rw [HE.out, r0, r1, r2, r3]; rfl)
    go_wp2_with (go_at_call 22; refine (mntIn_any _ _ _ _).mono ?_; rintro e w' ⟨rfl, hw'⟩; subst w')
    go_ret
    exact ⟨ret_int HK.out.symm, hb1⟩
  cases r4 : Wh.inB o.delay 0 1125899906842624
  case false =>
    have HK : Hid (E = 7) := Lib.hid (by rw [HE.out, r0, r1, r2, r3, r4]; rfl)
    go_wp2_with (go_at_call 22; refine (mntIn_any _ _ _ _).mono ?_; rintro e w' ⟨rfl, hw'⟩; subst w')
    go_ret
    exact ⟨ret_int HK.out.symm, hb1⟩
  cases r5 : Wh.inB o.handles 1 1000
  case false =>
    have HK : Hid (E = 7) := Lib.hid (by rw [HE.out, r0, r1, r2, r3, r4, r5]; rfl)
    go_wp2_with (go_at_call 22; refine (mntIn_any _ _ _ _).mono ?_; rintro e w' ⟨rfl, hw'⟩; subst w')
    go_ret
    exact ⟨ret_int HK.out.symm, hb1⟩
  have HK : Hid (E = 0) := Lib.hid (by rw [HE.out, r0, r1, r2, r3, r4, r5]; rfl)
  go_wp2_with (go_at_call 22; refine (mntIn_any _ _ _ _).mono ?_; rintro e w' ⟨rfl, hw'⟩; subst w')
  go_ret
  exact ⟨ret_int HK.out.symm, hb1⟩

theorem enters_refMntIn : ∀ args w, (callFunc 21 args).run Tryz.prog w = .ok (.enter 21 args) w := enters_of Tryz.func21 (by kernel_rfl) rfl

set_option maxHeartbeats 1000000 in
theorem refMntIn_any (n lo hi : Int) (w : World) :
    Calls Tryz.prog 21 #[.int .i64 n, .int .i64 lo, .int .i64 hi] w fun e w' => e = .returned (.bool (Wh.inB n lo hi)) ∧ w' = w := by
  have hI : Wh.inB n lo hi = (decide (lo ≤ n) && decide (n ≤ hi)) := rfl
  have HI := Lib.hid hI
  clear hI
  by_cases h1 : lo ≤ n
  · go_enter Tryz.func21, Tryz.ntmps21
    go_wp2
    go_ret
    exact ⟨ret_bool (by rw [HI.out]; simp [h1]), rfl⟩
  · go_enter Tryz.func21, Tryz.ntmps21
    go_wp2
    go_ret
    exact ⟨ret_bool (by rw [HI.out]; simp; omega), rfl⟩

set_option maxHeartbeats 4000000 in
set_option maxRecDepth 100000 in
theorem refMntIn_check (o : Wh.MOpt) (w : World) :
    Calls Tryz.prog 7 #[mntVal o] w fun e w' => e = .returned (.int .i64 (Wh.mntErr o)) ∧ Below w.heap.size w w' := by
  have hb1 : Below w.heap.size w (w.alloc (mntObj o)) := bAlloc (Below.refl _ _) _
  have HB := Lib.hid (mntBox_new w o)
  have hE : Wh.mntErr o = if Wh.mntOk o then 0 else 7 := rfl
  have hrg : Wh.mntOk o = (Wh.inB o.block 1 65536 && Wh.inB o.ahead 0 100 && Wh.inB o.cache 0 1073741824 && Wh.inB o.expiry 0 1125899906842624 && Wh.inB o.delay 0 1125899906842624 && Wh.inB o.handles 1 1000) := rfl
  rw [hrg] at hE
  have HE := Lib.hid hE
  clear hE hrg
  generalize Wh.mntErr o = E at *
  unfold mntVal
  go_enter Tryz.func7, Tryz.ntmps7
  go_upto_region 1 with fail
  unfold mntObj at *
  generalize w.alloc _ = w1 at *
  obtain ⟨k0, k1, k2, k3, k4, k5, k6, k7⟩ := HB.out
  have hen := enters_refMntIn
  cases r0 : Wh.inB o.block 1 65536
  case false =>
    have HK : Hid (E = 7) := Lib.hid (by rw [HE.out, r0]; rfl)
    go_wp2_with (go_at_call 21; refine (refMntIn_any _ _ _ _).mono ?_; rintro e w' ⟨rfl, hw'⟩; subst w')
    go_ret
    exact ⟨ret_int HK.out.symm, hb1⟩
  cases r1 : Wh.inB o.ahead 0 100
  case false =>
    have HK : Hid (E = 7) := Lib.hid (by rw [HE.out, r0, r1]; rfl)
    go_wp2_with (go_at_call 21; refine (refMntIn_any _ _ _ _).mono ?_; rintro e w' ⟨rfl, hw'⟩; subst w')
    go_ret
    exact ⟨ret_int HK.out.symm, hb1⟩
  cases r2 : Wh.inB o.cache 0 1073741824
  case false =>
    have HK : Hid (E = 7) := Lib.hid (by rw [HE.out, r0, r1, r2]; rfl)
    go_wp2_with (go_at_call 21; refine (refMntIn_any _ _ _ _).mono ?_; rintro e w' ⟨rfl, hw'⟩; subst w')
    go_ret
    exact ⟨ret_int HK.out.symm, hb1⟩
  cases r3 : Wh.inB o.expiry 0 1125899906842624
  case false =>
    have HK : Hid (E = 7) := Lib.hid (by rw [HE.out, r0, r1, r2, r3]; rfl)
    go_wp2_with (go_at_call 21; refine (refMntIn_any _ _ _ _).mono ?_; rintro e w' ⟨rfl, hw'⟩; subst w')
    go_ret
    exact ⟨ret_int HK.out.symm, hb1⟩
  cases r4 : Wh.inB o.delay 0 1125899906842624
  case false =>
    have HK : Hid (E = 7) := Lib.hid (by rw [HE.out, r0, r1, r2, r3, r4]; rfl)
    go_wp2_with (go_at_call 21; refine (refMntIn_any _ _ _ _).mono ?_; rintro e w' ⟨rfl, hw'⟩; subst w')
    go_ret
    exact ⟨ret_int HK.out.symm, hb1⟩
  cases r5 : Wh.inB o.handles 1 1000
  case false =>
    have HK : Hid (E = 7) := Lib.hid (by rw [HE.out, r0, r1, r2, r3, r4, r5]; rfl)
    go_wp2_with (go_at_call 21; refine (refMntIn_any _ _ _ _).mono ?_; rintro e w' ⟨rfl, hw'⟩; subst w')
    go_ret
    exact ⟨ret_int HK.out.symm, hb1⟩
  have HK : Hid (E = 0) := Lib.hid (by rw [HE.out, r0, r1, r2, r3, r4, r5]; rfl)
  go_wp2_with (go_at_call 21; refine (refMntIn_any _ _ _ _).mono ?_; rintro e w' ⟨rfl, hw'⟩; subst w')
  go_ret
  exact ⟨ret_int HK.out.symm, hb1⟩
end Go.Proofs.YtiliijiohmeagaaGreatDoor
