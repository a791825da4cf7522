/-
  mount.New.
-/
import Derived.Test.YtiliijiohmeagaaGreatDoorMnt3
namespace Go.Proofs.YtiliijiohmeagaaGreatDoor
open Go.RowKit

set_option maxRecDepth 100000 in
theorem memMethod (m : Nat) (w : World) : (method 512 36 (.pointer (some ⟨m, 0, none⟩)) "Features").run Tryz.prog w = .ok (274, .pointer (some ⟨m, 0, none⟩)) w := by
  kernel_rfl
theorem enters_memFeatures : ∀ args w, (callFunc 274 args).run Tryz.prog w = .ok (.enter 274 args) w := enters_of Tryz.func274 (by kernel_rfl) rfl

/-- A mount if and only if nothing is wrong. -/
def MNewPost (E : Int) (w : World) (e : Ending) (w' : World) : Prop := ∃ p : Option Addr, e = .returned (.tuple #[.pointer p, .int .i64 E]) ∧ (!p.isNone) = (E == 0) ∧ Below w.heap.size w w'

set_option maxHeartbeats 2000000 in
set_option maxRecDepth 100000 in
theorem mNew_none (o : Wh.MOpt) (pc : Option Addr) (w : World) :
    Calls Tryz.prog 12 #[.nilIface, .pointer pc, mntVal o] w (MNewPost 6 w) := by
  have hb1 : Below w.heap.size w (w.alloc (mntObj o)) := bAlloc (Below.refl _ _) _
  unfold mntVal
  go_enter Tryz.func12, Tryz.ntmps12
  go_upto_region 1 with fail
  unfold mntObj at *
  generalize w.alloc _ = w1 at *
  go_wp2_with fail
  go_ret2
  exact ⟨none, rfl, rfl, hb1⟩

set_option maxHeartbeats 2000000 in
set_option maxRecDepth 100000 in
theorem mNew_still (o : Wh.MOpt) (m : Nat) (w : World) :
    Calls Tryz.prog 12 #[.iface 36 (.pointer (some ⟨m, 0, none⟩)), .pointer none, mntVal o] w (MNewPost 6 w) := by
  have hb1 : Below w.heap.size w (w.alloc (mntObj o)) := bAlloc (Below.refl _ _) _
  unfold mntVal
  go_enter Tryz.func12, Tryz.ntmps12
  go_upto_region 1 with fail
  unfold mntObj at *
  generalize w.alloc _ = w1 at *
  go_wp2_with fail
  go_ret2
  exact ⟨none, rfl, rfl, hb1⟩

/-- Whether the store has one of two abilities. -/
def has80 (f : Wh.Feat) : Bool := bits BinOp.and IntKind.i64 f.has 80 == 0
/-- What New says. -/
def mNewErr (o : Wh.MOpt) (f : Wh.Feat) : Int := if Wh.mntErr o = 0 then (if has80 f then 12 else 0) else Wh.mntErr o

set_option maxHeartbeats 4000000 in
set_option maxRecDepth 100000 in
theorem mNew_some (o : Wh.MOpt) (f : Wh.Feat) (m : Nat) (ad : Addr) (w : World) (hF : FeatBox w m f) :
    Calls Tryz.prog 12 #[.iface 36 (.pointer (some ⟨m, 0, none⟩)), .pointer (some ad), mntVal o] w (MNewPost (mNewErr o f) w) := by
  have hb1 : Below w.heap.size w (w.alloc (mntObj o)) := bAlloc (Below.refl _ _) _
  have HB := Lib.hid (mntBox_new w o)
  have HC := Lib.hid (fun W => mntIn_check o W)
  have hF0 := fun W (hb : Below w.heap.size w W) => memFeatures_any f m W (hF.under hb)
  unfold featVal at hF0
  have HF := Lib.hid hF0
  clear hF0
  have h8 : (bits BinOp.and IntKind.i64 f.has 80 == 0) = has80 f := rfl
  have hE : mNewErr o f = if Wh.mntErr o = 0 then (if has80 f then 12 else 0) else Wh.mntErr o := rfl
  have HE := Lib.hid hE
  clear hE hF
  generalize mNewErr o f = E at *
  generalize Wh.mntErr o = E0 at *
  generalize has80 f = b8 at *
  unfold mntVal mntObj at *
  go_enter Tryz.func12, Tryz.ntmps12
  go_upto_region 1 with fail
  generalize w.alloc _ = w1 at *
  obtain ⟨k0, k1, k2, k3, k4, k5, k6, k7⟩ := HB.out
  by_cases h0 : E0 = 0
  · subst h0
    have hmm := memMethod
    have hen := enters_memFeatures
    go_upto_region 7 with (first | (go_at_call 8; refine (HC.out _).mono ?_; rintro e w2 ⟨rfl, hb2⟩) | (go_at_call 274; refine (HF.out _ (bTrans hb1 hb2)).mono ?_; rintro e w3 ⟨rfl, hb3⟩))
    have hb5 := bAlloc (bTrans (bTrans hb1 hb2) hb3) (featObj f)
    have HF5 := featBox_new w3 f
    have HB5 := Lib.hid (HB.out.under (bAlloc (bTrans hb2 hb3) (featObj f)))
    unfold featObj at *
    clear k0 k1 k2 k3 k4 k5 k6 k7
    generalize w3.heap.size = N3 at *
    generalize w3.alloc _ = w5 at *
    obtain ⟨n0, n1, n2, n3, n4, n5, n6, n7, n8, n9⟩ := HF5
    cases b8
    · replace HE : Hid (E = 0) := Lib.hid (by rw [HE.out]; rfl)
      obtain ⟨k0, k1, k2, k3, k4, k5, k6, k7⟩ := HB5.out
      have hmk := @run_makeMap Tryz.prog
      go_wp2_with fail
      go_ret2
      obtain rfl := HE.out
      exact ⟨some _, rfl, rfl, bAlloc (bAlloc (bAlloc (bAlloc hb5 _) _) _) _⟩
    · replace HE : Hid (E = 12) := Lib.hid (by rw [HE.out]; rfl)
      go_wp2_with fail
      go_ret2
      obtain rfl := HE.out
      exact ⟨none, rfl, rfl, hb5⟩
  · have q : (E0 != 0) = true := by simp [h0]
    replace HE : Hid (E = E0) := Lib.hid (by rw [HE.out, if_neg h0])
    have HN := Lib.hid h0
    clear h0
    go_wp2_with (go_at_call 8; refine (HC.out _).mono ?_; rintro e w2 ⟨rfl, hb2⟩)
    go_ret2
    obtain rfl := HE.out
    exact ⟨none, rfl, by simp [HN.out], bTrans hb1 hb2⟩
end Go.Proofs.YtiliijiohmeagaaGreatDoor
