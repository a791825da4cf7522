/-
  both.checkAct.
-/
import Derived.Test.YtjcpcmiijadmcaaDoorPaths
import Derived.Test.YtjcpcmiijadmcaaDoorPlainDeal
namespace Go.Proofs.YtjcpcmiijadmcaaDoor
open Go.RowKit

def actCells (x : Wh.Act) : List Value := [.int .i64 x.kind, .int .i64 x.side, .string x.frm, .string x.to, .int .i64 x.size, .int .i64 x.time]
abbrev actVal (x : Wh.Act) : Value := .agg #[.int .i64 x.kind, .int .i64 x.side, .string x.frm, .string x.to, .int .i64 x.size, .int .i64 x.time]

theorem bcell {W w1 : World} (hb : Below W.heap.size W w1) : (∀ b o, b < W.heap.size → w1.cell? ⟨b, o, none⟩ = W.cell? ⟨b, o, none⟩) ∧ (∀ b o, b < W.heap.size → w1.frozen? ⟨b, o, none⟩ = W.frozen? ⟨b, o, none⟩) :=
  ⟨fun b o h => hb.cell (p := ⟨b, o, none⟩) h, fun b o h => hb.frozen (p := ⟨b, o, none⟩) h⟩

set_option maxHeartbeats 1000000 in
theorem actPath_any (s : ByteArray) (w : World) (hE : Env w) (hs : s.size ≤ 9223372036854775807) :
    Calls Tryd.prog 70 #[.string s] w fun e w' => e = .returned (.bool (Wh.pathNE s)) ∧ Below w.heap.size w w' := by
  have HC := Lib.hid (check_any s w hE hs)
  have HP : Hid (Wh.pathNE s = (!s.toList.isEmpty && Wh.isPath s.data.toList)) := Lib.hid (by rw [Lib.toList_data]; rfl)
  have HQ : Hid (Wh.isPath s.data.toList = decide (Wh.pathErr s.data.toList = 0)) := Lib.hid (by unfold Wh.pathErr; cases Wh.isPath s.data.toList <;> simp)
  clear hE
  cases h0 : s.toList.isEmpty
  case true =>
    have h1 : s.toList = [] := List.isEmpty_iff.1 h0
    go_enter Tryd.func70, Tryd.ntmps70
    go_wp2_with fail
    go_ret
    exact ⟨by rw [HP.out, h0]; rfl, Below.refl _ _⟩
  case false =>
    have h1 : ¬ s.toList = [] := fun e => by rw [e] at h0; cases h0
    rw [h0, HQ.out] at HP
    clear HQ
    generalize Wh.pathErr s.data.toList = E0 at *
    go_enter Tryd.func70, Tryd.ntmps70
    go_wp2_with (go_at_call 29; refine HC.out.mono ?_; rintro e w' ⟨rfl, hb⟩)
    go_ret
    exact ⟨by rw [HP.out]; cases h : decide (E0 = 0) <;> simp_all, hb⟩

theorem enters_act1 : ∀ args w, (callFunc 70 args).run Tryd.prog w = .ok (.enter 70 args) w := enters_of Tryd.func70 (by kernel_rfl) rfl

set_option maxHeartbeats 2000000 in
set_option maxRecDepth 100000 in
theorem checkAct_any (x : Wh.Act) (w : World) (hE : Env w) (h1 : x.frm.size ≤ 9223372036854775807) (h2 : x.to.size ≤ 9223372036854775807) :
    Calls Tryd.prog 41 #[actVal x] w fun e w' => e = .returned (.int .i64 (Wh.actErr x)) ∧ Below w.heap.size w w' := by
  have HF := Lib.hid (fun W (hb : Below w.heap.size w W) => actPath_any x.frm W (hE.under hb) h1)
  have HT := Lib.hid (fun W (hb : Below w.heap.size w W) => actPath_any x.to W (hE.under hb) h2)
  have HB0 := Lib.hid (fun o => bAlloc (Below.refl w.heap.size w) o)
  have HK : Hid (Wh.actErr x = Wh.actE x.kind x.side (Wh.pathNE x.frm) (Wh.pathNE x.to) x.to.toList.isEmpty x.size x.time) := Lib.hid (by rw [Lib.toList_data]; rfl)
  clear hE h1 h2
  generalize Wh.actErr x = E at *
  obtain ⟨kind, side, frm, dst, size, time⟩ := x
  simp only [] at HF HT HK
  by_cases c1 : kind < 1
  · go_enter Tryd.func41, Tryd.ntmps41
    go_wp2_with fail
    go_ret
    exact ⟨ret_int (by rw [HK.out]; simp [Wh.actE, c1]), HB0.out _⟩
  by_cases c2 : 4 < kind
  · go_enter Tryd.func41, Tryd.ntmps41
    go_wp2_with fail
    go_ret
    exact ⟨ret_int (by rw [HK.out]; simp [Wh.actE, c2]), HB0.out _⟩
  by_cases c3 : side ≠ 1 ∧ side ≠ 2
  · have q1 : (side != 1) = true := by simp [c3.1]
    have q2 : (side != 2) = true := by simp [c3.2]
    replace HK : Hid (E = 5) := Lib.hid (by rw [HK.out]; simp [Wh.actE, c3])
    clear c3
    go_enter Tryd.func41, Tryd.ntmps41
    go_wp2_with fail
    go_ret
    exact ⟨ret_int HK.out.symm, HB0.out _⟩
  generalize Wh.pathNE frm = pf at *
  generalize Wh.pathNE dst = pt at *
  cases pf
  · rcases (by omega : kind = 1 ∨ kind = 2 ∨ kind = 3 ∨ kind = 4) with rfl | rfl | rfl | rfl <;> rcases (by omega : side = 1 ∨ side = 2) with rfl | rfl
    all_goals
      clear c1 c2 c3
      go_enter Tryd.func41, Tryd.ntmps41
      go_wp2_with fail
      refine (HF.out _ (HB0.out _)).mono ?_
      rintro e w1 ⟨rfl, hb1⟩
      go_wp2_with fail
      go_ret
      exact ⟨ret_int (by rw [HK.out]; simp [Wh.actE]), bTrans (HB0.out _) hb1⟩
  rcases (by omega : (kind = 1 ∨ kind = 2) ∨ (kind = 3 ∨ kind = 4)) with hk | hk
  · clear c1 c2
    generalize dst.toList.isEmpty = te at *
    rcases hk with rfl | rfl <;> rcases (by omega : side = 1 ∨ side = 2) with rfl | rfl
    all_goals
      clear c3
      cases pt
      all_goals
        go_enter Tryd.func41, Tryd.ntmps41
        go_wp2_with fail
        refine (HF.out _ (HB0.out _)).mono ?_
        rintro e w1 ⟨rfl, hb1⟩
        have hb2 := bTrans (HB0.out _) hb1
        obtain ⟨hcc, hff⟩ := bcell hb1
        have hz : w.heap.size < w1.heap.size := by have := hb1.size; simp at this; omega
        clear hb1
        go_wp2_with fail
        refine (HT.out _ hb2).mono ?_
        rintro e w3 ⟨rfl, hb3⟩
        have hb4 := bTrans hb2 hb3
        obtain ⟨hcc2, hff2⟩ := bcell hb3
        clear hb3
        go_wp2_with fail
        all_goals go_ret
        all_goals refine ⟨ret_int ?_, hb4⟩
        all_goals rw [HK.out]
        all_goals simp_all [Wh.actE]
  · clear c1 c2 HT
    cases h0 : dst.toList.isEmpty
    case' true => have h1 : dst.toList = [] := List.isEmpty_iff.1 h0
    case' false => have h1 : ¬ dst.toList = [] := fun e => by rw [e] at h0; cases h0
    all_goals
      rw [h0] at HK
      rcases hk with rfl | rfl <;> rcases (by omega : side = 1 ∨ side = 2) with rfl | rfl
      all_goals
        clear c3
        go_enter Tryd.func41, Tryd.ntmps41
        go_wp2_with fail
        refine (HF.out _ (HB0.out _)).mono ?_
        rintro e w1 ⟨rfl, hb1⟩
        have hb2 := bTrans (HB0.out _) hb1
        obtain ⟨hcc, hff⟩ := bcell hb1
        clear hb1
        go_wp2_with fail
        all_goals go_ret
        all_goals refine ⟨ret_int ?_, hb2⟩
        all_goals rw [HK.out]
        all_goals simp_all [Wh.actE]
end Go.Proofs.YtjcpcmiijadmcaaDoor
