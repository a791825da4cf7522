/-
  (*store.Memory).Plan.
-/
import Derived.Test.YtiliijiohmeagaaGreatDoorFault3
namespace Go.Proofs.YtiliijiohmeagaaGreatDoor
open Go.RowKit

/-- Fourteen zeros. -/
abbrev zeros14 : Obj := .cells #[.int .i64 0, .int .i64 0, .int .i64 0, .int .i64 0, .int .i64 0, .int .i64 0, .int .i64 0, .int .i64 0, .int .i64 0, .int .i64 0, .int .i64 0, .int .i64 0, .int .i64 0, .int .i64 0] 3
theorem make14 : ∀ w : World, (Instr.makeSlice 61 (.int .i64 14) (.int .i64 14)).run Tryz.prog w = .ok (.slice (some ⟨w.heap.size, 0, none⟩) 14 14) (w.alloc zeros14) := fun _ => by kernel_rfl

set_option maxHeartbeats 2000000 in
set_option maxRecDepth 100000 in
theorem plan_any (xs : List Wh.Fault) (a : Option Addr) (c : Nat) (w : World) (b B : Nat) (v14 v15 : Value) (hlc : xs.length ≤ c) (hH : HoldsR w a 4 (xs.map faultCells)) (hB : B ≤ b) (hbw : b < w.heap.size)
    (h14 : w.cell? ⟨b, 14, none⟩ = some v14) (h15 : w.cell? ⟨b, 15, none⟩ = some v15) (f14 : w.frozen? ⟨b, 14, none⟩ = false) (f15 : w.frozen? ⟨b, 15, none⟩ = false) :
    Calls Tryz.prog 71 #[.pointer (some ⟨b, 0, none⟩), .slice a xs.length c] w fun e w' => e = .returned (.int .i64 (Wh.faultsErr xs)) ∧ Below B w w' := by
  have hBw : B ≤ w.heap.size := by omega
  have HM := Lib.hid (fun W (hW : Below w.heap.size w W) => And.intro ((hW.cell (p := ⟨b, 14, none⟩) hbw).trans h14) (And.intro ((hW.cell (p := ⟨b, 15, none⟩) hbw).trans h15) (And.intro ((hW.frozen (p := ⟨b, 14, none⟩) hbw).trans f14) ((hW.frozen (p := ⟨b, 15, none⟩) hbw).trans f15))))
  clear h14 h15 f14 f15
  have hE : Wh.faultsErr xs = if 1000 < xs.length then 8 else Wh.faultsGo xs 0 xs.length := rfl
  have HE := Lib.hid hE
  have HH := Lib.hid hH
  clear hE hH
  generalize Wh.faultsErr xs = E at *
  by_cases hbig : 1000 < xs.length
  · have HK : Hid (E = 8) := Lib.hid (by rw [HE.out, if_pos hbig])
    go_enter Tryz.func71, Tryz.ntmps71
    go_wp2_with fail
    go_ret
    exact ⟨ret_int HK.out.symm, Below.refl _ _⟩
  · replace HE : Hid (E = Wh.faultsGo xs 0 xs.length) := Lib.hid (by rw [HE.out, if_neg hbig])
    go_enter Tryz.func71, Tryz.ntmps71
    go_wp2_with fail
    go_loopg [12] xs.length (fun g i wx => ∃ k : Nat, k + g = xs.length ∧ i = .int .i64 k ∧ Below w.heap.size w wx ∧ Hid (E = Wh.faultsGo xs k g))
    case atStart => exact ⟨0, by omega, rfl, Below.refl _ _, HE⟩
    case round =>
      obtain ⟨k, hk, rfl, hb, HG⟩ := hrel
      by_cases hlt : k < xs.length
      · obtain ⟨g, rfl⟩ : ∃ g, gk = g + 1 := ⟨gk - 1, by omega⟩
        obtain ⟨x, hx⟩ : ∃ x, xs[k]? = some x := ⟨_, List.getElem?_eq_getElem hlt⟩
        obtain ⟨ba, off, ha, hba, hc0, hc1, hc2, hc3⟩ := faultRow (HH.out.under hb) hx
        subst ha
        have HSt := Lib.hid (Wh.faultsGo_step (g := g) hx)
        have HSp := Lib.hid (Wh.faultsGo_stop (g := g) hx)
        clear hx
        have hb2 : Below wr.heap.size wr (wr.alloc (.cells #[.int .i64 x.call, .int .i64 x.number, .int .i64 x.err, .int .i64 x.bytes] 257)) := bAlloc (Below.refl _ _) _
        have hb3 := bTrans hb hb2
        have HT : HoldsR (wr.alloc (.cells #[.int .i64 x.call, .int .i64 x.number, .int .i64 x.err, .int .i64 x.bytes] 257)) (some ⟨ba, off, none⟩) 4 ((xs.take k).map faultCells) := by
          rw [List.map_take]
          exact (HH.out.under hb3).take k
        have hln : (xs.take k).length = k := by rw [List.length_take]; omega
        have HCF := containsFunc_fault 129 (.pointer (some ⟨wr.heap.size, 0, none⟩)) (Wh.sameF x) (some ⟨ba, off, none⟩) c (xs.take k) _ enters_plan1 (by omega) HT (fun y _ W hb => plan1_any x y wr.heap.size W ((faultBox_new wr x).under hb))
        rw [hln] at HCF
        have H5 := Lib.hid (@Wh.faultErr_5 (xs.take k) x)
        have H7 := Lib.hid (@Wh.faultErr_7 (xs.take k) x)
        have H6 := Lib.hid (@Wh.faultErr_6 (xs.take k) x)
        have H4 := Lib.hid (@Wh.faultErr_4 (xs.take k) x)
        have H0 := Lib.hid (@Wh.faultErr_0 (xs.take k) x)
        have HCF := Lib.hid HCF
        clear HT hln
        generalize (xs.take k).any (Wh.sameF x) = an at *
        generalize Wh.faultErr (xs.take k) x = FE at *
        by_cases t1 : x.call < 0
        · have HK : Hid (E = 5) := Lib.hid (by rw [HG.out, HSp.out (by rw [H5.out (.inl t1)]; decide), H5.out (.inl t1)])
          go_wp2_with fail
          go_ret
          exact ⟨ret_int HK.out.symm, hb3.mono hBw⟩
        by_cases t2 : 13 < x.call
        · have HK : Hid (E = 5) := Lib.hid (by rw [HG.out, HSp.out (by rw [H5.out (.inr t2)]; decide), H5.out (.inr t2)])
          go_wp2_with fail
          go_ret
          exact ⟨ret_int HK.out.symm, hb3.mono hBw⟩
        have e7 := fun h => H7.out (by omega) h
        have HE7 : Hid ((x.number < 1 ∨ 2147483647 < x.number ∨ x.bytes < 0) → E = 7) := Lib.hid (fun h => by rw [HG.out, HSp.out (by rw [e7 h]; decide), e7 h])
        clear e7
        by_cases t3 : x.number < 1
        · have HK := Lib.hid (HE7.out (.inl t3))
          go_wp2_with fail
          go_ret
          exact ⟨ret_int HK.out.symm, hb3.mono hBw⟩
        by_cases t4 : 2147483647 < x.number
        · have HK := Lib.hid (HE7.out (.inr (.inl t4)))
          go_wp2_with fail
          go_ret
          exact ⟨ret_int HK.out.symm, hb3.mono hBw⟩
        by_cases t5 : x.bytes < 0
        · have HK := Lib.hid (HE7.out (.inr (.inr t5)))
          go_wp2_with fail
          go_ret
          exact ⟨ret_int HK.out.symm, hb3.mono hBw⟩
        clear HE7 H7 H5
        replace H6 := Lib.hid (H6.out (by omega) (by omega))
        replace H4 := Lib.hid (H4.out (by omega) (by omega))
        replace H0 := Lib.hid (H0.out (by omega) (by omega))
        by_cases t6 : x.err ≠ 16 ∧ x.err ≠ 17 ∧ x.err ≠ 15 ∧ x.err ≠ 14
        · have HK : Hid (E = 6) := Lib.hid (by rw [HG.out, HSp.out (by rw [H6.out t6]; decide), H6.out t6])
          have q1 := bne_true t6.1
          have q2 := bne_true t6.2.1
          have q3 := bne_true t6.2.2.1
          have q4 := bne_true t6.2.2.2
          clear t6
          go_wp2_with fail
          go_ret
          exact ⟨ret_int HK.out.symm, hb3.mono hBw⟩
        replace H4 := Lib.hid (H4.out t6)
        replace H0 := Lib.hid (H0.out t6)
        clear H6
        have hq : (x.err != 16) = false ∨ ((x.err != 16) = true ∧ (x.err != 17) = false) ∨ ((x.err != 16) = true ∧ (x.err != 17) = true ∧ (x.err != 15) = false) ∨ ((x.err != 16) = true ∧ (x.err != 17) = true ∧ (x.err != 15) = true ∧ (x.err != 14) = false) := by
          rcases (by omega : x.err = 16 ∨ x.err = 17 ∨ x.err = 15 ∨ x.err = 14) with h | h | h | h <;> rw [h] <;> decide
        clear t6
        have HEnd : Hid ((an = true → E = 4) ∧ (an = false → E = Wh.faultsGo xs (k + 1) g)) := Lib.hid ⟨fun h => by rw [HG.out, HSp.out (by rw [H4.out h]; decide), H4.out h], fun h => by rw [HG.out, HSt.out (H0.out h)]⟩
        clear HG HSp HSt H4 H0
        rcases hq with q1 | ⟨q1, q2⟩ | ⟨q1, q2, q3⟩ | ⟨q1, q2, q3, q4⟩
        all_goals
          go_wp2_with (go_at_call 128; refine HCF.out.mono ?_; rintro e w4 ⟨rfl, hb4⟩; cases an)
          · have HK := Lib.hid (HEnd.out.2 (by simp))
            go_roundg g
            case measure => omega
            case rel => exact ⟨k + 1, by omega, by go_num, bTrans hb3 hb4, HK⟩
          · have HK := Lib.hid (HEnd.out.1 (by simp))
            go_ret
            exact ⟨ret_int HK.out.symm, (bTrans hb3 hb4).mono hBw⟩
      · obtain rfl : gk = 0 := by omega
        have HK : Hid (E = 0) := Lib.hid (by rw [HG.out, Wh.faultsGo])
        have HCl := Lib.hid (cloneFaults_any xs a c wr (by omega) (HH.out.under hb))
        go_wp2_with fail
        refine HCl.out.mono ?_
        rintro e w5 ⟨⟨a5, n5, c5, rfl⟩, hb5⟩
        have hb6 := bTrans hb hb5
        obtain ⟨m14, m15, g14, g15⟩ := HM.out w5 hb6
        have hne : w5.heap.size ≠ b := by have := hb6.size; omega
        have hlt5 : b < w5.heap.size := by have := hb6.size; omega
        have hb7 : Below B w (w5.setCell ⟨b, 15, none⟩ (.slice a5 n5 c5)) := (hb6.mono hBw).setCell hB _
        have m14' : (w5.setCell ⟨b, 15, none⟩ (.slice a5 n5 c5)).cell? ⟨b, 14, none⟩ = some v14 := by rw [World.cell?_setCell_other _ _ _ _ (by simp)]; exact m14
        have g14' : (w5.setCell ⟨b, 15, none⟩ (.slice a5 n5 c5)).frozen? ⟨b, 14, none⟩ = false := by simp [g14]
        have hs6 : (w5.setCell ⟨b, 15, none⟩ (.slice a5 n5 c5)).heap.size = w5.heap.size := by simp
        have hmk := make14
        go_upto_region 16 with fail
        clear m14 m15 g14 g15
        generalize w5.setCell ⟨b, 15, none⟩ (.slice a5 n5 c5) = w6 at *
        rw [← hs6] at hne hlt5
        clear hs6
        have hne2 : (⟨w6.heap.size, 0, none⟩ : Addr) ≠ ⟨b, 14, none⟩ := by simp
        have m14 : (w6.alloc zeros14).cell? ⟨b, 14, none⟩ = some v14 := by rw [World.cell?_alloc_lt _ _ _ hlt5]; exact m14'
        have g14 : (w6.alloc zeros14).frozen? ⟨b, 14, none⟩ = false := by rw [World.frozen?_alloc_past _ _ _ hlt5]; exact g14'
        go_wp2_with fail
        go_ret
        refine ⟨ret_int HK.out.symm, ?_⟩
        exact (hb7.setCell (p := ⟨b, 14, none⟩) hB _).alloc (by simp; omega) _
end Go.Proofs.YtiliijiohmeagaaGreatDoor
