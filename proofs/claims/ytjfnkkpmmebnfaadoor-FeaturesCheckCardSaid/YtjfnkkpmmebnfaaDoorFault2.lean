/-
  Lists of faults: CheckFaults.
-/
import Derived.Test.YtjfnkkpmmebnfaaDoorFault
namespace Go.Proofs.YtjfnkkpmmebnfaaDoor
open Go.RowKit

theorem bne_false {a b : Int} (h : a = b) : (a != b) = false := by simp [h]
theorem bne_true {a b : Int} (h : ¬ a = b) : (a != b) = true := by simp [h]

theorem faultBox_new (w : World) (x : Wh.Fault) : FaultBox (w.alloc (.cells #[.int .i64 x.call, .int .i64 x.number, .int .i64 x.err, .int .i64 x.bytes] 92)) w.heap.size x := by
  refine ⟨by simp, ?_, ?_⟩ <;> (rw [World.cell?_alloc_at _ _ _ _ rfl]; rfl)

set_option maxHeartbeats 2000000 in
set_option maxRecDepth 100000 in
theorem refFaults_any (xs : List Wh.Fault) (a : Option Addr) (c : Nat) (w : World) (hlc : xs.length ≤ c) (hH : HoldsR w a 4 (xs.map faultCells)) :
    Calls Tryd.prog 17 #[.slice a xs.length c] w fun e w' => e = .returned (.int .i64 (Wh.faultsErr xs)) ∧ Below w.heap.size w w' := by
  have hE : Wh.faultsErr xs = if 1000 < xs.length then 8 else Wh.faultsGo xs 0 xs.length := rfl
  have HE := Lib.hid hE
  have HH := Lib.hid hH
  clear hE hH
  generalize Wh.faultsErr xs = E at *
  by_cases hbig : 1000 < xs.length
  · have HK : Hid (E = 8) := Lib.hid (by rw [HE.out, if_pos hbig])
    go_enter Tryd.func17, Tryd.ntmps17
    go_wp2_with fail
    go_ret
    exact ⟨ret_int HK.out.symm, Below.refl _ _⟩
  · replace HE : Hid (E = Wh.faultsGo xs 0 xs.length) := Lib.hid (by rw [HE.out, if_neg hbig])
    go_enter Tryd.func17, Tryd.ntmps17
    go_wp2_with fail
    go_loopg [10] xs.length (fun g i wx => ∃ k : Nat, k + g = xs.length ∧ i = .int .i64 k ∧ Below w.heap.size w wx ∧ Hid (E = Wh.faultsGo xs k g))
    case atStart => exact ⟨0, by omega, rfl, Below.refl _ _, HE⟩
    case round =>
      obtain ⟨k, hk, rfl, hb, HG⟩ := hrel
      by_cases hlt : k < xs.length
      · obtain ⟨g, rfl⟩ : ∃ g, gk = g + 1 := ⟨gk - 1, by omega⟩
        obtain ⟨x, hx⟩ : ∃ x, xs[k]? = some x := ⟨_, List.getElem?_eq_getElem hlt⟩
        obtain ⟨ba, off, ha, hba, hc0, hc1, hc2, hc3⟩ := faultRow (HH.out.under hb) hx
        subst ha
        have HSt := Lib.hid (Wh.faultsGo_step (g := g) hx)
        have HSp := Lib.hid (Wh.faultsGo_stop (g := g) hx)
        clear hx
        have hb2 : Below wr.heap.size wr (wr.alloc (.cells #[.int .i64 x.call, .int .i64 x.number, .int .i64 x.err, .int .i64 x.bytes] 92)) := bAlloc (Below.refl _ _) _
        have hb3 := bTrans hb hb2
        have HT : HoldsR (wr.alloc (.cells #[.int .i64 x.call, .int .i64 x.number, .int .i64 x.err, .int .i64 x.bytes] 92)) (some ⟨ba, off, none⟩) 4 ((xs.take k).map faultCells) := by
          rw [List.map_take]
          exact (HH.out.under hb3).take k
        have hln : (xs.take k).length = k := by rw [List.length_take]; omega
        have HCF := containsFunc_fault 55 (.pointer (some ⟨wr.heap.size, 0, none⟩)) (Wh.sameF x) (some ⟨ba, off, none⟩) c (xs.take k) _ enters_refFaults1 (by omega) HT (fun y _ W hb => refFaults1_any x y wr.heap.size W ((faultBox_new wr x).under hb))
        rw [hln] at HCF
        have H5 := Lib.hid (@Wh.faultErr_5 (xs.take k) x)
        have H7 := Lib.hid (@Wh.faultErr_7 (xs.take k) x)
        have H6 := Lib.hid (@Wh.faultErr_6 (xs.take k) x)
        have H4 := Lib.hid (@Wh.faultErr_4 (xs.take k) x)
        have H0 := Lib.hid (@Wh.faultErr_0 (xs.take k) x)
        have HCF := Lib.hid HCF
        clear HT hln
        generalize (xs.take k).any (Wh.sameF x) = an at *
        generalize Wh.faultErr (xs.take k) x = FE at *
        by_cases t1 : x.call < 0
        · have HK : Hid (E = 5) := Lib.hid (by rw [HG.out, HSp.out (by rw [H5.out (.inl t1)]; decide), H5.out (.inl t1)])
          go_wp2_with fail
          go_ret
          exact ⟨ret_int HK.out.symm, hb3⟩
        by_cases t2 : 13 < x.call
        · have HK : Hid (E = 5) := Lib.hid (by rw [HG.out, HSp.out (by rw [H5.out (.inr t2)]; decide), H5.out (.inr t2)])
          go_wp2_with fail
          go_ret
          exact ⟨ret_int HK.out.symm, hb3⟩
        have e7 := fun h => H7.out (by omega) h
        have HE7 : Hid ((x.number < 1 ∨ 2147483647 < x.number ∨ x.bytes < 0) → E = 7) := Lib.hid (fun h => by rw [HG.out, HSp.out (by rw [e7 h]; decide), e7 h])
        clear e7
        by_cases t3 : x.number < 1
        · have HK := Lib.hid (HE7.out (.inl t3))
          go_wp2_with fail
          go_ret
          exact ⟨ret_int HK.out.symm, hb3⟩
        by_cases t4 : 2147483647 < x.number
        · have HK := Lib.hid (HE7.out (.inr (.inl t4)))
          go_wp2_with fail
          go_ret
          exact ⟨ret_int HK.out.symm, hb3⟩
        by_cases t5 : x.bytes < 0
        · have HK := Lib.hid (HE7.out (.inr (.inr t5)))
          go_wp2_with fail
          go_ret
          exact ⟨ret_int HK.out.symm, hb3⟩
        clear HE7 H7 H5
        replace H6 := Lib.hid (H6.out (by omega) (by omega))
        replace H4 := Lib.hid (H4.out (by omega) (by omega))
        replace H0 := Lib.hid (H0.out (by omega) (by omega))
        by_cases t6 : x.err ≠ 16 ∧ x.err ≠ 17 ∧ x.err ≠ 15 ∧ x.err ≠ 14
        · have HK : Hid (E = 6) := Lib.hid (by rw [HG.out, HSp.out (by rw [H6.out t6]; decide), H6.out t6])
          have q1 := bne_true t6.1
          have q2 := bne_true t6.2.1
          have q3 := bne_true t6.2.2.1
          have q4 := bne_true t6.2.2.2
          clear t6
          go_wp2_with fail
          go_ret
          exact ⟨ret_int HK.out.symm, hb3⟩
        replace H4 := Lib.hid (H4.out t6)
        replace H0 := Lib.hid (H0.out t6)
        clear H6
        have hq : (x.err != 16) = false ∨ ((x.err != 16) = true ∧ (x.err != 17) = false) ∨ ((x.err != 16) = true ∧ (x.err != 17) = true ∧ (x.err != 15) = false) ∨ ((x.err != 16) = true ∧ (x.err != 17) = true ∧ (x.err != 15) = true ∧ (x.err != 14) = false) := by
          rcases (by omega : x.err = 16 ∨ x.err = 17 ∨ x.err = 15 ∨ x.err = 14) with h | h | h | h <;> rw [h] <;> decide
        clear t6
        have HEnd : Hid ((an = true → E = 4) ∧ (an = false → E = Wh.faultsGo xs (k + 1) g)) := Lib.hid ⟨fun h => by rw [HG.out, HSp.out (by rw [H4.out h]; decide), H4.out h], fun h => by rw [HG.out, HSt.out (H0.out h)]⟩
        clear HG HSp HSt H4 H0
        rcases hq with q1 | ⟨q1, q2⟩ | ⟨q1, q2, q3⟩ | ⟨q1, q2, q3, q4⟩
        all_goals
          go_wp2_with (go_at_call 54; refine HCF.out.mono ?_; rintro e w4 ⟨rfl, hb4⟩; cases an)
          · have HK := Lib.hid (HEnd.out.2 (by simp))
            go_roundg g
            case measure => omega
            case rel => exact ⟨k + 1, by omega, by go_num, bTrans hb3 hb4, HK⟩
          · have HK := Lib.hid (HEnd.out.1 (by simp))
            go_ret
            exact ⟨ret_int HK.out.symm, bTrans hb3 hb4⟩
      · obtain rfl : gk = 0 := by omega
        have HK : Hid (E = 0) := Lib.hid (by rw [HG.out, Wh.faultsGo])
        go_wp2_with fail
        go_ret
        exact ⟨ret_int HK.out.symm, hb⟩
end Go.Proofs.YtjfnkkpmmebnfaaDoor
