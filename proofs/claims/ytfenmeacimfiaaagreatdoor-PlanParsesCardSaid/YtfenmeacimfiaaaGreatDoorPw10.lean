/-
  The reference's CheckPlan.
-/
import Derived.Test.YtfenmeacimfiaaaGreatDoorPw9
namespace Go.Proofs.YtfenmeacimfiaaaGreatDoor
open Go.RowKit

set_option maxHeartbeats 4000000 in
set_option maxRecDepth 100000 in
theorem refCheckPlan_any (S : List PStep) (R : List PRef) (same bytes : Int) (sa ra : Option Addr) (sc rc : Nat) (w : World) (hE : Env w) (hS : ∀ s ∈ S, GoodStep s) (hR : ∀ x ∈ R, GoodRef x) (hn : S.length + R.length ≤ 2000000)
    (h1 : HoldsR w sa 5 (S.map stepCells)) (h2 : HoldsR w ra 2 (R.map refCells)) (hb0 : Wh.inI bytes) (hs0 : Wh.inI same) :
    Calls Tryz.prog 28 #[.agg #[.slice sa S.length sc, .slice ra R.length rc, .int .i64 same, .int .i64 bytes]] w fun e w' => e = .returned (.int .i64 (checkV S R same bytes)) ∧ Below w.heap.size w w' := by
  obtain ⟨b0, b1⟩ := hb0
  obtain ⟨s0, s1⟩ := hs0
  have HSt := Lib.hid hS
  have HRf := Lib.hid hR
  have HH1 := Lib.hid h1
  have HH2 := Lib.hid h2
  have HE := Lib.hid hE
  have HX := Lib.hid (BoxIs.new w #[.slice sa S.length sc, .slice ra R.length rc, .int .i64 same, .int .i64 bytes] planTy)
  have HB1 := Lib.hid (bAlloc (Below.refl w.heap.size w) (.cells #[.slice sa S.length sc, .slice ra R.length rc, .int .i64 same, .int .i64 bytes] planTy))
  obtain ⟨V, hV⟩ : ∃ V, checkV S R same bytes = V := ⟨_, rfl⟩
  have HV := Lib.hid hV
  rw [hV]
  clear hS hR h1 h2 hE hV
  go_enter Tryz.func28, Tryz.ntmps28
  go_upto_region 1 with fail
  generalize w.alloc _ = w1 at *
  have c0 := HX.out.cell (j := 0) rfl
  have c1 := HX.out.cell (j := 1) rfl
  by_cases hbig : 20000 < S.length + R.length
  · have HK : Hid (V = 8) := Lib.hid (by rw [← HV.out]; exact if_pos hbig)
    have hbg : (20000 : Int) < (S.length : Int) + (R.length : Int) := by omega
    go_wp2_with fail
    go_ret
    exact ⟨ret_int HK.out.symm, HB1.out⟩
  have hbg : ¬ (20000 : Int) < (S.length : Int) + (R.length : Int) := by omega
  have HV2 : Hid (V = if firstErr stepErrV S ≠ 0 then firstErr stepErrV S else if firstErr refErrV R ≠ 0 then firstErr refErrV R else if same < 0 ∨ bytes < 0 ∨ 9223372036854775807 < total S ∨ bytes ≠ total S then 7 else 0) := Lib.hid (by rw [← HV.out]; exact if_neg hbig)
  clear hbig HV
  go_wp2_with fail
  go_loopg [3, 4, 22] S.length (fun g s3 s4 s22 wx => ∃ (k : Nat) (acc : Int) (over : Bool), k + g = S.length ∧ s22 = .int .i64 k ∧ s3 = .int .u64 acc ∧ s4 = .bool over ∧ 0 ≤ acc ∧ acc ≤ 18446744073709551615 ∧ Hid (Below w1.heap.size w1 wx) ∧ Hid (firstErr stepErrV S = firstErr stepErrV (S.drop k)) ∧ Hid (TotR (total (S.take k)) over acc))
  case atStart => exact ⟨0, 0, false, by omega, rfl, rfl, rfl, by omega, by omega, Lib.hid (Below.refl _ _), Lib.hid rfl, Lib.hid (TotR.start S)⟩
  case round =>
    obtain ⟨k, acc, over, hk, rfl, rfl, rfl, a0, a1, HBw, HFe, HTo⟩ := hrel
    by_cases hlt : k < S.length
    · obtain ⟨g, rfl⟩ : ∃ g, gk = g + 1 := ⟨gk - 1, by omega⟩
      obtain ⟨y, hy⟩ : ∃ y, S[k]? = some y := ⟨_, List.getElem?_eq_getElem hlt⟩
      have hgy := HSt.out y (List.mem_of_getElem? hy)
      have HC := Lib.hid (fun W (hbb : Below wr.heap.size wr W) => stepError_any y W ((HE.out.under HB1.out).under (bTrans HBw.out hbb)) hgy)
      obtain ⟨ba, off, ha, hba, r0, r1, r2, r3, r4⟩ := stepRow (HH1.out.under (bTrans HB1.out HBw.out)) hy
      have HSs := Lib.hid (fun h0 => firstErr_step (f := stepErrV) hy h0)
      have HSp := Lib.hid (fun h0 => firstErr_stop (f := stepErrV) hy h0)
      have HTs := Lib.hid (total_step hy)
      have HZ := Lib.hid (fun h0 => size_of_err (s := y) h0)
      obtain ⟨yk, yp, yd, yz, ym⟩ := y
      obtain ⟨hft, ⟨q0, q1⟩, ⟨q2, q3⟩, _, _⟩ := hgy
      have HFt := Lib.hid hft
      clear hft
      dsimp only at r0 r1 r2 r3 r4 q0 q1 q2 q3
      simp only [stepArr] at HC
      clear hy
      subst ha
      generalize stepErrV ⟨yk, yp, yd, yz, ym⟩ = A0 at *
      have HNew := Lib.hid (BoxIs.new wr #[.int .i64 yk, .string yp, .string yd, .int .i64 yz, .int .i64 ym] stepTy)
      have HBn := Lib.hid (bAlloc (Below.refl wr.heap.size wr) (.cells #[.int .i64 yk, .string yp, .string yd, .int .i64 yz, .int .i64 ym] stepTy))
      go_upto_region 7 with fail
      generalize wr.alloc _ = w2 at *
      clear r0 r1 r2 r3 r4 c0 c1
      have d0 := HNew.out.cell (j := 0) rfl
      have d1 := HNew.out.cell (j := 1) rfl
      have d2 := HNew.out.cell (j := 2) rfl
      have d3 := HNew.out.cell (j := 3) rfl
      have d4 := HNew.out.cell (j := 4) rfl
      by_cases h0 : A0 = 0
      · subst h0
        have HSz := Lib.hid (HSs.out rfl)
        have hz0 : 0 ≤ yz := HZ.out rfl
        go_upto_region 8 with (go_at_call 82; refine (HC.out _ HBn.out).mono ?_; rintro e w3 ⟨rfl, hb3⟩; have HB3 := Lib.hid hb3; clear hb3)
        clear d0 d1 d2 d3 d4
        have d0 := (HNew.out.under HB3.out).cell (j := 0) rfl
        have d3 := (HNew.out.under HB3.out).cell (j := 3) rfl
        by_cases hkind : yk = 4 ∨ yk = 5
        · obtain ⟨A1, hA1⟩ : ∃ A1, IntKind.u64.wrap (acc + yz) = A1 := ⟨_, rfl⟩
          have hr1 : 0 ≤ A1 ∧ A1 ≤ 18446744073709551615 := by rw [← hA1, IntKind.wrap_u64]; omega
          obtain ⟨hr1, hr2⟩ := hr1
          have HTn : Hid (∀ o2 : Bool, o2 = (over || decide (9223372036854775807 < A1)) → TotR (total (S.take (k + 1))) o2 A1) := Lib.hid (by
            rintro o2 rfl
            obtain ⟨t0, t1, t2⟩ := HTo.out
            have ht := HTs.out
            try dsimp only at ht
            refine ⟨by omega, ?_, ?_⟩
            · cases over with
              | true => simp only [Bool.true_or, true_iff]; have := t1.1 rfl; omega
              | false =>
                have h3 := t2 rfl
                have h4 : ¬ 9223372036854775807 < total (S.take k) := fun h => by have := t1.2 h; cases this
                have h5 : A1 = acc + yz := by rw [← hA1, IntKind.wrap_u64]; omega
                rw [Bool.false_or, decide_eq_true_eq, h5, ht, h3]
            · intro ho
              rw [Bool.or_eq_false_iff] at ho
              have h3 := t2 ho.1
              have h4 : ¬ 9223372036854775807 < total (S.take k) := fun h => by have := t1.2 h; rw [ho.1] at this; cases this
              have h5 : A1 = acc + yz := by rw [← hA1, IntKind.wrap_u64]; omega
              rw [h5, ht, h3])
          have hyu : IntKind.u64.wrap yz = yz := IntWalk.u64_in yz (by omega)
          rcases hkind with rfl | rfl
          all_goals
            cases over
            · by_cases hneg : 9223372036854775807 < A1
              · have HT2 := Lib.hid (HTn.out true (by simp [hneg]))
                go_wp2_with fail
                go_roundg g
                case measure => omega
                case rel => exact ⟨k + 1, A1, true, by omega, by go_num, rfl, rfl, hr1, hr2, Lib.hid (bTrans (bTrans HBw.out HBn.out) HB3.out), Lib.hid (HFe.out.trans HSz.out), HT2⟩
              · have HT2 := Lib.hid (HTn.out false (by simp; omega))
                go_wp2_with fail
                go_roundg g
                case measure => omega
                case rel => exact ⟨k + 1, A1, false, by omega, by go_num, rfl, rfl, hr1, hr2, Lib.hid (bTrans (bTrans HBw.out HBn.out) HB3.out), Lib.hid (HFe.out.trans HSz.out), HT2⟩
            · have HT2 := Lib.hid (HTn.out true (by simp))
              go_wp2_with fail
              go_roundg g
              case measure => omega
              case rel => exact ⟨k + 1, A1, true, by omega, by go_num, rfl, rfl, hr1, hr2, Lib.hid (bTrans (bTrans HBw.out HBn.out) HB3.out), Lib.hid (HFe.out.trans HSz.out), HT2⟩
        · have HT2 : Hid (TotR (total (S.take (k + 1))) over acc) := Lib.hid (by
            have hz : yz = 0 := HFt.out.2.2.2.1 (by show (yk == 4 || yk == 5) = false; simp; omega)
            have ht := HTs.out
            try dsimp only at ht
            rw [ht, hz, Int.add_zero]
            exact HTo.out)
          have x4 : (((yk : Nat) : Int) == 4) = false := by
            have : ¬ ((yk : Nat) : Int) = 4 := by omega
            simpa using this
          have x5 : (((yk : Nat) : Int) == 5) = false := by
            have : ¬ ((yk : Nat) : Int) = 5 := by omega
            simpa using this
          clear hkind
          go_wp2_with fail
          go_roundg g
          case measure => omega
          case rel => exact ⟨k + 1, acc, over, by omega, by go_num, rfl, rfl, a0, a1, Lib.hid (bTrans (bTrans HBw.out HBn.out) HB3.out), Lib.hid (HFe.out.trans HSz.out), HT2⟩
      · have q : (A0 != 0) = true := by simp [h0]
        have HK : Hid (V = A0) := Lib.hid (by
          have := HFe.out.trans (HSp.out h0)
          rw [HV2.out, this, if_pos h0])
        clear h0
        go_wp2_with (go_at_call 82; refine (HC.out _ HBn.out).mono ?_; rintro e w3 ⟨rfl, hb3⟩; have HB3 := Lib.hid hb3; clear hb3)
        go_ret
        exact ⟨ret_int HK.out.symm, bTrans HB1.out (bTrans (bTrans HBw.out HBn.out) HB3.out)⟩
    · have HFe2 : Hid (firstErr stepErrV S = 0) := Lib.hid (by rw [HFe.out, List.drop_of_length_le (by omega)]; rfl)
      have HTo2 : Hid (TotR (total S) over acc) := Lib.hid (by
        have := HTo.out
        rw [List.take_of_length_le (by omega)] at this
        exact this)
      have HV3 : Hid (V = if firstErr refErrV R ≠ 0 then firstErr refErrV R else if same < 0 ∨ bytes < 0 ∨ 9223372036854775807 < total S ∨ bytes ≠ total S then 7 else 0) := Lib.hid (by rw [HV2.out, if_neg (by rw [HFe2.out]; decide)])
      clear HFe HFe2 HTo HV2 c0 c1
      have c1 := (HX.out.under HBw.out).cell (j := 1) rfl
      go_wp2_with fail
      go_loopg [53] R.length (fun g s44 wx => ∃ k : Nat, k + g = R.length ∧ s44 = .int .i64 k ∧ Hid (Below w1.heap.size w1 wx) ∧ Hid (firstErr refErrV R = firstErr refErrV (R.drop k)))
      case atStart => exact ⟨0, by omega, rfl, HBw, Lib.hid rfl⟩
      case round =>
        clear c1 HBw hlt hk
        obtain ⟨k, hk, rfl, HBw, HFe⟩ := hrel
        by_cases hlt : k < R.length
        · obtain ⟨g, rfl⟩ : ∃ g, gk = g + 1 := ⟨gk - 1, by omega⟩
          obtain ⟨y, hy⟩ : ∃ y, R[k]? = some y := ⟨_, List.getElem?_eq_getElem hlt⟩
          have hgy := HRf.out y (List.mem_of_getElem? hy)
          obtain ⟨ba, off, ha, hba, r0, r1⟩ := prefRow (HH2.out.under (bTrans HB1.out HBw.out)) hy
          have HSs := Lib.hid (fun h0 => firstErr_step (f := refErrV) hy h0)
          have HSp := Lib.hid (fun h0 => firstErr_stop (f := refErrV) hy h0)
          obtain ⟨yp, ye⟩ := y
          obtain ⟨⟨q0, q1⟩, q2⟩ := hgy
          dsimp only at r0 r1 q0 q1 q2
          clear hy
          subst ha
          have HNew := Lib.hid (BoxIs.new wr #[.string yp, .int .i64 ye] refTy)
          have HBn := Lib.hid (bAlloc (Below.refl wr.heap.size wr) (.cells #[.string yp, .int .i64 ye] refTy))
          have HC := Lib.hid (fun W (hbb : Below wr.heap.size wr W) => refusalError_any ⟨yp, ye⟩ W ((HE.out.under HB1.out).under (bTrans HBw.out hbb)) ⟨⟨q0, q1⟩, q2⟩)
          generalize refErrV ⟨yp, ye⟩ = A0 at *
          dsimp only at HC
          go_upto_region 17 with fail
          generalize wr.alloc _ = w2 at *
          clear r0 r1
          have d0 := HNew.out.cell (j := 0) rfl
          have d1 := HNew.out.cell (j := 1) rfl
          by_cases h0 : A0 = 0
          · subst h0
            have HNx := Lib.hid (HFe.out.trans (HSs.out rfl))
            go_wp2_with (go_at_call 83; refine (HC.out _ HBn.out).mono ?_; rintro e w3 ⟨rfl, hb3⟩; have HB3 := Lib.hid hb3; clear hb3)
            go_roundg g
            case measure => omega
            case rel => exact ⟨k + 1, by omega, by go_num, Lib.hid (bTrans (bTrans HBw.out HBn.out) HB3.out), HNx⟩
          · have q : (A0 != 0) = true := by simp [h0]
            have HK : Hid (V = A0) := Lib.hid (by
              have := HFe.out.trans (HSp.out h0)
              rw [HV3.out, this, if_pos h0])
            clear h0
            go_wp2_with (go_at_call 83; refine (HC.out _ HBn.out).mono ?_; rintro e w3 ⟨rfl, hb3⟩; have HB3 := Lib.hid hb3; clear hb3)
            go_ret
            exact ⟨ret_int HK.out.symm, bTrans HB1.out (bTrans (bTrans HBw.out HBn.out) HB3.out)⟩
        · have HFe2 : Hid (firstErr refErrV R = 0) := Lib.hid (by rw [HFe.out, List.drop_of_length_le (by omega)]; rfl)
          have HV4 : Hid (V = if same < 0 ∨ bytes < 0 ∨ 9223372036854775807 < total S ∨ bytes ≠ total S then 7 else 0) := Lib.hid (by rw [HV3.out, if_neg (by rw [HFe2.out]; decide)])
          clear HFe HFe2 HV3
          have c2 := (HX.out.under HBw.out).cell (j := 2) rfl
          have c3 := (HX.out.under HBw.out).cell (j := 3) rfl
          by_cases hs : same < 0
          · have HK : Hid (V = 7) := Lib.hid (by rw [HV4.out]; exact if_pos (.inl hs))
            go_wp2_with fail
            go_ret
            exact ⟨ret_int HK.out.symm, bTrans HB1.out HBw.out⟩
          by_cases hb : bytes < 0
          · have HK : Hid (V = 7) := Lib.hid (by rw [HV4.out]; exact if_pos (.inr (.inl hb)))
            go_wp2_with fail
            go_ret
            exact ⟨ret_int HK.out.symm, bTrans HB1.out HBw.out⟩
          have hbu : IntKind.u64.wrap bytes = bytes := IntWalk.u64_in bytes (by omega)
          cases over
          · have hT : ¬ 9223372036854775807 < total S := fun h => by have := HTo2.out.2.1.2 h; cases this
            have hA := HTo2.out.2.2 rfl
            by_cases he : bytes = acc
            · have HK : Hid (V = 0) := Lib.hid (by rw [HV4.out]; exact if_neg (by omega))
              have hbe : (bytes != acc) = false := by simp [he]
              clear hT hA he
              go_wp2_with fail
              go_ret
              exact ⟨ret_int HK.out.symm, bTrans HB1.out HBw.out⟩
            · have HK : Hid (V = 7) := Lib.hid (by rw [HV4.out]; exact if_pos (by omega))
              have hbe : (bytes != acc) = true := by simp [he]
              clear hT hA he
              go_wp2_with fail
              go_ret
              exact ⟨ret_int HK.out.symm, bTrans HB1.out HBw.out⟩
          · have HK : Hid (V = 7) := Lib.hid (by rw [HV4.out]; exact if_pos (.inr (.inr (.inl (HTo2.out.2.1.1 rfl)))))
            go_wp2_with fail
            go_ret
            exact ⟨ret_int HK.out.symm, bTrans HB1.out HBw.out⟩
end Go.Proofs.YtfenmeacimfiaaaGreatDoor
