/-
  Both CheckPlan.
-/
import Derived.Test.YtfenmeacimfiaaaGreatDoorPw8
import Derived.Test.YtfenmeacimfiaaaGreatDoorRows2
namespace Go.Proofs.YtfenmeacimfiaaaGreatDoor
open Go.RowKit

theorem OwnR.holds {α : Type} {ty : TypeId} {n : Nat} {cells : α → List Value} {z : Nat} {W : World} {a : Option Addr} {cap : Nat} {xs : List α} (hn : 0 < n) (hc : ∀ x, (cells x).length = n) (h : OwnR ty n cells z W a cap xs) : HoldsR W a n (xs.map cells) := by
  have hrows : ∀ r ∈ xs.map cells, r.length = n := by
    intro r hr
    obtain ⟨s, _, rfl⟩ := List.mem_map.1 hr
    exact hc s
  rcases h.2 with ⟨hv, h0⟩ | ⟨g, c, cur, hv, _, hg, hnn, _, hsz, htk⟩
  · rw [List.length_eq_zero_iff] at h0
    subst h0
    exact .inl rfl
  · injection hv with e1 _ _
    subst e1
    refine .inr ⟨g, 0, rfl, (Array.getElem?_eq_some_iff.1 hg).1, fun k row hk j u hu => ?_⟩
    have hrl : row.length = n := hrows row (List.mem_of_getElem? hk)
    have hj : j < n := by have := (List.getElem?_eq_some_iff.1 hu).1; omega
    have hkl : k < xs.length := by have := (List.getElem?_eq_some_iff.1 hk).1; simpa using this
    have e1 : (k * n + j) / n = k := by rw [Nat.mul_comm, Nat.mul_add_div hn, Nat.div_eq_of_lt hj, Nat.add_zero]
    have e2 : (k * n + j) % n = j := by rw [Nat.mul_comm, Nat.mul_add_mod, Nat.mod_eq_of_lt hj]
    have hf := flat_get n hn (xs.map cells) hrows (k * n + j)
    rw [e1, e2, hk, Option.bind_some, hu] at hf
    have hlt : k * n + j < xs.length * n := by
      have : k * n + n ≤ xs.length * n := by rw [← Nat.succ_mul]; exact Nat.mul_le_mul_right n hkl
      omega
    rw [← htk, List.getElem?_take_of_lt hlt] at hf
    rw [Nat.zero_add]
    simp only [World.cell?, hg]
    simpa using hf
theorem stepRow {w : World} {a : Option Addr} {xs : List PStep} (h : HoldsR w a 5 (xs.map stepCells)) {k : Nat} {x : PStep} (hk : xs[k]? = some x) :
    ∃ b off, a = some ⟨b, off, none⟩ ∧ b < w.heap.size ∧ w.cell? ⟨b, off + k * 5, none⟩ = some (.int .i64 x.kind) ∧ w.cell? ⟨b, off + k * 5 + 1, none⟩ = some (.string x.path) ∧
      w.cell? ⟨b, off + k * 5 + 2, none⟩ = some (.string x.dst) ∧ w.cell? ⟨b, off + k * 5 + 3, none⟩ = some (.int .i64 x.size) ∧ w.cell? ⟨b, off + k * 5 + 4, none⟩ = some (.int .i64 x.time) := by
  obtain ⟨b, off, ha, hb, hc⟩ := h.at (k := k) (row := stepCells x) (by simp [hk])
  exact ⟨b, off, ha, hb, hc 0 _ rfl, hc 1 _ rfl, hc 2 _ rfl, hc 3 _ rfl, hc 4 _ rfl⟩
theorem prefRow {w : World} {a : Option Addr} {xs : List PRef} (h : HoldsR w a 2 (xs.map refCells)) {k : Nat} {x : PRef} (hk : xs[k]? = some x) :
    ∃ b off, a = some ⟨b, off, none⟩ ∧ b < w.heap.size ∧ w.cell? ⟨b, off + k * 2, none⟩ = some (.string x.path) ∧ w.cell? ⟨b, off + k * 2 + 1, none⟩ = some (.int .i64 x.err) := by
  obtain ⟨b, off, ha, hb, hc⟩ := h.at (k := k) (row := refCells x) (by simp [hk])
  exact ⟨b, off, ha, hb, hc 0 _ rfl, hc 1 _ rfl⟩

def firstErr {α : Type} (f : α → Int) : List α → Int
  | [] => 0
  | x :: r => if f x = 0 then firstErr f r else f x
theorem firstErr_step {α : Type} {f : α → Int} {xs : List α} {k : Nat} {x : α} (h : xs[k]? = some x) (h0 : f x = 0) : firstErr f (xs.drop k) = firstErr f (xs.drop (k + 1)) := by
  have hl := (List.getElem?_eq_some_iff.1 h).1
  rw [List.drop_eq_getElem_cons hl, (List.getElem?_eq_some_iff.1 h).2, firstErr, if_pos h0]
theorem firstErr_stop {α : Type} {f : α → Int} {xs : List α} {k : Nat} {x : α} (h : xs[k]? = some x) (h0 : f x ≠ 0) : firstErr f (xs.drop k) = f x := by
  have hl := (List.getElem?_eq_some_iff.1 h).1
  rw [List.drop_eq_getElem_cons hl, (List.getElem?_eq_some_iff.1 h).2, firstErr, if_neg h0]
def total (S : List PStep) : Int := (S.map (·.size)).sum
theorem total_step {S : List PStep} {k : Nat} {x : PStep} (h : S[k]? = some x) : total (S.take (k + 1)) = total (S.take k) + x.size := by
  unfold total
  rw [List.take_add_one, h]
  simp
/-- What both CheckPlan return. -/
def checkV (S : List PStep) (R : List PRef) (same bytes : Int) : Int :=
  if 20000 < S.length + R.length then 8 else if firstErr stepErrV S ≠ 0 then firstErr stepErrV S else if firstErr refErrV R ≠ 0 then firstErr refErrV R
  else if same < 0 ∨ bytes < 0 ∨ 9223372036854775807 < total S ∨ bytes ≠ total S then 7 else 0
theorem size_of_err {s : PStep} (h : stepErrV s = 0) : 0 ≤ s.size := by
  unfold stepErrV at h
  split at h
  · cases h
  · split at h
    · cases h
    · omega
theorem wrap_lt (t z : Int) (h0 : 0 ≤ t) (h1 : t ≤ 9223372036854775807) (h2 : 0 ≤ z) (h3 : z ≤ 9223372036854775807) : (IntKind.i64.wrap (t + z) < 0 ↔ 9223372036854775807 < t + z) ∧ (t + z ≤ 9223372036854775807 → IntKind.i64.wrap (t + z) = t + z) := by
  rw [IntKind.wrap_i64]
  omega
theorem wrap_range (t : Int) : -9223372036854775808 ≤ IntKind.i64.wrap t ∧ IntKind.i64.wrap t ≤ 9223372036854775807 := by
  rw [IntKind.wrap_i64]
  omega

/-- A running sum: too much, or the sum. -/
def TotR (T : Int) (over : Bool) (acc : Int) : Prop := 0 ≤ T ∧ (over = true ↔ 9223372036854775807 < T) ∧ (over = false → acc = T)
theorem TotR.start (S : List PStep) : TotR (total (S.take 0)) false 0 := ⟨Int.le_refl 0, ⟨fun h => (by cases h), fun h => absurd h (by show ¬ ((9223372036854775807 : Int) < 0); decide)⟩, fun _ => rfl⟩

set_option maxHeartbeats 4000000 in
set_option maxRecDepth 100000 in
theorem checkPlan_any (S : List PStep) (R : List PRef) (same bytes : Int) (sa ra : Option Addr) (sc rc : Nat) (w : World) (hE : Env w) (hS : ∀ s ∈ S, GoodStep s) (hR : ∀ x ∈ R, GoodRef x) (hn : S.length + R.length ≤ 2000000)
    (h1 : HoldsR w sa 5 (S.map stepCells)) (h2 : HoldsR w ra 2 (R.map refCells)) (hb0 : Wh.inI bytes) (hs0 : Wh.inI same) :
    Calls Tryz.prog 26 #[.agg #[.slice sa S.length sc, .slice ra R.length rc, .int .i64 same, .int .i64 bytes]] w fun e w' => e = .returned (.int .i64 (checkV S R same bytes)) ∧ Below w.heap.size w w' := by
  obtain ⟨b0, b1⟩ := hb0
  obtain ⟨s0, s1⟩ := hs0
  have HSt := Lib.hid hS
  have HRf := Lib.hid hR
  have HH1 := Lib.hid h1
  have HH2 := Lib.hid h2
  have HE := Lib.hid hE
  have HX := Lib.hid (BoxIs.new w #[.slice sa S.length sc, .slice ra R.length rc, .int .i64 same, .int .i64 bytes] planTy)
  have HB1 := Lib.hid (bAlloc (Below.refl w.heap.size w) (.cells #[.slice sa S.length sc, .slice ra R.length rc, .int .i64 same, .int .i64 bytes] planTy))
  obtain ⟨V, hV⟩ : ∃ V, checkV S R same bytes = V := ⟨_, rfl⟩
  have HV := Lib.hid hV
  rw [hV]
  clear hS hR h1 h2 hE hV
  go_enter Tryz.func26, Tryz.ntmps26
  go_upto_region 1 with fail
  generalize w.alloc _ = w1 at *
  have c0 := HX.out.cell (j := 0) rfl
  have c1 := HX.out.cell (j := 1) rfl
  by_cases hbig : 20000 < S.length + R.length
  · have HK : Hid (V = 8) := Lib.hid (by rw [← HV.out]; exact if_pos hbig)
    have hbg : (20000 : Int) < (S.length : Int) + (R.length : Int) := by omega
    go_wp2_with fail
    go_ret
    exact ⟨ret_int HK.out.symm, HB1.out⟩
  have hbg : ¬ (20000 : Int) < (S.length : Int) + (R.length : Int) := by omega
  have HV2 : Hid (V = if firstErr stepErrV S ≠ 0 then firstErr stepErrV S else if firstErr refErrV R ≠ 0 then firstErr refErrV R else if same < 0 ∨ bytes < 0 ∨ 9223372036854775807 < total S ∨ bytes ≠ total S then 7 else 0) := Lib.hid (by rw [← HV.out]; exact if_neg hbig)
  clear hbig HV
  go_wp2_with fail
  go_loopg [3, 4, 22] S.length (fun g s3 s4 s22 wx => ∃ (k : Nat) (acc : Int) (over : Bool), k + g = S.length ∧ s22 = .int .i64 k ∧ s3 = .int .i64 acc ∧ s4 = .bool over ∧ -9223372036854775808 ≤ acc ∧ acc ≤ 9223372036854775807 ∧ Hid (Below w1.heap.size w1 wx) ∧ Hid (firstErr stepErrV S = firstErr stepErrV (S.drop k)) ∧ Hid (TotR (total (S.take k)) over acc))
  case atStart => exact ⟨0, 0, false, by omega, rfl, rfl, rfl, by omega, by omega, Lib.hid (Below.refl _ _), Lib.hid rfl, Lib.hid (TotR.start S)⟩
  case round =>
    obtain ⟨k, acc, over, hk, rfl, rfl, rfl, a0, a1, HBw, HFe, HTo⟩ := hrel
    by_cases hlt : k < S.length
    · obtain ⟨g, rfl⟩ : ∃ g, gk = g + 1 := ⟨gk - 1, by omega⟩
      obtain ⟨y, hy⟩ : ∃ y, S[k]? = some y := ⟨_, List.getElem?_eq_getElem hlt⟩
      have hgy := HSt.out y (List.mem_of_getElem? hy)
      have HC := Lib.hid (fun W (hbb : Below wr.heap.size wr W) => checkStep_any y W ((HE.out.under HB1.out).under (bTrans HBw.out hbb)) hgy)
      obtain ⟨ba, off, ha, hba, r0, r1, r2, r3, r4⟩ := stepRow (HH1.out.under (bTrans HB1.out HBw.out)) hy
      have HSs := Lib.hid (fun h0 => firstErr_step (f := stepErrV) hy h0)
      have HSp := Lib.hid (fun h0 => firstErr_stop (f := stepErrV) hy h0)
      have HTs := Lib.hid (total_step hy)
      have HZ := Lib.hid (fun h0 => size_of_err (s := y) h0)
      obtain ⟨yk, yp, yd, yz, ym⟩ := y
      obtain ⟨_, ⟨q0, q1⟩, ⟨q2, q3⟩, _, _⟩ := hgy
      dsimp only at r0 r1 r2 r3 r4 q0 q1 q2 q3
      simp only [stepArr] at HC
      clear hy
      subst ha
      generalize stepErrV ⟨yk, yp, yd, yz, ym⟩ = A0 at *
      have HNew := Lib.hid (BoxIs.new wr #[.int .i64 yk, .string yp, .string yd, .int .i64 yz, .int .i64 ym] stepTy)
      have HBn := Lib.hid (bAlloc (Below.refl wr.heap.size wr) (.cells #[.int .i64 yk, .string yp, .string yd, .int .i64 yz, .int .i64 ym] stepTy))
      go_upto_region 7 with fail
      generalize wr.alloc _ = w2 at *
      clear r0 r1 r2 r3 r4 c0 c1
      have d0 := HNew.out.cell (j := 0) rfl
      have d1 := HNew.out.cell (j := 1) rfl
      have d2 := HNew.out.cell (j := 2) rfl
      have d3 := HNew.out.cell (j := 3) rfl
      have d4 := HNew.out.cell (j := 4) rfl
      by_cases h0 : A0 = 0
      · subst h0
        have HSz := Lib.hid (HSs.out rfl)
        have hz0 : 0 ≤ yz := HZ.out rfl
        obtain ⟨A1, hA1⟩ : ∃ A1, IntKind.i64.wrap (acc + yz) = A1 := ⟨_, rfl⟩
        have hr1 := wrap_range (acc + yz)
        rw [hA1] at hr1
        obtain ⟨hr1, hr2⟩ := hr1
        have HTn : Hid (∀ o2 : Bool, o2 = (over || decide (A1 < 0)) → TotR (total (S.take (k + 1))) o2 A1) := Lib.hid (by
          rintro o2 rfl
          obtain ⟨t0, t1, t2⟩ := HTo.out
          have ht := HTs.out
          dsimp only at ht
          refine ⟨by omega, ?_, ?_⟩
          · cases over with
            | true => simp only [Bool.true_or, true_iff]; have := t1.1 rfl; omega
            | false =>
              have h3 := t2 rfl
              have h4 : ¬ 9223372036854775807 < total (S.take k) := fun h => by have := t1.2 h; cases this
              have h5 := (wrap_lt acc yz (by omega) (by omega) hz0 q1).1
              rw [hA1] at h5
              rw [Bool.false_or, decide_eq_true_eq, h5, ht, h3]
          · intro ho
            rw [Bool.or_eq_false_iff, decide_eq_false_iff_not] at ho
            have h3 := t2 ho.1
            have h4 : ¬ 9223372036854775807 < total (S.take k) := fun h => by have := t1.2 h; rw [ho.1] at this; cases this
            have h5 := wrap_lt acc yz (by omega) (by omega) hz0 q1
            rw [hA1] at h5
            have h6 : acc + yz ≤ 9223372036854775807 := by
              have := ho.2
              rw [h5.1] at this
              omega
            rw [h5.2 h6, ht, h3])
        go_upto_region 8 with (go_at_call 76; refine (HC.out _ HBn.out).mono ?_; rintro e w3 ⟨rfl, hb3⟩; have HB3 := Lib.hid hb3; clear hb3)
        clear d0 d1 d2 d3 d4
        have d3 := (HNew.out.under HB3.out).cell (j := 3) rfl
        cases over
        · by_cases hneg : A1 < 0
          · have HT2 := Lib.hid (HTn.out true (by simp [hneg]))
            go_wp2_with fail
            go_roundg g
            case measure => omega
            case rel => exact ⟨k + 1, A1, true, by omega, by go_num, rfl, rfl, hr1, hr2, Lib.hid (bTrans (bTrans HBw.out HBn.out) HB3.out), Lib.hid (HFe.out.trans HSz.out), HT2⟩
          · have HT2 := Lib.hid (HTn.out false (by simp [hneg]))
            go_wp2_with fail
            go_roundg g
            case measure => omega
            case rel => exact ⟨k + 1, A1, false, by omega, by go_num, rfl, rfl, hr1, hr2, Lib.hid (bTrans (bTrans HBw.out HBn.out) HB3.out), Lib.hid (HFe.out.trans HSz.out), HT2⟩
        · have HT2 := Lib.hid (HTn.out true (by simp))
          go_wp2_with fail
          go_roundg g
          case measure => omega
          case rel => exact ⟨k + 1, A1, true, by omega, by go_num, rfl, rfl, hr1, hr2, Lib.hid (bTrans (bTrans HBw.out HBn.out) HB3.out), Lib.hid (HFe.out.trans HSz.out), HT2⟩
      · have q : (A0 != 0) = true := by simp [h0]
        have HK : Hid (V = A0) := Lib.hid (by
          have := HFe.out.trans (HSp.out h0)
          rw [HV2.out, this, if_pos h0])
        clear h0
        go_wp2_with (go_at_call 76; refine (HC.out _ HBn.out).mono ?_; rintro e w3 ⟨rfl, hb3⟩; have HB3 := Lib.hid hb3; clear hb3)
        go_ret
        exact ⟨ret_int HK.out.symm, bTrans HB1.out (bTrans (bTrans HBw.out HBn.out) HB3.out)⟩
    · have HFe2 : Hid (firstErr stepErrV S = 0) := Lib.hid (by rw [HFe.out, List.drop_of_length_le (by omega)]; rfl)
      have HTo2 : Hid (TotR (total S) over acc) := Lib.hid (by
        have := HTo.out
        rw [List.take_of_length_le (by omega)] at this
        exact this)
      have HV3 : Hid (V = if firstErr refErrV R ≠ 0 then firstErr refErrV R else if same < 0 ∨ bytes < 0 ∨ 9223372036854775807 < total S ∨ bytes ≠ total S then 7 else 0) := Lib.hid (by rw [HV2.out, if_neg (by rw [HFe2.out]; decide)])
      clear HFe HFe2 HTo HV2 c0 c1
      have c1 := (HX.out.under HBw.out).cell (j := 1) rfl
      go_wp2_with fail
      go_loopg [44] R.length (fun g s44 wx => ∃ k : Nat, k + g = R.length ∧ s44 = .int .i64 k ∧ Hid (Below w1.heap.size w1 wx) ∧ Hid (firstErr refErrV R = firstErr refErrV (R.drop k)))
      case atStart => exact ⟨0, by omega, rfl, HBw, Lib.hid rfl⟩
      case round =>
        clear c1 HBw hlt hk
        obtain ⟨k, hk, rfl, HBw, HFe⟩ := hrel
        by_cases hlt : k < R.length
        · obtain ⟨g, rfl⟩ : ∃ g, gk = g + 1 := ⟨gk - 1, by omega⟩
          obtain ⟨y, hy⟩ : ∃ y, R[k]? = some y := ⟨_, List.getElem?_eq_getElem hlt⟩
          have hgy := HRf.out y (List.mem_of_getElem? hy)
          obtain ⟨ba, off, ha, hba, r0, r1⟩ := prefRow (HH2.out.under (bTrans HB1.out HBw.out)) hy
          have HSs := Lib.hid (fun h0 => firstErr_step (f := refErrV) hy h0)
          have HSp := Lib.hid (fun h0 => firstErr_stop (f := refErrV) hy h0)
          obtain ⟨yp, ye⟩ := y
          obtain ⟨⟨q0, q1⟩, q2⟩ := hgy
          dsimp only at r0 r1 q0 q1 q2
          clear hy
          subst ha
          have HNew := Lib.hid (BoxIs.new wr #[.string yp, .int .i64 ye] refTy)
          have HBn := Lib.hid (bAlloc (Below.refl wr.heap.size wr) (.cells #[.string yp, .int .i64 ye] refTy))
          have HEr : Hid (∀ b, Wh.isPath yp.data.toList = b → refErrV ⟨yp, ye⟩ = if b = false then 1 else if ye = 2 ∨ ye = 8 ∨ ye = 5 ∨ ye = 13 then 0 else 5) := Lib.hid (by rintro b rfl; rfl)
          go_upto_region 16 with fail
          generalize wr.alloc _ = w2 at *
          clear r0 r1
          have d0 := HNew.out.cell (j := 0) rfl
          have HC := Lib.hid (fun b hb => checkP yp w2 ((HE.out.under HB1.out).under (bTrans HBw.out HBn.out)) (by omega) b hb)
          cases hip : Wh.isPath yp.data.toList
          · have HC1 := Lib.hid (HC.out _ hip)
            have HK : Hid (V = 1) := Lib.hid (by
              have h1 : refErrV ⟨yp, ye⟩ = 1 := HEr.out _ hip
              have := HFe.out.trans (HSp.out (by rw [h1]; decide))
              rw [HV3.out, this, h1, if_pos (by decide)])
            clear hip
            go_wp2_with (go_at_call 21; with_reducible refine HC1.out.mono ?_; rintro e w3 ⟨rfl, hb3⟩; have HB3 := Lib.hid hb3; clear hb3)
            go_ret
            exact ⟨ret_int HK.out.symm, bTrans HB1.out (bTrans (bTrans HBw.out HBn.out) HB3.out)⟩
          · have HC1 := Lib.hid (HC.out _ hip)
            have HEq := Lib.hid (HEr.out _ hip)
            clear hip
            go_upto_region 19 with (go_at_call 21; with_reducible refine HC1.out.mono ?_; rintro e w3 ⟨rfl, hb3⟩; have HB3 := Lib.hid hb3; clear hb3)
            clear d0
            have d1 := (HNew.out.under HB3.out).cell (j := 1) rfl
            rcases (by omega : ye = 2 ∨ (¬ ye = 2 ∧ ye = 8) ∨ (¬ ye = 2 ∧ ¬ ye = 8 ∧ ye = 5) ∨ (¬ ye = 2 ∧ ¬ ye = 8 ∧ ¬ ye = 5 ∧ ye = 13) ∨ (¬ ye = 2 ∧ ¬ ye = 8 ∧ ¬ ye = 5 ∧ ¬ ye = 13)) with x1 | ⟨_, x1⟩ | ⟨_, _, x1⟩ | ⟨_, _, _, x1⟩ | ⟨x1, x2, x3, x4⟩
            case' inr.inr.inr.inr =>
              have y1 : (ye == 2) = false := by simpa using x1
              have y2 : (ye == 8) = false := by simpa using x2
              have y3 : (ye == 5) = false := by simpa using x3
              have y4 : (ye == 13) = false := by simpa using x4
              have HK : Hid (V = 5) := Lib.hid (by
                have h1 : refErrV ⟨yp, ye⟩ = 5 := by rw [HEq.out, if_neg (by decide), if_neg (by omega)]
                have := HFe.out.trans (HSp.out (by rw [h1]; decide))
                rw [HV3.out, this, h1, if_pos (by decide)])
              go_wp2_with fail
              go_ret
              exact ⟨ret_int HK.out.symm, bTrans HB1.out (bTrans (bTrans HBw.out HBn.out) HB3.out)⟩
            all_goals
              subst x1
              have HNx := Lib.hid (HFe.out.trans (HSs.out HEq.out))
              go_wp2_with fail
              go_roundg g
              case measure => omega
              case rel => exact ⟨k + 1, by omega, by go_num, Lib.hid (bTrans (bTrans HBw.out HBn.out) HB3.out), HNx⟩
        · have HFe2 : Hid (firstErr refErrV R = 0) := Lib.hid (by rw [HFe.out, List.drop_of_length_le (by omega)]; rfl)
          have HV4 : Hid (V = if same < 0 ∨ bytes < 0 ∨ 9223372036854775807 < total S ∨ bytes ≠ total S then 7 else 0) := Lib.hid (by rw [HV3.out, if_neg (by rw [HFe2.out]; decide)])
          clear HFe HFe2 HV3
          have c2 := (HX.out.under HBw.out).cell (j := 2) rfl
          have c3 := (HX.out.under HBw.out).cell (j := 3) rfl
          by_cases hs : same < 0
          · have HK : Hid (V = 7) := Lib.hid (by rw [HV4.out]; exact if_pos (.inl hs))
            go_wp2_with fail
            go_ret
            exact ⟨ret_int HK.out.symm, bTrans HB1.out HBw.out⟩
          by_cases hb : bytes < 0
          · have HK : Hid (V = 7) := Lib.hid (by rw [HV4.out]; exact if_pos (.inr (.inl hb)))
            go_wp2_with fail
            go_ret
            exact ⟨ret_int HK.out.symm, bTrans HB1.out HBw.out⟩
          cases over
          · have hT : ¬ 9223372036854775807 < total S := fun h => by have := HTo2.out.2.1.2 h; cases this
            have hA := HTo2.out.2.2 rfl
            by_cases he : bytes = acc
            · have HK : Hid (V = 0) := Lib.hid (by rw [HV4.out]; exact if_neg (by omega))
              have hbe : (bytes != acc) = false := by simp [he]
              clear hT hA he
              go_wp2_with fail
              go_ret
              exact ⟨ret_int HK.out.symm, bTrans HB1.out HBw.out⟩
            · have HK : Hid (V = 7) := Lib.hid (by rw [HV4.out]; exact if_pos (by omega))
              have hbe : (bytes != acc) = true := by simp [he]
              clear hT hA he
              go_wp2_with fail
              go_ret
              exact ⟨ret_int HK.out.symm, bTrans HB1.out HBw.out⟩
          · have HK : Hid (V = 7) := Lib.hid (by rw [HV4.out]; exact if_pos (.inr (.inr (.inl (HTo2.out.2.1.1 rfl)))))
            go_wp2_with fail
            go_ret
            exact ⟨ret_int HK.out.symm, bTrans HB1.out HBw.out⟩
end Go.Proofs.YtfenmeacimfiaaaGreatDoor
