/-
  wherryref1.checkParts, walked.
-/
import Derived.Test.YtnpcbcnclncniaaGreatDoorGlob10
namespace Go.Proofs.YtnpcbcnclncniaaGreatDoor
open Go.RowKit

set_option maxHeartbeats 8000000 in
set_option maxRecDepth 100000 in
theorem refCheckParts_any : ∀ (n : Nat) (s : Sl (P n)) (w : World), SOk w n s → szL n s.xs ≤ 1048576 →
    Calls Tryz.prog 20 #[.slice s.a s.xs.length s.c] w fun e w' => e = .returned (.int .i64 (rchk n s.xs)) ∧ Below w.heap.size w w' := by
  intro n
  induction n with
  | zero =>
    intro s w hs _
    obtain ⟨a, c, xs⟩ := s
    cases xs with
    | cons x _ => exact nomatch x
    | nil =>
      go_enter Tryz.func20, Tryz.ntmps20
      go_wp2_with fail
      refine wp_loop_rounds 1 ?_
      rw [rounds_succ]
      go_wp2_with fail
      go_ret
      exact ⟨rfl, Below.refl _ _⟩
  | succ n ih =>
    rintro ⟨sa, sc, xs⟩ w hs hz
    have hlen : xs.length ≤ 1048576 := Nat.le_trans (len_le_sz (n + 1) xs) hz
    simp only [] at hz
    have HS := Lib.hid hs
    have HIH := Lib.hid ih
    obtain ⟨E, hE⟩ : ∃ E, rchk (n + 1) xs = E := ⟨_, rfl⟩
    have HE : Hid (E = rchkGo n (fun s => rchk n s.xs) (kdL (n + 1) xs) 0 (xs.drop 0)) := Lib.hid hE.symm
    rw [hE]
    clear hs ih hE
    go_enter Tryz.func20, Tryz.ntmps20
    go_wp2_with fail
    go_loopg [13] xs.length (fun g i wx => ∃ k : Nat, k + g = xs.length ∧ i = .int .i64 k ∧ Below w.heap.size w wx ∧ Hid (E = rchkGo n (fun s => rchk n s.xs) (kdL (n + 1) xs) k (xs.drop k)))
    case atStart => exact ⟨0, by omega, rfl, Below.refl _ _, HE⟩
    case round =>
      clear HE
      obtain ⟨k, hk, rfl, hb, HE⟩ := hrel
      by_cases hlt : k < xs.length
      · obtain ⟨g, rfl⟩ : ∃ g, gk = g + 1 := ⟨gk - 1, by omega⟩
        obtain ⟨p, hx⟩ : ∃ p : P (n + 1), xs[k]? = some p := ⟨_, List.getElem?_eq_getElem hlt⟩
        obtain ⟨ba, off, ha, hba, r0, r1, r2, r3, r4⟩ := partRow (p := pt n p) ((HS.out.under hb).1) hx
        have HPo : Hid (POk w (n + 1) p) := Lib.hid (HS.out.2 p (List.mem_of_getElem? hx))
        rw [rchkGo_step hx] at HE
        have hsp : sz (n + 1) p ≤ 1048576 := Nat.le_trans (le_sum (List.mem_map.2 ⟨p, List.mem_of_getElem? hx, rfl⟩)) hz
        have hszp : sz (n + 1) p = 1 + (pt n p).text.size + (pt n p).rg.xs.length + ((pt n p).ways.xs.map (fun s => 1 + szL n s.xs)).sum := rfl
        have hrl : (pt n p).rg.xs.length ≤ 1048576 := by omega
        have hws : ((pt n p).ways.xs.map (fun s => 1 + szL n s.xs)).sum ≤ 1048576 := by omega
        have hwl : (pt n p).ways.xs.length ≤ 1048576 := by
          have := sum_mono (xs := (pt n p).ways.xs) (f := fun _ => 1) (g := fun s => 1 + szL n s.xs) (fun s _ => by omega)
          rw [sum_ones1] at this
          omega
        obtain ⟨S, hS⟩ : ∃ S, refStep n (fun s => rchk n s.xs) (kdL (n + 1) xs) k p = S := ⟨_, rfl⟩
        rw [hS] at HE
        have hks : isTxt (kdL (n + 1) xs) k = ((pt n p).kind == 1) := by
          rw [isTxt_nat]
          unfold kdL
          rw [List.getElem?_map, hx]
          rfl
        have HSd : Hid (S = _) := Lib.hid hS.symm
        have HRet : Hid (S ≠ 0 → E = S) := Lib.hid (fun h => by rw [HE.out, if_neg h])
        have HGo : Hid (S = 0 → E = rchkGo n (fun s => rchk n s.xs) (kdL (n + 1) xs) (k + 1) (xs.drop (k + 1))) := Lib.hid (fun h => by rw [HE.out, if_pos h])
        unfold refStep at HSd
        rw [hks] at HSd
        unfold partBad at HSd
        have HPo2 : Hid (SlHolds w 2 rgCells (pt n p).rg ∧ SlHolds w 1 (fun s : Sl (P n) => [s.val]) (pt n p).ways ∧ ∀ s ∈ (pt n p).ways.xs, SOk w n s) := Lib.hid ⟨HPo.out.2.1, HPo.out.2.2.2.1, HPo.out.2.2.2.2⟩
        clear HPo hS HE hx hsp hszp hks
        generalize pt n p = q at *
        have HBx := Lib.hid (partBox_new wr q 92)
        have hbx : Below wr.heap.size wr (wr.alloc (.cells #[.int .i64 q.kind, .string q.text, .bool q.neg, .slice q.rg.a q.rg.xs.length q.rg.c, .slice q.ways.a q.ways.xs.length q.ways.c] 92)) := bAlloc (Below.refl _ _) _
        simp only [] at ha
        subst ha
        go_upto_region 4 with fail
        generalize wr.alloc _ = w3 at *
        clear r0 r1 r2 r3 r4
        have hb3 := bTrans hb hbx
        obtain ⟨p0, p1, p2, p3, p4, p5⟩ := HBx.out
        by_cases k1 : q.kind < 1
        · have HS5 : Hid (S = 5) := Lib.hid (by rw [HSd.out, if_pos (.inl k1)])
          clear HSd
          go_wp2_with fail
          go_ret
          exact ⟨ret_int (by rw [HRet.out (by rw [HS5.out]; decide), HS5.out]), hb3⟩
        by_cases k2 : 6 < q.kind
        · have HS5 : Hid (S = 5) := Lib.hid (by rw [HSd.out, if_pos (.inr k2)])
          clear HSd
          go_wp2_with fail
          go_ret
          exact ⟨ret_int (by rw [HRet.out (by rw [HS5.out]; decide), HS5.out]), hb3⟩
        replace HSd := Lib.hid (HSd.out.trans (if_neg (by omega)))
        have HPv : Hid (∃ pv : Bool, isTxt (kdL (n + 1) xs) ((k : Int) - 1) = pv) := Lib.hid ⟨_, rfl⟩
        have HU := Lib.hid (fun k u => uses_any q wr.heap.size k u w3 HBx.out)
        obtain ⟨kind, text, neg, ⟨ra, rc, rxs⟩, ⟨wa, wc, wxs⟩⟩ := q
        simp only [] at *
        obtain ⟨J, hJ, hJC⟩ := idx_nul text
        have HJC := Lib.hid hJC
        rw [hJ] at HSd
        obtain ⟨pv, hpv⟩ := HPv.out
        rw [hpv] at HSd
        have HPV := Lib.hid hpv
        clear hJ hJC HPv hpv
        obtain ⟨X7, hX7⟩ : ∃ X7, (!usesB kind 1 (!text.toList.isEmpty) || !usesB kind 5 (neg || decide (0 < rxs.length)) || !usesB kind 6 (decide (0 < wxs.length))) = X7 := ⟨_, rfl⟩
        obtain ⟨X9, hX9⟩ : ∃ X9, ((kind == 1 && (!(!text.toList.isEmpty) || decide (0 ≤ J) || pv)) || (kind == 5 && decide (rxs.length = 0)) || (kind == 6 && !decide (0 < wxs.length))) = X9 := ⟨_, rfl⟩
        have HS2 : Hid (S = if X7 || X9 then 6 else if rgErr rxs ≠ 0 then rgErr rxs else firstErr (wxs.map (fun s => rchk n s.xs))) := Lib.hid (by
          rw [← hX7, ← hX9, refForm_eq, HSd.out]
          cases formBad kind (!text.toList.isEmpty) (neg || decide (0 < rxs.length)) (decide (0 < wxs.length)) (decide (rxs.length = 0)) (decide (0 ≤ J))
          · rw [Bool.false_or]
            rfl
          · rfl)
        have HX7 := Lib.hid hX7
        have HX9 := Lib.hid hX9
        clear HSd hX7 hX9
        go_upto_region 7 with fail
        go_cut [54] (fun s54 wx => s54 = .bool X7 ∧ w3 = wx)
        case first =>
          as_aux_lemma =>
            cases neg
            case' true =>
              have HX8 : Hid ((!usesB kind 1 (!text.toList.isEmpty) || !usesB kind 5 true || !usesB kind 6 (decide (0 < wxs.length))) = X7) := HX7
              obtain ⟨sb, hsb⟩ : ∃ sb : Bool, true = sb := ⟨_, rfl⟩
            case' false =>
              have HX8 : Hid ((!usesB kind 1 (!text.toList.isEmpty) || !usesB kind 5 (decide (0 < rxs.length)) || !usesB kind 6 (decide (0 < wxs.length))) = X7) := Lib.hid (by rw [← HX7.out, Bool.false_or])
            case true =>
              clear hsb
              cases u1 : usesB kind 1 (!text.toList.isEmpty)
              · go_wp2_with ((with_reducible refine (HU.out _ _).mono ?_); rintro e w5 ⟨rfl, rfl⟩)
                go_meet
                exact ⟨by rw [← HX8.out, u1]; rfl, rfl⟩
              cases u2 : usesB kind 5 true
              · go_wp2_with ((with_reducible refine (HU.out _ _).mono ?_); rintro e w5 ⟨rfl, rfl⟩)
                go_meet
                exact ⟨by rw [← HX8.out, u1, u2]; rfl, rfl⟩
              cases u3 : usesB kind 6 (decide (0 < wxs.length))
              all_goals
                go_wp2_with ((with_reducible refine (HU.out _ _).mono ?_); rintro e w5 ⟨rfl, rfl⟩)
                go_meet
                exact ⟨by rw [← HX8.out, u1, u2, u3]; rfl, rfl⟩
            case false =>
              cases u1 : usesB kind 1 (!text.toList.isEmpty)
              · go_wp2_with ((with_reducible refine (HU.out _ _).mono ?_); rintro e w5 ⟨rfl, rfl⟩)
                go_meet
                exact ⟨by rw [← HX8.out, u1]; rfl, rfl⟩
              cases u2 : usesB kind 5 (decide (0 < rxs.length))
              · go_wp2_with ((with_reducible refine (HU.out _ _).mono ?_); rintro e w5 ⟨rfl, rfl⟩)
                go_meet
                exact ⟨by rw [← HX8.out, u1, u2]; rfl, rfl⟩
              cases u3 : usesB kind 6 (decide (0 < wxs.length))
              all_goals
                go_wp2_with ((with_reducible refine (HU.out _ _).mono ?_); rintro e w5 ⟨rfl, rfl⟩)
                go_meet
                exact ⟨by rw [← HX8.out, u1, u2, u3]; rfl, rfl⟩
        case rest =>
          obtain ⟨rfl, rfl⟩ := hcut
          clear HX7 HU
          as_aux_lemma =>
            cases X7
            case true =>
              have HS5 : Hid (S = 6) := Lib.hid (by rw [HS2.out]; rfl)
              go_wp2_with fail
              go_ret
              exact ⟨ret_int (by rw [HRet.out (by rw [HS5.out]; decide), HS5.out]), hb3⟩
            go_upto_region 9 with fail
            go_cut [103] (fun s103 wx => s103 = .bool X9 ∧ w3 = wx)
            case first =>
              as_aux_lemma =>
                by_cases k1 : kind = 1
                · subst k1
                  cases ht : text.toList.isEmpty
                  · by_cases hJ0 : 0 ≤ J
                    · go_wp2_with (go_at_call 55; refine (HJC.out _).mono ?_; rintro e w5 ⟨rfl, rfl⟩)
                      go_meet
                      exact ⟨by rw [← HX9.out, ht, decide_eq_true hJ0]; rfl, rfl⟩
                    · have HX2 : Hid (X9 = pv) := Lib.hid (by
                        rw [← HX9.out, ht, decide_eq_false hJ0]
                        cases pv <;> rfl)
                      clear HX9
                      by_cases k0 : k = 0
                      · subst k0
                        have HX3 : Hid (X9 = false) := Lib.hid (by rw [HX2.out, ← HPV.out]; rfl)
                        clear HX2
                        go_wp2_with (go_at_call 55; refine (HJC.out _).mono ?_; rintro e w5 ⟨rfl, rfl⟩)
                        go_meet
                        exact ⟨by rw [HX3.out] <;> rw [decide_eq_false (by omega)], rfl⟩
                      · obtain ⟨k', hk'⟩ : ∃ k', k = k' + 1 := ⟨k - 1, by omega⟩
                        obtain ⟨r, hr⟩ : ∃ r : P (n + 1), xs[k']? = some r := ⟨_, List.getElem?_eq_getElem (by omega)⟩
                        obtain ⟨ba', off', ha', hba', r0, r1, r2, r3, r4⟩ := partRow (p := pt n r) ((HS.out.under hb3).1) hr
                        have hki : (k : Int) - 1 = (k' : Int) := by omega
                        have hk0 : 0 < k := by omega
                        have hk'l : k' < xs.length := by omega
                        have HX3 : Hid (X9 = ((pt n r).kind == 1)) := Lib.hid (by
                          rw [HX2.out, ← HPV.out, hki, isTxt_nat]
                          unfold kdL
                          rw [List.getElem?_map, hr]
                          rfl)
                        generalize pt n r = q2 at *
                        cases ha'
                        clear HX2 hr hk' k0 r1 r2 r3 r4
                        cases c2 : (q2.kind == 1)
                        all_goals
                          go_wp2_with (go_at_call 55; refine (HJC.out _).mono ?_; rintro e w5 ⟨rfl, rfl⟩)
                          go_meet
                          exact ⟨by rw [HX3.out, c2] <;> rw [decide_eq_false (by omega)], rfl⟩
                  · go_wp2_with fail
                    go_meet
                    exact ⟨by rw [← HX9.out, ht]; rfl, rfl⟩
                have q1 : (kind == 1) = false := by simp [k1]
                by_cases k5 : kind = 5
                · subst k5
                  clear q1 k1
                  by_cases hr0 : rxs.length = 0
                  · have e5 : ((rxs.length : Int) == 0) = true := by simp [hr0]
                    have HX3 : Hid (X9 = true) := Lib.hid (by rw [← HX9.out, decide_eq_true hr0]; rfl)
                    clear hr0 HX9
                    go_wp2_with fail
                    go_meet
                    exact ⟨by rw [HX3.out], rfl⟩
                  · have e5 : ((rxs.length : Int) == 0) = false := by simpa using hr0
                    have HX3 : Hid (X9 = false) := Lib.hid (by rw [← HX9.out, decide_eq_false hr0]; rfl)
                    clear hr0 HX9
                    go_wp2_with fail
                    go_meet
                    exact ⟨by rw [HX3.out], rfl⟩
                have q5 : (kind == 5) = false := by simp [k5]
                by_cases k6 : kind = 6
                · subst k6
                  clear q1 k1 q5 k5
                  by_cases hw0 : 0 < wxs.length
                  · have e5 : ((wxs.length : Int) == 0) = false := by
                      have : wxs.length ≠ 0 := by omega
                      simpa using this
                    have HX3 : Hid (X9 = false) := Lib.hid (by rw [← HX9.out, decide_eq_true hw0]; rfl)
                    clear hw0 HX9
                    go_wp2_with fail
                    go_meet
                    exact ⟨by rw [HX3.out], rfl⟩
                  · have e5 : ((wxs.length : Int) == 0) = true := by
                      have : wxs.length = 0 := by omega
                      simp [this]
                    have HX3 : Hid (X9 = true) := Lib.hid (by rw [← HX9.out, decide_eq_false hw0]; rfl)
                    clear hw0 HX9
                    go_wp2_with fail
                    go_meet
                    exact ⟨by rw [HX3.out], rfl⟩
                have q6 : (kind == 6) = false := by simp [k6]
                have HX3 : Hid (X9 = false) := Lib.hid (by rw [← HX9.out, q1, q5, q6]; rfl)
                clear k1 k5 k6 HX9
                go_wp2_with fail
                go_meet
                exact ⟨by rw [HX3.out], rfl⟩
            case rest =>
              obtain ⟨rfl, rfl⟩ := hcut
              clear HX9 HJC HPV
              cases X9
              case true =>
                have HS5 : Hid (S = 6) := Lib.hid (by rw [HS2.out]; rfl)
                go_wp2_with fail
                go_ret
                exact ⟨ret_int (by rw [HRet.out (by rw [HS5.out]; decide), HS5.out]), hb3⟩
              replace HS2 : Hid (S = if rgErr rxs ≠ 0 then rgErr rxs else firstErr (wxs.map (fun s => rchk n s.xs))) := HS2
              obtain ⟨R, hR⟩ : ∃ R, rgErr rxs = R := ⟨_, rfl⟩
              rw [hR] at HS2
              have HR := Lib.hid hR
              clear hR
              obtain ⟨wo, rfl⟩ : ∃ wo : World, wo = wr := ⟨_, rfl⟩
              go_wp2_with fail
              clear p0 p1 p2 p3 p4 p5
              go_loopg [107] rxs.length (fun g i wx => ∃ j : Nat, j + g = rxs.length ∧ i = .int .i64 j ∧ Below w3.heap.size w3 wx ∧ Hid (R = rgGo (if j = 0 then none else (rxs[j - 1]?.map (·.2))) (rxs.drop j)) ∧ Hid (∀ i (r : Int × Int), i < j → rxs[i]? = some r → 1 ≤ r.2 ∧ r.2 ≤ 255))
              case atStart => exact ⟨0, by omega, rfl, Below.refl _ _, Lib.hid HR.out.symm, Lib.hid (fun i _ hi => absurd hi (by omega))⟩
              case round =>
                clear HR
                as_aux_lemma =>
                  obtain ⟨j, hj, rfl, hbj, HG, HA⟩ := hrel
                  by_cases hlt2 : j < rxs.length
                  · obtain ⟨g2, rfl⟩ : ∃ g2, gk = g2 + 1 := ⟨gk - 1, by omega⟩
                    obtain ⟨⟨x, y⟩, hx⟩ : ∃ r : Int × Int, rxs[j]? = some r := ⟨_, List.getElem?_eq_getElem hlt2⟩
                    obtain ⟨ba, off, ha, hba, r0, r1⟩ := pairRow (HPo2.out.1.under (bTrans hb3 hbj)) hx
                    have hdr : rxs.drop j = (x, y) :: rxs.drop (j + 1) := by rw [List.drop_eq_getElem_cons hlt2, (List.getElem?_eq_some_iff.1 hx).2]
                    rw [hdr, rgGo_cons] at HG
                    simp only [] at HG ha r0 r1
                    have HX := Lib.hid hx
                    have HBq := Lib.hid (pairBox_new wr x y 95)
                    have hbx : Below wr.heap.size wr (wr.alloc (.cells #[.int .i64 x, .int .i64 y] 95)) := bAlloc (Below.refl _ _) _
                    clear hx hdr
                    cases ha
                    go_upto_region 14 with fail
                    generalize wr.alloc _ = w5 at *
                    have hb5 := bTrans hbj hbx
                    obtain ⟨t0, t1, t2⟩ := HBq.out
                    clear r0 r1
                    cases hbad : rgBad x y
                    case true =>
                      have HB7 : Hid (R = 7) := Lib.hid (by rw [HG.out, hbad]; rfl)
                      as_aux_lemma =>
                        have HS7 : Hid (S = 7) := Lib.hid (by rw [HS2.out, HB7.out]; rfl)
                        have hor : x < 1 ∨ (¬ x < 1 ∧ 255 < y) ∨ (¬ x < 1 ∧ ¬ 255 < y ∧ y < x) ∨ (¬ x < 1 ∧ ¬ 255 < y ∧ ¬ y < x ∧ x ≤ 47 ∧ 47 ≤ y) := by
                          rw [← rgBadR_eq] at hbad
                          unfold rgBadR at hbad
                          simp only [Bool.or_eq_true, Bool.and_eq_true, decide_eq_true_eq] at hbad
                          omega
                        clear HG hbad
                        rcases hor with d1 | ⟨d1, d2⟩ | ⟨d1, d2, d3⟩ | ⟨d1, d2, d3, d4, d5⟩
                        all_goals
                          go_wp2_with fail
                          go_ret
                          exact ⟨ret_int (by rw [HRet.out (by rw [HS7.out]; decide), HS7.out]), bTrans hb3 hb5⟩
                    obtain ⟨x1, x2, y1, y2, xy⟩ := rgBad_no hbad
                    have hor : (x ≤ 47 ∧ ¬ 47 ≤ y) ∨ ¬ x ≤ 47 := by
                      unfold rgBad at hbad
                      simp only [Bool.or_eq_false_iff, Bool.and_eq_false_iff, decide_eq_false_iff_not] at hbad
                      omega
                    rw [hbad] at HG
                    have d1 : ¬ x < 1 := by omega
                    have d4 : ¬ 255 < y := by omega
                    have d5 : ¬ y < x := by omega
                    clear hbad
                    have HA2 : Hid (∀ i (r : Int × Int), i < j + 1 → rxs[i]? = some r → 1 ≤ r.2 ∧ r.2 ≤ 255) := Lib.hid (fun i r hi hr => by
                      by_cases e : i = j
                      · subst e
                        rw [HX.out] at hr
                        cases hr
                        exact ⟨y1, y2⟩
                      · exact HA.out i r (by omega) hr)
                    have HNx : Hid ((if j + 1 = 0 then none else (rxs[j + 1 - 1]?.map (·.2))) = some y) := Lib.hid (by rw [if_neg (by omega), Nat.add_sub_cancel, HX.out]; rfl)
                    by_cases k0 : j = 0
                    · subst k0
                      have HG2 : Hid (R = rgGo (some y) (rxs.drop (0 + 1))) := Lib.hid (by rw [HG.out]; rfl)
                      as_aux_lemma =>
                        clear HG
                        rcases hor with ⟨d6, d7⟩ | d6
                        all_goals
                          go_wp2_with fail
                          go_quiet (fail)
                          go_wp2_with fail
                          go_roundg g2
                          case measure => omega
                          case rel => exact ⟨1, by omega, by go_num, bDrewN hb5 _, by rw [show (if (1 : Nat) = 0 then none else (rxs[1 - 1]?.map (·.2))) = some y from HNx.out]; exact HG2, HA2⟩
                    · obtain ⟨j', hj'⟩ : ∃ j', j = j' + 1 := ⟨j - 1, by omega⟩
                      obtain ⟨⟨px, py⟩, hpx⟩ : ∃ r : Int × Int, rxs[j']? = some r := ⟨_, List.getElem?_eq_getElem (by omega)⟩
                      obtain ⟨z1, z2⟩ := HA.out j' _ (by omega) hpx
                      have HPr := Lib.hid (pairRow (HPo2.out.1.under (bTrans hb3 hb5)) hpx)
                      have HG3 : Hid (R = if decide (x ≤ py + 1) then 10 else rgGo (some y) (rxs.drop (j + 1))) := Lib.hid (by
                        rw [HG.out, if_neg (by decide), if_neg k0, show j - 1 = j' by omega, hpx]
                        rfl)
                      simp only [] at z1 z2
                      have hki : IntKind.i64.wrap ((j : Int) - 1) = (j' : Int) := by rw [IntWalk.i64_in _ (by omega)]; omega
                      have hpw : IntKind.i64.wrap (py + 1) = py + 1 := IntWalk.i64_in _ (by omega)
                      have hkl : (j' : Int) < rxs.length := by omega
                      have hk0 : decide (0 < j) = true := decide_eq_true (by omega)
                      have hk1 : decide ((0 : Int) < (j : Int)) = true := decide_eq_true (by omega)
                      have hk2 : (0 : Int) ≤ (j' : Int) := by omega
                      clear HG hpx hj' k0
                      by_cases hnear : x ≤ py + 1
                      · rw [decide_eq_true hnear] at HG3
                        as_aux_lemma =>
                          have HS7 : Hid (S = 10) := Lib.hid (by rw [HS2.out, HG3.out]; rfl)
                          have hnd : decide (x ≤ py + 1) = true := decide_eq_true hnear
                          clear hnear
                          rcases hor with ⟨d6, d7⟩ | d6
                          all_goals
                            go_upto_region 16 with fail
                            obtain ⟨ba', off', ha', hba', r0, r1⟩ := HPr.out
                            simp only [] at ha' r0 r1
                            cases ha'
                            have p4 := (HBx.out.under hb5).2.2.2.2.1
                            simp only [] at p4
                            go_quiet (fail)
                            go_wp2_with fail
                            go_ret
                            exact ⟨ret_int (by rw [HRet.out (by rw [HS7.out]; decide), HS7.out]), bTrans hb3 (bDrewN hb5 _)⟩
                      · rw [decide_eq_false hnear] at HG3
                        as_aux_lemma =>
                          have hnd : decide (x ≤ py + 1) = false := decide_eq_false hnear
                          clear hnear
                          rcases hor with ⟨d6, d7⟩ | d6
                          all_goals
                            go_upto_region 16 with fail
                            obtain ⟨ba', off', ha', hba', r0, r1⟩ := HPr.out
                            simp only [] at ha' r0 r1
                            cases ha'
                            have p4 := (HBx.out.under hb5).2.2.2.2.1
                            simp only [] at p4
                            go_quiet (fail)
                            go_wp2_with fail
                            go_roundg g2
                            case measure => omega
                            case rel => exact ⟨j + 1, by omega, by go_num, bDrewN hb5 _, by rw [HNx.out]; exact HG3, HA2⟩
                  · have HR0 : Hid (R = 0) := Lib.hid (by rw [HG.out, List.drop_of_length_le (by omega)]; cases (if j = 0 then none else (rxs[j - 1]?.map (·.2))) <;> rfl)
                    have HS3 : Hid (S = firstErr ((wxs.map (fun s => rchk n s.xs)).drop 0)) := Lib.hid (by rw [HS2.out, HR0.out]; rfl)
                    have p5 := (HBx.out.under hbj).2.2.2.2.2
                    simp only [] at p5
                    obtain ⟨w6, rfl⟩ : ∃ w6 : World, w6 = wr := ⟨_, rfl⟩
                    have hb6 := bTrans hb3 hbj
                    clear HG HA HS2 HR0 hbj
                    go_wp2_with fail
                    go_loopg [156] wxs.length (fun g i wx => ∃ m : Nat, m + g = wxs.length ∧ i = .int .i64 m ∧ Below w6.heap.size w6 wx ∧ Hid (S = firstErr ((wxs.map (fun s => rchk n s.xs)).drop m)))
                    case atStart => exact ⟨0, by omega, rfl, Below.refl _ _, HS3⟩
                    case round =>
                      clear HS3
                      as_aux_lemma =>
                        obtain ⟨m, hm, rfl, hbm, HSj⟩ := hrel
                        by_cases hlt3 : m < wxs.length
                        · obtain ⟨g3, rfl⟩ : ∃ g3, gk = g3 + 1 := ⟨gk - 1, by omega⟩
                          obtain ⟨t, hx⟩ : ∃ t : Sl (P n), wxs[m]? = some t := ⟨_, List.getElem?_eq_getElem hlt3⟩
                          have hbw6 := bTrans hb6 hbm
                          obtain ⟨bw, ow, ha, hbw, r0⟩ := wayRow (HPo2.out.2.1.under hbw6) hx
                          have hmem := List.mem_of_getElem? hx
                          have hszt : 1 + szL n t.xs ≤ 1048576 := Nat.le_trans (le_sum (List.mem_map.2 ⟨t, hmem, rfl⟩ : (1 + szL n t.xs) ∈ wxs.map (fun s => 1 + szL n s.xs))) hws
                          have HCall := Lib.hid (HIH.out t wr ((HPo2.out.2.2 t hmem).under hbw6) (by omega))
                          rw [firstErr_step (e := rchk n t.xs) (by rw [List.getElem?_map, hx]; rfl)] at HSj
                          generalize rchk n t.xs = C at *
                          simp only [] at ha
                          cases ha
                          clear hx hmem
                          by_cases hC : C = 0
                          · subst hC
                            replace HSj := Lib.hid (HSj.out.trans (if_pos rfl))
                            go_wp2_with (go_at_call 20; refine HCall.out.mono ?_; rintro e w7 ⟨rfl, hb7⟩)
                            go_roundg g3
                            case measure => omega
                            case rel => exact ⟨m + 1, by omega, by go_num, bTrans hbm hb7, HSj⟩
                          · have HS5 : Hid (S = C) := Lib.hid (by rw [HSj.out, if_neg hC])
                            have hC' : (C != 0) = true := by simp [hC]
                            have HCn := Lib.hid hC
                            clear hC HSj
                            go_wp2_with (go_at_call 20; refine HCall.out.mono ?_; rintro e w7 ⟨rfl, hb7⟩)
                            go_ret
                            exact ⟨ret_int (by rw [HRet.out (by rw [HS5.out]; exact HCn.out), HS5.out]), bTrans hbw6 hb7⟩
                        · have HS0 : Hid (S = 0) := Lib.hid (by rw [HSj.out, List.drop_of_length_le (by simp; omega)]; rfl)
                          go_wp2_with fail
                          go_roundg g
                          case measure => omega
                          case rel => exact ⟨k + 1, by omega, by go_num, bTrans hb6 hbm, Lib.hid (HGo.out HS0.out)⟩
      · have HE2 : Hid (E = 0) := Lib.hid (by rw [HE.out, List.drop_of_length_le (by omega)]; rfl)
        go_wp2_with fail
        go_ret
        exact ⟨ret_int HE2.out.symm, hb⟩
end Go.Proofs.YtnpcbcnclncniaaGreatDoor
