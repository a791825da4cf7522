/-
  names.starsMeet, walked.
-/
import Derived.Test.YtnpcbcnclncniaaGreatDoorGlob8
namespace Go.Proofs.YtnpcbcnclncniaaGreatDoor
open Go.RowKit

theorem any_step {α : Type} {f : α → Bool} {l : List α} {k : Nat} {x : α} (h : l[k]? = some x) : (l.drop k).any f = (f x || (l.drop (k + 1)).any f) := by
  have hl := (List.getElem?_eq_some_iff.1 h).1
  rw [List.drop_eq_getElem_cons hl, (List.getElem?_eq_some_iff.1 h).2, List.any_cons]

set_option maxHeartbeats 4000000 in
set_option maxRecDepth 100000 in
theorem starsMeet_any : ∀ (n : Nat) (s : Sl (P n)) (w : World), SOk w n s → szL n s.xs ≤ 1048576 →
    Calls Tryz.prog 46 #[.slice s.a s.xs.length s.c] w fun e w' => e = .returned (.bool (meet n s.xs)) ∧ Below w.heap.size w w' := by
  intro n
  induction n with
  | zero =>
    intro s w hs _
    obtain ⟨a, c, xs⟩ := s
    cases xs with
    | cons x _ => exact nomatch x
    | nil =>
      go_enter Tryz.func46, Tryz.ntmps46
      go_wp2_with fail
      refine wp_loop_rounds 1 ?_
      rw [rounds_succ]
      go_wp2_with fail
      go_ret
      exact ⟨rfl, Below.refl _ _⟩
  | succ n ih =>
    rintro ⟨sa, sc, xs⟩ w hs hz
    have hlen : xs.length ≤ 1048576 := Nat.le_trans (len_le_sz (n + 1) xs) hz
    simp only [] at hz
    have HS := Lib.hid hs
    have HIH := Lib.hid ih
    obtain ⟨E, hE⟩ : ∃ E, meet (n + 1) xs = E := ⟨_, rfl⟩
    have HE : Hid (E = meetGo n (fun s => meet n s.xs) (kdL (n + 1) xs) 0 (xs.drop 0)) := Lib.hid hE.symm
    rw [hE]
    clear hs ih hE
    go_enter Tryz.func46, Tryz.ntmps46
    go_wp2_with fail
    go_loopg [10] xs.length (fun g i wx => ∃ k : Nat, k + g = xs.length ∧ i = .int .i64 k ∧ Below w.heap.size w wx ∧ Hid (E = meetGo n (fun s => meet n s.xs) (kdL (n + 1) xs) k (xs.drop k)))
    case atStart => exact ⟨0, by omega, rfl, Below.refl _ _, HE⟩
    case round =>
      clear HE
      obtain ⟨k, hk, rfl, hb, HE⟩ := hrel
      by_cases hlt : k < xs.length
      · obtain ⟨g, rfl⟩ : ∃ g, gk = g + 1 := ⟨gk - 1, by omega⟩
        obtain ⟨p, hx⟩ : ∃ p : P (n + 1), xs[k]? = some p := ⟨_, List.getElem?_eq_getElem hlt⟩
        obtain ⟨ba, off, ha, hba, r0, r1, r2, r3, r4⟩ := partRow (p := pt n p) ((HS.out.under hb).1) hx
        have HPo : Hid (POk w (n + 1) p) := Lib.hid (HS.out.2 p (List.mem_of_getElem? hx))
        rw [meetGo_step hx] at HE
        have hsp : sz (n + 1) p ≤ 1048576 := Nat.le_trans (le_sum (List.mem_map.2 ⟨p, List.mem_of_getElem? hx, rfl⟩)) hz
        have hszp : sz (n + 1) p = 1 + (pt n p).text.size + (pt n p).rg.xs.length + ((pt n p).ways.xs.map (fun s => 1 + szL n s.xs)).sum := rfl
        have hws : ((pt n p).ways.xs.map (fun s => 1 + szL n s.xs)).sum ≤ 1048576 := by omega
        have hwl : (pt n p).ways.xs.length ≤ 1048576 := by
          have := sum_mono (xs := (pt n p).ways.xs) (f := fun _ => 1) (g := fun s => 1 + szL n s.xs) (fun s _ => by omega)
          rw [sum_ones1] at this
          omega
        have HPo2 : Hid (SlHolds w 1 (fun s : Sl (P n) => [s.val]) (pt n p).ways ∧ ∀ s ∈ (pt n p).ways.xs, SOk w n s) := Lib.hid ⟨HPo.out.2.2.2.1, HPo.out.2.2.2.2⟩
        clear HPo hx hsp hszp
        generalize pt n p = q at *
        have HBx := Lib.hid (partBox_new wr q 92)
        have hbx : Below wr.heap.size wr (wr.alloc (.cells #[.int .i64 q.kind, .string q.text, .bool q.neg, .slice q.rg.a q.rg.xs.length q.rg.c, .slice q.ways.a q.ways.xs.length q.ways.c] 92)) := bAlloc (Below.refl _ _) _
        simp only [] at ha
        subst ha
        go_upto_region 5 with fail
        generalize wr.alloc _ = w3 at *
        clear r0 r1 r2 r3 r4
        have hb3 := bTrans hb hbx
        obtain ⟨p0, p1, p2, p3, p4, p5⟩ := HBx.out
        generalize hM : (decide (0 < k) && isStar q.kind && starAt (kdL (n + 1) xs) ((k : Int) - 1)) = tm at *
        go_cut [30] (fun s30 wx => s30 = .bool tm ∧ Below w3.heap.size w3 wx)
        case first =>
          have HSt := Lib.hid (fun W => star_any q W)
          have HM := Lib.hid hM
          clear hM HE
          by_cases k0 : k = 0
          · subst k0
            go_wp2_with fail
            go_meet
            exact ⟨by rw [← HM.out]; rfl, Below.refl _ _⟩
          · obtain ⟨k', hk'⟩ : ∃ k', k = k' + 1 := ⟨k - 1, by omega⟩
            obtain ⟨r, hr⟩ : ∃ r : P (n + 1), xs[k']? = some r := ⟨_, List.getElem?_eq_getElem (by omega)⟩
            have HRow := Lib.hid (fun W (hbW : Below w3.heap.size w3 W) => partRow (p := pt n r) ((HS.out.under (bTrans hb3 hbW)).1) hr)
            have hki : (k : Int) - 1 = (k' : Int) := by omega
            have hk0 : 0 < k := by omega
            have hk'l : k' < xs.length := by omega
            have HMM : Hid (tm = (isStar q.kind && isStar (pt n r).kind)) := Lib.hid (by
              rw [← HM.out, hki, decide_eq_true hk0, Bool.true_and]
              congr 1
              unfold starAt kdL
              rw [Int.toNat_natCast, List.getElem?_map, hr]
              simp
              rfl)
            generalize pt n r = q2 at *
            have HSt2 := Lib.hid (fun W => star_any q2 W)
            generalize isStar q.kind = a1 at *
            generalize isStar q2.kind = a2 at *
            clear HM hr hk' k0
            cases a1
            · go_wp2_with fail
              refine (HSt.out _).mono ?_
              rintro e w4 ⟨rfl, hb4⟩
              go_wp2_with fail
              go_meet
              exact ⟨by rw [HMM.out]; rfl, hb4⟩
            · go_wp2_with fail
              refine (HSt.out _).mono ?_
              rintro e w4 ⟨rfl, hb4⟩
              obtain ⟨ba', off', ha', hba', r0, r1, r2, r3, r4⟩ := HRow.out w4 hb4
              cases ha'
              go_wp2_with fail
              refine (HSt2.out _).mono ?_
              rintro e w5 ⟨rfl, hb5⟩
              go_wp2_with fail
              go_meet
              exact ⟨by rw [HMM.out]; rfl, bTrans hb4 hb5⟩
        case rest =>
          obtain ⟨rfl, hb4⟩ := hcut
          clear hM
          replace HBx := Lib.hid (HBx.out.under hb4)
          have hb4' := bTrans hb3 hb4
          clear p0 p1 p2 p3 p4 p5 hb4 hb3
          cases tm
          case true =>
            have HT : Hid (E = true) := Lib.hid (by rw [HE.out]; simp)
            go_wp2_with fail
            go_ret
            exact ⟨ret_bool HT.out.symm, hb4'⟩
          generalize hX : meetGo n (fun s => meet n s.xs) (kdL (n + 1) xs) (k + 1) (xs.drop (k + 1)) = X at *
          have HXe := Lib.hid hX
          clear hX
          obtain ⟨w5, rfl⟩ : ∃ w5 : World, w5 = wc := ⟨_, rfl⟩
          obtain ⟨kind, text, neg, rg, ⟨wa, wcap, wxs⟩⟩ := q
          simp only [] at *
          have HE0 : Hid (E = ((wxs.drop 0).any (fun s => meet n s.xs) || X)) := Lib.hid (by rw [HE.out]; simp)
          clear HE
          obtain ⟨p0, p1, p2, p3, p4, p5⟩ := HBx.out
          obtain ⟨wo, rfl⟩ : ∃ wo : World, wo = wr := ⟨_, rfl⟩
          go_wp2_with fail
          go_loopg [34] wxs.length (fun g i wx => ∃ j : Nat, j + g = wxs.length ∧ i = .int .i64 j ∧ Below w5.heap.size w5 wx ∧ Hid (E = ((wxs.drop j).any (fun s => meet n s.xs) || X)))
          case atStart => exact ⟨0, by omega, rfl, Below.refl _ _, HE0⟩
          case round =>
            clear HE0
            obtain ⟨j, hj, rfl, hbj, HEj⟩ := hrel
            by_cases hlt2 : j < wxs.length
            · obtain ⟨g2, rfl⟩ : ∃ g2, gk = g2 + 1 := ⟨gk - 1, by omega⟩
              obtain ⟨t, hx⟩ : ∃ t : Sl (P n), wxs[j]? = some t := ⟨_, List.getElem?_eq_getElem hlt2⟩
              have hbw5 := bTrans hb4' hbj
              obtain ⟨bw, ow, ha, hbw, r0⟩ := wayRow (HPo2.out.1.under hbw5) hx
              have hmem := List.mem_of_getElem? hx
              have hszt : 1 + szL n t.xs ≤ 1048576 := Nat.le_trans (le_sum (List.mem_map.2 ⟨t, hmem, rfl⟩ : (1 + szL n t.xs) ∈ wxs.map (fun s => 1 + szL n s.xs))) hws
              have HCall := Lib.hid (HIH.out t wr ((HPo2.out.2 t hmem).under hbw5) (by omega))
              rw [any_step hx] at HEj
              generalize meet n t.xs = C at *
              simp only [] at ha
              cases ha
              clear hx hmem
              cases C
              · go_wp2_with (go_at_call 46; refine HCall.out.mono ?_; rintro e w6 ⟨rfl, hb6⟩)
                go_roundg g2
                case measure => omega
                case rel => exact ⟨j + 1, by omega, by go_num, bTrans hbj hb6, Lib.hid (by rw [HEj.out]; simp)⟩
              · have HT : Hid (E = true) := Lib.hid (by rw [HEj.out]; simp)
                go_wp2_with (go_at_call 46; refine HCall.out.mono ?_; rintro e w6 ⟨rfl, hb6⟩)
                go_ret
                exact ⟨ret_bool HT.out.symm, bTrans hbw5 hb6⟩
            · have HX0 : Hid (E = X) := Lib.hid (by rw [HEj.out, List.drop_of_length_le (by omega)]; simp)
              go_wp2_with fail
              go_roundg g
              case measure => omega
              case rel => exact ⟨k + 1, by omega, by go_num, bTrans hb4' hbj, Lib.hid (by rw [HXe.out]; exact HX0.out)⟩
      · have HE2 : Hid (E = false) := Lib.hid (by rw [HE.out, List.drop_of_length_le (by omega)]; rfl)
        go_wp2_with fail
        go_ret
        exact ⟨ret_bool HE2.out.symm, hb⟩
end Go.Proofs.YtnpcbcnclncniaaGreatDoor
