/-
  names.checkParts.
-/
import Derived.Test.YtnpcbcnclncniaaGreatDoorGlob6
namespace Go.Proofs.YtnpcbcnclncniaaGreatDoor
open Go.RowKit

def pt (n : Nat) (p : P (n + 1)) : PartOf (P n) := p
def firstErr : List Int → Int
  | [] => 0
  | e :: r => if e = 0 then firstErr r else e
def stepErr (n : Nat) (f : Sl (P n) → Int) (ks : List Int) (i : Nat) (p : P (n + 1)) : Int :=
  if (pt n p).kind < 1 ∨ 6 < (pt n p).kind then 5 else if formErr (pt n p) ≠ 0 then formErr (pt n p)
  else if isTxt ks i && (isTxt ks ((i : Int) - 1) || isTxt ks ((i : Int) + 1)) then 6 else if rgErr (pt n p).rg.xs ≠ 0 then rgErr (pt n p).rg.xs else firstErr ((pt n p).ways.xs.map f)
def chkGo (n : Nat) (f : Sl (P n) → Int) (ks : List Int) : Nat → List (P (n + 1)) → Int
  | _, [] => 0
  | i, p :: r => if stepErr n f ks i p = 0 then chkGo n f ks (i + 1) r else stepErr n f ks i p
/-- What checkParts returns. -/
def chk : (n : Nat) → List (P n) → Int
  | 0, _ => 0
  | n + 1, xs => chkGo n (fun s => chk n s.xs) (kdL (n + 1) xs) 0 xs

theorem chkGo_step {n : Nat} {f : Sl (P n) → Int} {ks : List Int} {xs : List (P (n + 1))} {k : Nat} {p : P (n + 1)} (h : xs[k]? = some p) : chkGo n f ks k (xs.drop k) = if stepErr n f ks k p = 0 then chkGo n f ks (k + 1) (xs.drop (k + 1)) else stepErr n f ks k p := by
  have hl := (List.getElem?_eq_some_iff.1 h).1
  rw [List.drop_eq_getElem_cons hl, (List.getElem?_eq_some_iff.1 h).2]
  rfl
theorem firstErr_step {l : List Int} {k : Nat} {e : Int} (h : l[k]? = some e) : firstErr (l.drop k) = if e = 0 then firstErr (l.drop (k + 1)) else e := by
  have hl := (List.getElem?_eq_some_iff.1 h).1
  rw [List.drop_eq_getElem_cons hl, (List.getElem?_eq_some_iff.1 h).2]
  rfl

set_option maxHeartbeats 4000000 in
set_option maxRecDepth 100000 in
theorem checkParts_any : ∀ (n : Nat) (s : Sl (P n)) (w : World), SOk w n s → szL n s.xs ≤ 1048576 →
    Calls Tryz.prog 45 #[.slice s.a s.xs.length s.c] w fun e w' => e = .returned (.int .i64 (chk n s.xs)) ∧ Below w.heap.size w w' := by
  intro n
  induction n with
  | zero =>
    intro s w hs _
    obtain ⟨a, c, xs⟩ := s
    cases xs with
    | cons x _ => exact nomatch x
    | nil =>
      go_enter Tryz.func45, Tryz.ntmps45
      go_wp2_with fail
      refine wp_loop_rounds 1 ?_
      rw [rounds_succ]
      go_wp2_with fail
      go_ret
      exact ⟨rfl, bAlloc (Below.refl _ _) _⟩
  | succ n ih =>
    rintro ⟨sa, sc, xs⟩ w hs hz
    have hlen : xs.length ≤ 1048576 := Nat.le_trans (len_le_sz (n + 1) xs) hz
    simp only [] at hz
    have HS := Lib.hid hs
    have HIH := Lib.hid ih
    have HTx := Lib.hid (fun W (hb : Below w.heap.size w W) i b hc => isText_any ⟨sa, sc, xs⟩ i b W (hs.1.under hb) hlen hc)
    obtain ⟨E, hE⟩ : ∃ E, chk (n + 1) xs = E := ⟨_, rfl⟩
    have HE : Hid (E = chkGo n (fun s => chk n s.xs) (kdL (n + 1) xs) 0 (xs.drop 0)) := Lib.hid hE.symm
    rw [hE]
    clear hs ih hE
    simp only [] at HTx
    generalize kdL (n + 1) xs = ks at *
    have hb0 := bAlloc (Below.refl w.heap.size w) (.cells #[.slice sa xs.length sc] 22)
    have hq0 : (w.alloc (.cells #[.slice sa xs.length sc] 22)).cell? ⟨w.heap.size, 0, none⟩ = some (.slice sa xs.length sc) := by rw [World.cell?_alloc_at _ _ _ _ rfl]; rfl
    have hqs : w.heap.size < (w.alloc (.cells #[.slice sa xs.length sc] 22)).heap.size := by simp
    go_enter Tryz.func45, Tryz.ntmps45
    go_upto_region 1 with fail
    generalize w.alloc _ = w1 at *
    have HQ := Lib.hid (fun W (hb : Below w1.heap.size w1 W) => (hb.cell (p := ⟨w.heap.size, 0, none⟩) hqs).trans hq0)
    go_wp2_with fail
    clear hq0
    go_loopg [14] xs.length (fun g i wx => ∃ k : Nat, k + g = xs.length ∧ i = .int .i64 k ∧ Below w1.heap.size w1 wx ∧ Hid (E = chkGo n (fun s => chk n s.xs) ks k (xs.drop k)))
    case atStart => exact ⟨0, by omega, rfl, Below.refl _ _, HE⟩
    case round =>
      clear HE
      obtain ⟨k, hk, rfl, hb, HE⟩ := hrel
      by_cases hlt : k < xs.length
      · obtain ⟨g, rfl⟩ : ∃ g, gk = g + 1 := ⟨gk - 1, by omega⟩
        obtain ⟨p, hx⟩ : ∃ p : P (n + 1), xs[k]? = some p := ⟨_, List.getElem?_eq_getElem hlt⟩
        obtain ⟨ba, off, ha, hba, r0, r1, r2, r3, r4⟩ := partRow (p := pt n p) ((HS.out.under (bTrans hb0 hb)).1) hx
        have HPo : Hid (POk w (n + 1) p) := Lib.hid (HS.out.2 p (List.mem_of_getElem? hx))
        rw [chkGo_step hx] at HE
        have hsp : sz (n + 1) p ≤ 1048576 := Nat.le_trans (le_sum (List.mem_map.2 ⟨p, List.mem_of_getElem? hx, rfl⟩)) hz
        have hszp : sz (n + 1) p = 1 + (pt n p).text.size + (pt n p).rg.xs.length + ((pt n p).ways.xs.map (fun s => 1 + szL n s.xs)).sum := rfl
        have hrl : (pt n p).rg.xs.length ≤ 1048576 := by omega
        have hws : ((pt n p).ways.xs.map (fun s => 1 + szL n s.xs)).sum ≤ 1048576 := by omega
        have hwl : (pt n p).ways.xs.length ≤ 1048576 := by
          have := sum_mono (xs := (pt n p).ways.xs) (f := fun _ => 1) (g := fun s => 1 + szL n s.xs) (fun s _ => by omega)
          rw [sum_ones1] at this
          omega
        obtain ⟨S, hS⟩ : ∃ S, stepErr n (fun s => chk n s.xs) ks k p = S := ⟨_, rfl⟩
        rw [hS] at HE
        have HSd : Hid (S = _) := Lib.hid hS.symm
        have HRet : Hid (S ≠ 0 → E = S) := Lib.hid (fun h => by rw [HE.out, if_neg h])
        have HGo : Hid (S = 0 → E = chkGo n (fun s => chk n s.xs) ks (k + 1) (xs.drop (k + 1))) := Lib.hid (fun h => by rw [HE.out, if_pos h])
        unfold stepErr at HSd
        have HPo2 : Hid (SlHolds w 2 rgCells (pt n p).rg ∧ SlHolds w 1 (fun s : Sl (P n) => [s.val]) (pt n p).ways ∧ ∀ s ∈ (pt n p).ways.xs, SOk w n s) := Lib.hid ⟨HPo.out.2.1, HPo.out.2.2.2.1, HPo.out.2.2.2.2⟩
        clear HPo hS HE hx hsp hszp
        generalize pt n p = q at *
        have HBx := Lib.hid (partBox_new wr q 92)
        have hbx : Below wr.heap.size wr (wr.alloc (.cells #[.int .i64 q.kind, .string q.text, .bool q.neg, .slice q.rg.a q.rg.xs.length q.rg.c, .slice q.ways.a q.ways.xs.length q.ways.c] 92)) := bAlloc (Below.refl _ _) _
        simp only [] at ha
        subst ha
        go_upto_region 5 with fail
        generalize wr.alloc _ = w3 at *
        clear r0 r1 r2 r3 r4
        have hb3 := bTrans hb hbx
        obtain ⟨p0, p1, p2, p3, p4, p5⟩ := HBx.out
        by_cases k1 : q.kind < 1
        · have HS5 : Hid (S = 5) := Lib.hid (by rw [HSd.out, if_pos (.inl k1)])
          clear HSd
          go_wp2_with fail
          go_ret
          exact ⟨ret_int (by rw [HRet.out (by rw [HS5.out]; decide), HS5.out]), bTrans hb0 hb3⟩
        by_cases k2 : 6 < q.kind
        · have HS5 : Hid (S = 5) := Lib.hid (by rw [HSd.out, if_pos (.inr k2)])
          clear HSd
          go_wp2_with fail
          go_ret
          exact ⟨ret_int (by rw [HRet.out (by rw [HS5.out]; decide), HS5.out]), bTrans hb0 hb3⟩
        replace HSd := Lib.hid (HSd.out.trans (if_neg (by omega)))
        have HF := Lib.hid (fun W => partForm_any q W hrl hwl)
        have HR := Lib.hid (fun W (hbW : Below w.heap.size w W) => rangesForm_any q.rg W (HPo2.out.1.under hbW) hrl)
        generalize formErr q = F at *
        generalize rgErr q.rg.xs = R at *
        by_cases hF : F = 0
        case neg =>
          have HS5 : Hid (S = F) := Lib.hid (by rw [HSd.out, if_pos hF])
          have hF' : (F != 0) = true := by simp [hF]
          have HFn := Lib.hid hF
          clear HSd hF
          go_wp2_with fail
          refine (HF.out _).mono ?_
          rintro e w4 ⟨rfl, hb4⟩
          go_wp2_with fail
          go_ret
          exact ⟨ret_int (by rw [HRet.out (by rw [HS5.out]; exact HFn.out), HS5.out]), bTrans hb0 (bTrans hb3 hb4)⟩
        subst hF
        replace HSd := Lib.hid (HSd.out.trans (if_neg (by decide)))
        go_wp2_with fail
        refine (HF.out _).mono ?_
        rintro e w4 ⟨rfl, hb4⟩
        go_upto_region 10 with fail
        have hb4' := bTrans hb3 hb4
        replace HBx := Lib.hid (HBx.out.under hb4)
        clear p0 p1 p2 p3 p4 p5 hb4 hb3 HF
        obtain ⟨p0, p1, p2, p3, p4, p5⟩ := HBx.out
        have HT1 := Lib.hid (fun i => HTx.out w4 (bTrans hb0 hb4') i w.heap.size (HQ.out w4 hb4'))
        generalize hta : isTxt ks (k : Int) = ta at *
        generalize htb : isTxt ks ((k : Int) - 1) = tb at *
        generalize htc : isTxt ks ((k : Int) + 1) = tc at *
        have HA1 := Lib.hid (HT1.out (k : Int))
        have HA2 := Lib.hid (HT1.out ((k : Int) - 1))
        have HA3 := Lib.hid (HT1.out ((k : Int) + 1))
        rw [hta] at HA1
        rw [htb] at HA2
        rw [htc] at HA3
        clear HT1 hta htb htc
        go_cut [46] (fun s46 wx => s46 = .bool (ta && (tb || tc)) ∧ w4 = wx)
        case first =>
          cases ta <;> cases tb <;> cases tc
          all_goals
            go_wp2_with (first | ((with_reducible refine HA1.out.mono ?_); rintro e w5 ⟨rfl, rfl⟩) | ((with_reducible refine HA2.out.mono ?_); rintro e w5 ⟨rfl, rfl⟩) | ((with_reducible refine HA3.out.mono ?_); rintro e w5 ⟨rfl, rfl⟩))
            go_meet
            exact ⟨rfl, rfl⟩
        case rest =>
          obtain ⟨rfl, rfl⟩ := hcut
          generalize (ta && (tb || tc)) = tx at *
          clear HA1 HA2 HA3
          cases tx
          case true =>
            have HS5 : Hid (S = 6) := Lib.hid (by rw [HSd.out]; rfl)
            go_wp2_with fail
            go_ret
            exact ⟨ret_int (by rw [HRet.out (by rw [HS5.out]; decide), HS5.out]), bTrans hb0 hb4'⟩
          replace HSd := Lib.hid (HSd.out.trans (if_neg (by decide)))
          by_cases hR : R = 0
          case neg =>
            have HS5 : Hid (S = R) := Lib.hid (by rw [HSd.out, if_pos hR])
            have hR' : (R != 0) = true := by simp [hR]
            have HRn := Lib.hid hR
            clear HSd hR
            go_wp2_with fail
            refine (HR.out _ (bTrans hb0 hb4')).mono ?_
            rintro e w5 ⟨rfl, hb5⟩
            go_wp2_with fail
            go_ret
            exact ⟨ret_int (by rw [HRet.out (by rw [HS5.out]; exact HRn.out), HS5.out]), bTrans hb0 (bTrans hb4' hb5)⟩
          subst hR
          replace HSd := Lib.hid (HSd.out.trans (if_neg (by decide)))
          go_wp2_with fail
          refine (HR.out _ (bTrans hb0 hb4')).mono ?_
          rintro e w5 ⟨rfl, hb5⟩
          have hb5' := bTrans hb4' hb5
          replace HBx := Lib.hid (HBx.out.under hb5)
          clear p0 p1 p2 p3 p4 p5 hb5 hb4' HR
          obtain ⟨kind, text, neg, rg, ⟨wa, wc, wxs⟩⟩ := q
          simp only [] at *
          obtain ⟨p0, p1, p2, p3, p4, p5⟩ := HBx.out
          obtain ⟨wo, rfl⟩ : ∃ wo : World, wo = wr := ⟨_, rfl⟩
          go_wp2_with fail
          go_loopg [56] wxs.length (fun g i wx => ∃ j : Nat, j + g = wxs.length ∧ i = .int .i64 j ∧ Below w5.heap.size w5 wx ∧ Hid (S = firstErr ((wxs.map (fun s => chk n s.xs)).drop j)))
          case atStart => exact ⟨0, by omega, rfl, Below.refl _ _, HSd⟩
          case round =>
            clear HSd
            obtain ⟨j, hj, rfl, hbj, HSj⟩ := hrel
            by_cases hlt2 : j < wxs.length
            · obtain ⟨g2, rfl⟩ : ∃ g2, gk = g2 + 1 := ⟨gk - 1, by omega⟩
              obtain ⟨t, hx⟩ : ∃ t : Sl (P n), wxs[j]? = some t := ⟨_, List.getElem?_eq_getElem hlt2⟩
              have hbw5 := bTrans (bTrans hb0 hb5') hbj
              obtain ⟨bw, ow, ha, hbw, r0⟩ := wayRow (HPo2.out.2.1.under hbw5) hx
              have hmem := List.mem_of_getElem? hx
              have hszt : 1 + szL n t.xs ≤ 1048576 := Nat.le_trans (le_sum (List.mem_map.2 ⟨t, hmem, rfl⟩ : (1 + szL n t.xs) ∈ wxs.map (fun s => 1 + szL n s.xs))) hws
              have HCall := Lib.hid (HIH.out t wr ((HPo2.out.2.2 t hmem).under hbw5) (by omega))
              rw [firstErr_step (e := chk n t.xs) (by rw [List.getElem?_map, hx]; rfl)] at HSj
              generalize chk n t.xs = C at *
              simp only [] at ha
              cases ha
              clear hx hmem
              by_cases hC : C = 0
              · subst hC
                replace HSj := Lib.hid (HSj.out.trans (if_pos rfl))
                go_wp2_with (go_at_call 45; refine HCall.out.mono ?_; rintro e w6 ⟨rfl, hb6⟩)
                go_roundg g2
                case measure => omega
                case rel => exact ⟨j + 1, by omega, by go_num, bTrans hbj hb6, HSj⟩
              · have HS5 : Hid (S = C) := Lib.hid (by rw [HSj.out, if_neg hC])
                have hC' : (C != 0) = true := by simp [hC]
                have HCn := Lib.hid hC
                clear hC HSj
                go_wp2_with (go_at_call 45; refine HCall.out.mono ?_; rintro e w6 ⟨rfl, hb6⟩)
                go_ret
                exact ⟨ret_int (by rw [HRet.out (by rw [HS5.out]; exact HCn.out), HS5.out]), bTrans hbw5 hb6⟩
            · have HS0 : Hid (S = 0) := Lib.hid (by rw [HSj.out, List.drop_of_length_le (by simp; omega)]; rfl)
              go_wp2_with fail
              go_roundg g
              case measure => omega
              case rel => exact ⟨k + 1, by omega, by go_num, bTrans hb5' hbj, Lib.hid (HGo.out HS0.out)⟩
      · have HE2 : Hid (E = 0) := Lib.hid (by rw [HE.out, List.drop_of_length_le (by omega)]; rfl)
        go_wp2_with fail
        go_ret
        exact ⟨ret_int HE2.out.symm, bTrans hb0 hb⟩
end Go.Proofs.YtnpcbcnclncniaaGreatDoor
