/-
  wherryref1.globSize, walked.
-/
import Derived.Test.YtnpcbcnclncniaaGreatDoorGlob2
namespace Go.Proofs.YtnpcbcnclncniaaGreatDoor
open Go.RowKit

set_option maxHeartbeats 2000000 in
set_option maxRecDepth 100000 in
theorem globSize_any : ∀ (n : Nat) (s : Sl (P n)) (w : World), SOk w n s → szL n s.xs ≤ 1048576 → s.xs.length ≤ 1048576 →
    Calls Tryz.prog 19 #[.slice s.a s.xs.length s.c] w fun e w' => e = .returned (.tuple #[.int .i64 (cntL n s.xs), .int .i64 (dpL n s.xs)]) ∧ Below w.heap.size w w' := by
  intro n
  induction n with
  | zero =>
    intro s w hs _ _
    obtain ⟨a, c, xs⟩ := s
    cases xs with
    | cons x _ => exact nomatch x
    | nil =>
      go_enter Tryz.func19, Tryz.ntmps19
      go_wp2_with fail
      refine wp_loop_rounds 1 ?_
      rw [rounds_succ]
      go_wp2_with fail
      go_ret2
      exact ⟨rfl, Below.refl _ _⟩
  | succ n ih =>
    rintro ⟨sa, sc, xs⟩ w hs hz hlen
    simp only [] at hz hlen
    have HS := Lib.hid hs
    have HIH := Lib.hid ih
    clear hs ih
    go_enter Tryz.func19, Tryz.ntmps19
    go_wp2_with fail
    go_loopg [2, 3, 12] xs.length (fun g s2 s3 i wx => ∃ (k cn de : Nat), k + g = xs.length ∧ i = .int .i64 k ∧ s2 = .int .i64 cn ∧ s3 = .int .i64 de ∧ Below w.heap.size w wx ∧ cn ≤ 1048576 ∧ de ≤ 1048576 ∧ Hid (cn = cntL (n + 1) (xs.take k)) ∧ Hid (de = dpL (n + 1) (xs.take k)))
    case atStart => exact ⟨0, 0, 0, by omega, rfl, rfl, rfl, Below.refl _ _, by omega, by omega, Lib.hid rfl, Lib.hid rfl⟩
    case round =>
      obtain ⟨k, cn, de, hk, rfl, rfl, rfl, hb, hcn, hde, HC, HD⟩ := hrel
      by_cases hlt : k < xs.length
      · obtain ⟨g, rfl⟩ : ∃ g, gk = g + 1 := ⟨gk - 1, by omega⟩
        obtain ⟨p, hx⟩ : ∃ p : PartOf (P n), xs[k]? = some p := ⟨_, List.getElem?_eq_getElem hlt⟩
        obtain ⟨ba, off, ha, hba, r0, r1, r2, r3, r4⟩ := partRow (HS.out.1.under hb) hx
        have hpo : POk w (n + 1) p := HS.out.2 p (List.mem_of_getElem? hx)
        have HPo := Lib.hid hpo
        have HC2 : Hid (cntL (n + 1) (xs.take (k + 1)) = cn + cnt (n + 1) p) := Lib.hid (by unfold cntL at *; rw [take_map_snoc _ hx, List.sum_append, ← HC.out]; simp)
        have HD2 : Hid (dpL (n + 1) (xs.take (k + 1)) = max de (dp (n + 1) p)) := Lib.hid (by unfold dpL at *; rw [take_map_snoc _ hx, maxL_snoc, ← HD.out])
        have hcn2 : cn + cnt (n + 1) p ≤ 1048576 := by
          have h1 := cntL_le (n + 1) (xs.take (k + 1))
          have h2 : szL (n + 1) (xs.take (k + 1)) ≤ szL (n + 1) xs := sum_take_le _ _ _
          rw [HC2.out] at h1
          omega
        have hde2 : dp (n + 1) p ≤ 1048576 := by
          have h1 := dp_le (n + 1) p
          have h2 : sz (n + 1) p ≤ szL (n + 1) xs := le_sum (List.mem_map.2 ⟨p, List.mem_of_getElem? hx, rfl⟩)
          omega
        have hsp : sz (n + 1) p ≤ 1048576 := by
          have h2 : sz (n + 1) p ≤ szL (n + 1) xs := le_sum (List.mem_map.2 ⟨p, List.mem_of_getElem? hx, rfl⟩)
          omega
        have HBx := Lib.hid (partBox_new wr p 92)
        have hbx : Below wr.heap.size wr (wr.alloc (.cells #[.int .i64 p.kind, .string p.text, .bool p.neg, .slice p.rg.a p.rg.xs.length p.rg.c, .slice p.ways.a p.ways.xs.length p.ways.c] 92)) := bAlloc (Below.refl _ _) _
        have HCp : Hid (cnt (n + 1) p = 1 + (p.ways.xs.map (fun s => cntL n s.xs)).sum) := Lib.hid rfl
        have HDp : Hid (dp (n + 1) p = maxL (p.ways.xs.map (fun s => dpL n s.xs)) + if p.kind = 6 then 1 else 0) := Lib.hid rfl
        have hwl : p.ways.xs.length ≤ 1048576 ∧ (p.ways.xs.map (fun s => 1 + szL n s.xs)).sum ≤ 1048576 := by
          have h1 : sz (n + 1) p = 1 + p.text.size + p.rg.xs.length + (p.ways.xs.map (fun s => 1 + szL n s.xs)).sum := rfl
          have h2 : p.ways.xs.length ≤ (p.ways.xs.map (fun s => 1 + szL n s.xs)).sum := by
            have := sum_mono (xs := p.ways.xs) (f := fun _ => 1) (g := fun s => 1 + szL n s.xs) (fun s _ => by omega)
            rw [sum_ones1] at this
            exact this
          omega
        generalize cnt (n + 1) p = cp at *
        generalize dp (n + 1) p = dpp at *
        clear hx hsp hpo
        obtain ⟨hwl, hws⟩ := hwl
        cases ha
        obtain ⟨kind, text, neg, ⟨ra, rc, rxs⟩, ⟨wa, wc, wxs⟩⟩ := p
        simp only [] at *
        go_upto_region 4 with fail
        generalize wr.alloc _ = w3 at *
        clear r0 r1 r2 r3 r4
        have hb3 := bTrans hb hbx
        obtain ⟨p0, p1, p2, p3, p4, p5⟩ := HBx.out
        obtain ⟨wo, rfl⟩ : ∃ wo : World, wo = wr := ⟨_, rfl⟩
        go_wp2_with fail
        obtain ⟨ee, hee⟩ : ∃ ee : Nat, (if kind = 6 then 1 else 0) = ee := ⟨_, rfl⟩
        have hee1 : ee ≤ 1 := by rw [← hee]; split <;> omega
        rw [hee] at HDp
        have HEE := Lib.hid hee
        clear hee
        go_loopg [2, 3, 21] wxs.length (fun g s2 s3 i wx => ∃ (j c2 d2 : Nat), j + g = wxs.length ∧ i = .int .i64 j ∧ s2 = .int .i64 c2 ∧ s3 = .int .i64 d2 ∧ Below w3.heap.size w3 wx ∧ c2 ≤ 1048576 ∧ d2 ≤ 1048577 ∧ Hid (c2 = cn + 1 + ((wxs.take j).map (fun s => cntL n s.xs)).sum) ∧ Hid (d2 = if j = 0 then de else max de (maxL ((wxs.take j).map (fun s => dpL n s.xs)) + ee)))
        case atStart => exact ⟨0, cn + 1, de, by omega, rfl, int_eqv (by omega), rfl, Below.refl _ _, by have := HCp.out; omega, by omega, Lib.hid rfl, Lib.hid rfl⟩
        case round =>
          obtain ⟨j, c2, d2, hj, rfl, rfl, rfl, hbj, hc2, hd2, HCj, HBj⟩ := hrel
          by_cases hlt2 : j < wxs.length
          · obtain ⟨g2, rfl⟩ : ∃ g2, gk = g2 + 1 := ⟨gk - 1, by omega⟩
            obtain ⟨t, hx⟩ : ∃ t : Sl (P n), wxs[j]? = some t := ⟨_, List.getElem?_eq_getElem hlt2⟩
            obtain ⟨bw, ow, ha, hbw, r0⟩ := wayRow (HPo.out.2.2.2.1.under (bTrans hb3 hbj)) hx
            have hmem := List.mem_of_getElem? hx
            have hto : SOk w n t := HPo.out.2.2.2.2 t hmem
            have hszt : 1 + szL n t.xs ≤ 1048576 := Nat.le_trans (le_sum (List.mem_map.2 ⟨t, hmem, rfl⟩ : (1 + szL n t.xs) ∈ wxs.map (fun s => 1 + szL n s.xs))) hws
            have hlt3 : t.xs.length ≤ 1048576 := by have := len_le_sz n t.xs; omega
            have HCall := Lib.hid (HIH.out t wr (hto.under (bTrans hb3 hbj)) (by omega) hlt3)
            have hcb := cntL_le n t.xs
            have hdb := dpL_le n t.xs
            have HCs : Hid (c2 + cntL n t.xs = cn + 1 + ((wxs.take (j + 1)).map (fun s => cntL n s.xs)).sum) := Lib.hid (by rw [take_map_snoc _ hx, List.sum_append, HCj.out]; simp; omega)
            have HBs : Hid (max d2 (dpL n t.xs + ee) = if j + 1 = 0 then de else max de (maxL ((wxs.take (j + 1)).map (fun s => dpL n s.xs)) + ee)) := Lib.hid (by
              rw [if_neg (by omega), take_map_snoc _ hx, maxL_snoc, HBj.out]
              by_cases e0 : j = 0
              · subst e0
                rw [if_pos rfl]
                simp only [List.take_zero, List.map_nil]
                show max de _ = max de (max (maxL []) _ + ee)
                have : maxL [] = 0 := rfl
                omega
              · rw [if_neg e0]
                omega)
            have hcs : c2 + cntL n t.xs ≤ 1048576 := by
              have h1 : ((wxs.take (j + 1)).map (fun s => cntL n s.xs)).sum ≤ (wxs.map (fun s => cntL n s.xs)).sum := sum_take_le _ _ _
              have h2 := HCs.out
              have h3 := HCp.out
              omega
            generalize cntL n t.xs = ct at *
            generalize dpL n t.xs = dt at *
            cases ha
            clear hx hmem hto
            cases c6 : (kind == 6)
            case' true => have HE1 : Hid (ee = 1) := Lib.hid (by rw [← HEE.out, if_pos (by simpa using c6)])
            case' false => have HE1 : Hid (ee = 0) := Lib.hid (by rw [← HEE.out, if_neg (by simpa using c6)])
            all_goals
              go_wp2_with (go_at_call 19; refine HCall.out.mono ?_; rintro e w5 ⟨rfl, hb5⟩; obtain ⟨p0, p1, p2, p3, p4, p5⟩ := HBx.out.under (bTrans hbj hb5))
            all_goals
              go_roundg g2
              case measure => omega
              case rel => exact ⟨j + 1, c2 + ct, max d2 (dt + ee), by omega, by go_num, int_eqv (by omega), int_eqv (by have := HE1.out; omega), bTrans hbj hb5, hcs, by omega, HCs, HBs⟩
          · obtain rfl : j = wxs.length := by omega
            have HCf : Hid (c2 = cn + cp) := Lib.hid (by
              have h1 := HCj.out
              rw [List.take_of_length_le (Nat.le_refl _)] at h1
              have h2 := HCp.out
              omega)
            have HBf : Hid (max de dpp = max d2 ee) := Lib.hid (by
              have h1 := HBj.out
              rw [List.take_of_length_le (Nat.le_refl _)] at h1
              rw [HDp.out, h1]
              by_cases e0 : wxs.length = 0
              · rw [if_pos e0]
                have : wxs = [] := List.length_eq_zero_iff.1 e0
                subst this
                show max de (maxL [] + ee) = _
                have : maxL [] = 0 := rfl
                omega
              · rw [if_neg e0]
                omega)
            obtain ⟨p0, p1, p2, p3, p4, p5⟩ := HBx.out.under hbj
            clear HCj HBj
            cases c6 : (kind == 6)
            case' true => have HE1 : Hid (ee = 1) := Lib.hid (by rw [← HEE.out, if_pos (by simpa using c6)])
            case' false => have HE1 : Hid (ee = 0) := Lib.hid (by rw [← HEE.out, if_neg (by simpa using c6)])
            all_goals
              go_wp2_with fail
            all_goals
              go_roundg g
              case measure => omega
              case rel => exact ⟨k + 1, c2, max de dpp, by omega, by go_num, rfl, int_eqv (by have := HE1.out; have := HBf.out; omega), bTrans hb3 hbj, by omega, by omega, Lib.hid (by rw [HC2.out]; exact HCf.out), Lib.hid HD2.out.symm⟩
      · obtain rfl : k = xs.length := by omega
        rw [List.take_of_length_le (Nat.le_refl _)] at HC HD
        go_wp2_with fail
        go_ret2
        exact ⟨by rw [← HC.out, ← HD.out]; rfl, hb⟩
end Go.Proofs.YtnpcbcnclncniaaGreatDoor
