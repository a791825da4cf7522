/-
  wherryref1.fits, walked.
-/
import Derived.Test.YtnpcbcnclncniaaDoorMatB
namespace Go.Proofs.YtnpcbcnclncniaaDoor
open Go.RowKit

set_option maxHeartbeats 16000000 in
set_option maxRecDepth 100000 in
theorem fits_any : ∀ n : Nat, RefAllDoes n := by
  intro n
  induction n with
  | zero =>
    intro xs s frm a c N w _ _ _ hl hN _ _
    have HLn := Lib.hid hl
    clear hl hN
    obtain ⟨xa, xc, xs⟩ := xs
    cases xs with
    | cons x _ => exact nomatch x
    | nil =>
      go_enter Tryd.func56, Tryd.ntmps56
      go_wp2_with fail
      refine wp_loop_rounds 1 ?_
      rw [rounds_succ]
      go_wp2_with fail
      go_ret
      exact ⟨a, c, frm, rfl, HLn.out, .inl ⟨rfl, rfl, rfl⟩, Leads.refl (fun i j => Iff.rfl) frm, Below.refl _ _⟩
  | succ n ih =>
    rintro ⟨sa, sc, xs⟩ s frm a c N w hs hg hz hN0 hN1 hsz hF
    have hlen : xs.length ≤ 1048576 := Nat.le_trans (len_le_sz (n + 1) xs) hz
    simp only [] at hz hg
    have HS := Lib.hid hs
    have HF := Lib.hid hF
    have HIH := Lib.hid (fun t frm' a' c' W h1 h2 h3 h4 h5 => ih t s frm' a' c' N W h1 h2 h3 h4 hN1 hsz h5)
    have HG := Lib.hid hg
    have HZ := Lib.hid hz
    have HN := Lib.hid hN0
    have HN1 := Lib.hid hN1
    have hNi : (s.size : Int) + 1 = (N : Int) := by omega
    have hmk := fun W => make_of elem_bools N W (by omega)
    have h0N : s.size < N := by omega
    have h1N : N ≤ s.size + 1 := by omega
    clear hs hg ih hF hz hN0 hN1
    go_enter Tryd.func56, Tryd.ntmps56
    go_wp2_with fail
    go_loopg [2, 19] xs.length (fun g s2 i wx => ∃ (k : Nat) (a' : Option Addr) (c' : Nat) (cur : List Bool), k + g = xs.length ∧ i = .int .i64 k ∧ s2 = .slice a' N c' ∧ Below w.heap.size w wx ∧ Hid (Src w a c frm a' c' cur wx) ∧ Hid (Leads (Rel s.data.toList (n + 1) (xs.take k)) frm cur))
    case atStart => exact ⟨0, a, c, frm, by omega, rfl, rfl, Below.refl _ _, Lib.hid (.inl ⟨rfl, rfl, rfl⟩), Lib.hid (Leads.refl (fun i j => Iff.rfl) frm)⟩
    case round =>
      obtain ⟨k, a', c', cur, hk, rfl, rfl, hb, HSrc, HL⟩ := hrel
      by_cases hlt : k < xs.length
      · obtain ⟨g, rfl⟩ : ∃ g, gk = g + 1 := ⟨gk - 1, by omega⟩
        obtain ⟨p, hx⟩ : ∃ p : P (n + 1), xs[k]? = some p := ⟨_, List.getElem?_eq_getElem hlt⟩
        obtain ⟨ba, off, ha, hba, r0, r1, r2, r3, r4⟩ := partRow (p := pt n p) ((HS.out.under hb).1) hx
        have hmem := List.mem_of_getElem? hx
        obtain ⟨hk1, _, _, hgw⟩ := HG.out p hmem
        have hsp : sz (n + 1) (pt n p) ≤ 1048576 := Nat.le_trans (le_sum (List.mem_map.2 ⟨p, hmem, rfl⟩)) HZ.out
        have hPo : POk w (n + 1) (pt n p) := HS.out.2 p hmem
        have hszp : sz (n + 1) (pt n p) = 1 + (pt n p).text.size + (pt n p).rg.xs.length + ((pt n p).ways.xs.map (fun s => 1 + szL n s.xs)).sum := rfl
        have hrl : (pt n p).rg.xs.length ≤ 1048576 := by omega
        have htl : (pt n p).text.size ≤ 1048576 := by omega
        have hwl : (pt n p).ways.xs.length ≤ 1048576 := by
          have := sum_mono (xs := (pt n p).ways.xs) (f := fun _ => 1) (g := fun s => 1 + szL n s.xs) (fun s _ => by omega)
          rw [sum_ones1] at this
          omega
        have HPo2 : Hid (SlHolds w 2 rgCells (pt n p).rg ∧ SlHolds w 1 (fun s : Sl (P n) => [s.val]) (pt n p).ways ∧ ∀ t ∈ (pt n p).ways.xs, SOk w n t ∧ Good n t.xs ∧ szL n t.xs ≤ 1048576) := Lib.hid ⟨hPo.2.1, hPo.2.2.2.1, fun t ht => ⟨hPo.2.2.2.2 t ht, hgw t ht, by
          have h1 := le_sum (List.mem_map.2 ⟨t, ht, rfl⟩ : (1 + szL n t.xs) ∈ (pt n p).ways.xs.map (fun s => 1 + szL n s.xs))
          omega⟩⟩
        have hcl : cur.length = N := by rw [HL.out.1, HN.out]
        have HCl := Lib.hid hcl
        have HSn : Hid (∀ i j, Rel s.data.toList (n + 1) (xs.take (k + 1)) i j ↔ ∃ m, Rel s.data.toList (n + 1) (xs.take k) i m ∧ PR s.data.toList n (pt n p) m j) := Lib.hid (fun i j => Rel_snoc hx)
        have HPA : Hid (PassAt wr (pt n p) wr.heap.size cur (List.replicate N false) ((wr.alloc (.cells (partArr (pt n p)) 64)).alloc (.cells (Array.replicate N (Value.bool false)) 4))) := Lib.hid (by
          refine ⟨(BoxIs.new wr _ _).under (bAlloc (Below.refl _ _) _), ?_, bAlloc (bAlloc (Below.refl _ _) _) _, by simp [hcl]⟩
          have := RowU.new (wr.alloc (.cells (partArr (pt n p)) 64)) N
          rwa [show (wr.alloc (.cells (partArr (pt n p)) 64)).heap.size = wr.heap.size + 1 by simp] at this)
        have HFw := Lib.hid (HSrc.out.holds HF.out hb)
        have HEnd : Hid (∀ tos wx, PassAt wr (pt n p) wr.heap.size cur tos wx → Leads (PR s.data.toList n (pt n p)) cur tos → Below w.heap.size w wx ∧ Hid (Src w a c frm (some ⟨wr.heap.size + 1, 0, none⟩) N tos wx) ∧ Hid (Leads (Rel s.data.toList (n + 1) (xs.take (k + 1))) frm tos)) := Lib.hid (fun tos wx h1 h2 =>
          ⟨bTrans hb h1.2.2.1, Lib.hid (.inr ⟨wr.heap.size + 1, rfl, HN.out.symm, Nat.le_succ_of_le hb.size, h1.2.1⟩), Lib.hid (Leads.trans HL.out h2 HSn.out)⟩)
        have hb0 := hb
        clear hx hmem hgw hsp hPo hszp hcl HSrc HSn HL hb
        generalize pt n p = q at *
        simp only [] at ha
        subst ha
        obtain ⟨kind, text, neg, ⟨ra, rc, rxs⟩, ⟨wa, wcap, wxs⟩⟩ := q
        simp only [] at *
        rcases (by omega : kind = 1 ∨ kind = 2 ∨ kind = 3 ∨ kind = 4 ∨ kind = 5 ∨ kind = 6) with rfl | rfl | rfl | rfl | rfl | rfl
        · as_aux_lemma =>
            have HPR : Hid (∀ i j, PR s.data.toList n (⟨1, text, neg, ⟨ra, rc, rxs⟩, ⟨wa, wcap, wxs⟩⟩ : PartOf (P n)) i j ↔ (j = i + text.size ∧ j ≤ s.data.toList.length ∧ (s.data.toList.drop i).take text.size = text.data.toList)) := Lib.hid (fun i j => by
              unfold PR PRel
              dsimp only
              rw [if_pos rfl])
            generalize PR s.data.toList n (⟨1, text, neg, ⟨ra, rc, rxs⟩, ⟨wa, wcap, wxs⟩⟩ : PartOf (P n)) = R at *
            go_upto_region 5 with fail
            generalize (wr.alloc _).alloc _ = w2 at *
            obtain ⟨wo, rfl⟩ : ∃ wo : World, wo = wr := ⟨_, rfl⟩
            clear r0 r1 r2 r3 r4
            go_wp2_with fail
            go_loopg [29] N (fun g i wx => ∃ (j : Nat) (tos : List Bool), j + g = N ∧ i = .int .i64 j ∧ Hid (PassAt wo (⟨1, text, neg, ⟨ra, rc, rxs⟩, ⟨wa, wcap, wxs⟩⟩ : PartOf (P n)) wo.heap.size cur tos wx) ∧ Hid (Marks R cur j tos))
            case atStart => exact ⟨0, _, by omega, rfl, HPA, Lib.hid (by rw [← HCl.out]; exact Marks.start _ _)⟩
            case round =>
              clear HPA hmk hNi
              obtain ⟨j, tos, hj, rfl, HPA, HM⟩ := hrel
              obtain ⟨p0, p1, p2, p3, p4, p5⟩ := HPA.out.1.part (p := (⟨1, text, neg, ⟨ra, rc, rxs⟩, ⟨wa, wcap, wxs⟩⟩ : PartOf (P n)))
              simp only [] at p1 p2 p3 p4 p5
              by_cases hlt2 : j < N
              · obtain ⟨g2, rfl⟩ : ∃ g2, gk = g2 + 1 := ⟨gk - 1, by omega⟩
                obtain ⟨b, hb⟩ : ∃ b, cur[j]? = some b := ⟨_, List.getElem?_eq_getElem (by rw [HCl.out]; exact hlt2)⟩
                obtain ⟨bf, of, ha, hbf, hca⟩ := (HFw.out.under HPA.out.2.2.1).at (k := j) (u := .bool b) (by rw [List.getElem?_map, hb]; rfl)
                have HB := Lib.hid hb
                subst ha
                clear hb
                cases b
                · have HM2 : Hid (Marks R cur (j + 1) tos) := Lib.hid (HM.out.skip (fun h => by rw [HB.out] at h; cases h))
                  clear p1 p2 p3 p4 p5
                  go_wp2_with fail
                  go_roundg g2
                  case measure => omega
                  case rel => exact ⟨j + 1, tos, by omega, by go_num, HPA, HM2⟩
                · have HR := Lib.hid (HPR.out j)
                  obtain ⟨B, hB⟩ : ∃ B, Lib.hasPrefix (s.extract j s.size).data.toList text.data.toList = B := ⟨_, rfl⟩
                  have HP : Hid (∀ W, Calls Tryd.prog 49 #[.string (s.extract j s.size), .string text] W fun e w' => e = .returned (.bool B) ∧ w' = W) := Lib.hid (fun W => by rw [← hB]; exact Tryd.strings_HasPrefix _ _ W)
                  have HBq : Hid (B = true ↔ (s.data.toList.drop j).take text.size = text.data.toList) := Lib.hid (by
                    rw [← hB, hasPre_take, Lib.extract_data, List.take_of_length_le (i := s.size - j) (by rw [List.length_drop, ← Lib.size_eq]; exact Nat.le_refl _), ← Lib.size_eq])
                  have hj0 : (0 : Int) ≤ (j : Int) := by omega
                  have hj1 : (j : Int) ≤ (s.size : Int) := by omega
                  have hj2 : j ≤ s.size := by omega
                  clear hB p3 p4 p5
                  go_upto_region 11 with fail
                  go_quiet ((go_at_call 49; first | exact Calls.quiet_of_same (HP.out _) | exact quietAfter (HP.out _)))
                  cases B
                  · have HM2 : Hid (Marks R cur (j + 1) tos) := Lib.hid (HM.out.skip (fun _ m h => absurd (HBq.out.2 ((HR.out m).1 h).2.2) Bool.false_ne_true))
                    clear hj0 hj1
                    go_wp2_with fail
                    go_roundg g2
                    case measure => omega
                    case rel => exact ⟨j + 1, tos, by omega, by go_num, Lib.hid (HPA.out.drewN _), HM2⟩
                  · have hle : j + text.size ≤ s.size := by
                      have h := congrArg List.length (HBq.out.1 rfl)
                      rw [List.length_take, List.length_drop, ← Lib.size_eq, ← Lib.size_eq] at h
                      omega
                    obtain ⟨e, he⟩ : ∃ e : Nat, (j : Int) + (text.size : Int) = (e : Int) := ⟨j + text.size, by omega⟩
                    have HE : Hid (e = j + text.size) := Lib.hid (by omega)
                    have heN : e < N := by omega
                    have HM2 : Hid (Marks R cur (j + 1) (tos.set e true)) := Lib.hid (HM.out.set HB.out (by rw [HCl.out]; exact heN) (fun m => (HR.out m).trans ⟨fun h => h.1.trans HE.out.symm, fun h => ⟨h.trans HE.out, by rw [h, ← Lib.size_eq, HE.out]; exact hle, HBq.out.1 rfl⟩⟩))
                    obtain ⟨x, htx⟩ : ∃ x, tos[e]? = some x := ⟨_, List.getElem?_eq_getElem (by rw [HPA.out.2.2.2, HCl.out]; exact heN)⟩
                    obtain ⟨f1, f2⟩ := HPA.out.2.1.cell htx
                    clear htx hle hj0 hj1
                    go_wp2_with fail
                    go_roundg g2
                    case measure => omega
                    case rel => exact ⟨j + 1, tos.set e true, by omega, by go_num, Lib.hid (PassAt.set (HPA.out.drewN _) e true), HM2⟩

              · obtain rfl : j = N := by omega
                have HLd : Hid (Leads R cur tos) := Lib.hid (Marks.done (by rw [HCl.out]; exact HM.out))
                obtain ⟨e1, e2, e3⟩ := HEnd.out tos wr HPA.out HLd.out
                clear HM HLd p2 p3 p4 p5
                go_wp2_with fail
                go_roundg g
                case measure => omega
                case rel => exact ⟨k + 1, some ⟨wo.heap.size + 1, 0, none⟩, _, tos, by omega, by go_num, rfl, e1, e2, e3⟩
        · as_aux_lemma =>
            have HPR : Hid (∀ i j, PR s.data.toList n (⟨2, text, neg, ⟨ra, rc, rxs⟩, ⟨wa, wcap, wxs⟩⟩ : PartOf (P n)) i j ↔ (j = i + 1 ∧ ∃ c, s.data.toList[i]? = some c ∧ oneB (⟨2, text, neg, ⟨ra, rc, rxs⟩, ⟨wa, wcap, wxs⟩⟩ : PartOf (P n)) c = true)) := Lib.hid (fun i j => by
              unfold PR PRel
              dsimp only
              rw [if_neg (by decide), if_pos (.inl rfl)])
            generalize PR s.data.toList n (⟨2, text, neg, ⟨ra, rc, rxs⟩, ⟨wa, wcap, wxs⟩⟩ : PartOf (P n)) = R at *
            go_upto_region 5 with fail
            generalize (wr.alloc _).alloc _ = w2 at *
            obtain ⟨wo, rfl⟩ : ∃ wo : World, wo = wr := ⟨_, rfl⟩
            clear r0 r1 r2 r3 r4
            go_wp2_with fail
            go_loopg [29] N (fun g i wx => ∃ (j : Nat) (tos : List Bool), j + g = N ∧ i = .int .i64 j ∧ Hid (PassAt wo (⟨2, text, neg, ⟨ra, rc, rxs⟩, ⟨wa, wcap, wxs⟩⟩ : PartOf (P n)) wo.heap.size cur tos wx) ∧ Hid (Marks R cur j tos))
            case atStart => exact ⟨0, _, by omega, rfl, HPA, Lib.hid (by rw [← HCl.out]; exact Marks.start _ _)⟩
            case round =>
              clear HPA hmk hNi
              obtain ⟨j, tos, hj, rfl, HPA, HM⟩ := hrel
              obtain ⟨p0, p1, p2, p3, p4, p5⟩ := HPA.out.1.part (p := (⟨2, text, neg, ⟨ra, rc, rxs⟩, ⟨wa, wcap, wxs⟩⟩ : PartOf (P n)))
              simp only [] at p1 p2 p3 p4 p5
              by_cases hlt2 : j < N
              · obtain ⟨g2, rfl⟩ : ∃ g2, gk = g2 + 1 := ⟨gk - 1, by omega⟩
                obtain ⟨b, hb⟩ : ∃ b, cur[j]? = some b := ⟨_, List.getElem?_eq_getElem (by rw [HCl.out]; exact hlt2)⟩
                obtain ⟨bf, of, ha, hbf, hca⟩ := (HFw.out.under HPA.out.2.2.1).at (k := j) (u := .bool b) (by rw [List.getElem?_map, hb]; rfl)
                have HB := Lib.hid hb
                subst ha
                clear hb
                cases b
                · have HM2 : Hid (Marks R cur (j + 1) tos) := Lib.hid (HM.out.skip (fun h => by rw [HB.out] at h; cases h))
                  clear p1 p2 p3 p4 p5
                  go_wp2_with fail
                  go_roundg g2
                  case measure => omega
                  case rel => exact ⟨j + 1, tos, by omega, by go_num, HPA, HM2⟩
                · have HR := Lib.hid (HPR.out j)
                  go_upto_region 15 with fail
                  by_cases hjs : j < s.size
                  case neg =>
                    have HM2 : Hid (Marks R cur (j + 1) tos) := Lib.hid (HM.out.skip (fun _ m h => by
                      obtain ⟨_, ch, h1, _⟩ := (HR.out m).1 h
                      have := (List.getElem?_eq_some_iff.1 h1).1
                      rw [← Lib.size_eq] at this
                      omega))
                    have hjd : decide (j < s.size) = false := decide_eq_false hjs
                    clear hjs
                    go_quiet (fail)
                    go_wp2_with fail
                    go_roundg g2
                    case measure => omega
                    case rel => exact ⟨j + 1, tos, by omega, by go_num, Lib.hid (HPA.out.drewN _), HM2⟩
                  obtain ⟨ch, hch⟩ : ∃ ch : UInt8, s[j]'hjs = ch := ⟨_, rfl⟩
                  have HCh : Hid (s.data.toList[j]? = some ch) := Lib.hid (by rw [← hch]; exact Lib.data_getElem? s j hjs)
                  have hjd : decide (j < s.size) = true := decide_eq_true hjs
                  have hj0 : (0 : Int) ≤ (j : Int) := by omega
                  have hj1 : (j : Int) < (s.size : Int) := by omega
                  by_cases h47 : ch = 47
                  · have e47 : ((ch.toNat : Int) != 47) = false := by rw [h47]; rfl
                    have HM2 : Hid (Marks R cur (j + 1) tos) := Lib.hid (HM.out.skip (fun _ m h => by
                      obtain ⟨_, ch', h1, h2⟩ := (HR.out m).1 h
                      rw [HCh.out] at h1
                      cases h1
                      rw [h47] at h2
                      cases h2))
                    clear h47
                    go_quiet (fail)
                    go_wp2_with fail
                    go_roundg g2
                    case measure => omega
                    case rel => exact ⟨j + 1, tos, by omega, by go_num, Lib.hid (HPA.out.drewN _), HM2⟩
                  have e47 : ((ch.toNat : Int) != 47) = true := by
                    have : ch.toNat ≠ 47 := fun e => h47 (UInt8.toNat_inj.1 (by simpa using e))
                    simp only [bne_iff_ne, ne_eq]
                    omega
                  have HC47 : Hid ((ch != 47) = true) := Lib.hid (by simpa using h47)
                  obtain ⟨x, htx⟩ : ∃ x, tos[j + 1]? = some x := ⟨_, List.getElem?_eq_getElem (by rw [HPA.out.2.2.2, HCl.out]; omega)⟩
                  have HX := Lib.hid htx
                  have hjN : j + 1 < N := by omega
                  have hcb : ch.toNat < 256 := ch.toNat_lt
                  clear h47 htx

                  have HM2 : Hid (Marks R cur (j + 1) (tos.set (j + 1) true)) := Lib.hid (HM.out.set HB.out (by rw [HCl.out]; exact hjN) (fun m => (HR.out m).trans ⟨fun h => h.1, fun h => ⟨h, ch, HCh.out, by
                    unfold oneB
                    rw [HC47.out]
                    rfl⟩⟩))
                  obtain ⟨f1, f2⟩ := HPA.out.2.1.cell HX.out
                  go_quiet (fail)
                  go_wp2_with fail
                  go_roundg g2
                  case measure => omega
                  case rel => exact ⟨j + 1, tos.set (j + 1) true, by omega, by go_num, Lib.hid (PassAt.set (HPA.out.drewN _) (j + 1) true), HM2⟩

              · obtain rfl : j = N := by omega
                have HLd : Hid (Leads R cur tos) := Lib.hid (Marks.done (by rw [HCl.out]; exact HM.out))
                obtain ⟨e1, e2, e3⟩ := HEnd.out tos wr HPA.out HLd.out
                clear HM HLd p2 p3 p4 p5
                go_wp2_with fail
                go_roundg g
                case measure => omega
                case rel => exact ⟨k + 1, some ⟨wo.heap.size + 1, 0, none⟩, _, tos, by omega, by go_num, rfl, e1, e2, e3⟩
        · as_aux_lemma =>
            have HPR : Hid (∀ i j, PR s.data.toList n (⟨3, text, neg, ⟨ra, rc, rxs⟩, ⟨wa, wcap, wxs⟩⟩ : PartOf (P n)) i j ↔ (i ≤ j ∧ j ≤ s.data.toList.length ∧ ∀ m, i ≤ m → m < j → s.data.toList[m]? ≠ some 47)) := Lib.hid (fun i j => by
              unfold PR PRel
              dsimp only
              rw [if_neg (by decide), if_neg (by decide), if_pos (.inl rfl)]
              exact ⟨fun h => ⟨h.1, h.2.1, h.2.2 rfl⟩, fun h => ⟨h.1, h.2.1, fun _ => h.2.2⟩⟩)
            generalize PR s.data.toList n (⟨3, text, neg, ⟨ra, rc, rxs⟩, ⟨wa, wcap, wxs⟩⟩ : PartOf (P n)) = R at *
            go_upto_region 5 with fail
            generalize (wr.alloc _).alloc _ = w2 at *
            obtain ⟨wo, rfl⟩ : ∃ wo : World, wo = wr := ⟨_, rfl⟩
            clear r0 r1 r2 r3 r4
            go_wp2_with fail
            go_loopg [29] N (fun g i wx => ∃ (j : Nat) (tos : List Bool), j + g = N ∧ i = .int .i64 j ∧ Hid (PassAt wo (⟨3, text, neg, ⟨ra, rc, rxs⟩, ⟨wa, wcap, wxs⟩⟩ : PartOf (P n)) wo.heap.size cur tos wx) ∧ Hid (Marks R cur j tos))
            case atStart => exact ⟨0, _, by omega, rfl, HPA, Lib.hid (by rw [← HCl.out]; exact Marks.start _ _)⟩
            case round =>
              clear HPA hmk hNi
              obtain ⟨j, tos, hj, rfl, HPA, HM⟩ := hrel
              obtain ⟨p0, p1, p2, p3, p4, p5⟩ := HPA.out.1.part (p := (⟨3, text, neg, ⟨ra, rc, rxs⟩, ⟨wa, wcap, wxs⟩⟩ : PartOf (P n)))
              simp only [] at p1 p2 p3 p4 p5
              by_cases hlt2 : j < N
              · obtain ⟨g2, rfl⟩ : ∃ g2, gk = g2 + 1 := ⟨gk - 1, by omega⟩
                obtain ⟨b, hb⟩ : ∃ b, cur[j]? = some b := ⟨_, List.getElem?_eq_getElem (by rw [HCl.out]; exact hlt2)⟩
                obtain ⟨bf, of, ha, hbf, hca⟩ := (HFw.out.under HPA.out.2.2.1).at (k := j) (u := .bool b) (by rw [List.getElem?_map, hb]; rfl)
                have HB := Lib.hid hb
                subst ha
                clear hb
                cases b
                · have HM2 : Hid (Marks R cur (j + 1) tos) := Lib.hid (HM.out.skip (fun h => by rw [HB.out] at h; cases h))
                  clear p1 p2 p3 p4 p5
                  go_wp2_with fail
                  go_roundg g2
                  case measure => omega
                  case rel => exact ⟨j + 1, tos, by omega, by go_num, HPA, HM2⟩
                · have HR := Lib.hid (HPR.out j)
                  obtain ⟨wm, rfl⟩ : ∃ wm : World, wm = wr := ⟨_, rfl⟩
                  clear p2 p3 p4 p5
                  go_wp2_with fail
                  clear p0 p1
                  go_loopg [12] (s.size - j) (fun g i wx => ∃ (m : Nat) (tos' : List Bool), m + g = s.size ∧ j ≤ m ∧ i = .int .i64 m ∧ Hid (PassAt wo (⟨3, text, neg, ⟨ra, rc, rxs⟩, ⟨wa, wcap, wxs⟩⟩ : PartOf (P n)) wo.heap.size cur tos' wx) ∧ Hid (StarTo tos j m tos') ∧ Hid (∀ p, j ≤ p → p < m → s.data.toList[p]? ≠ some 47))
                  case atStart => exact ⟨j, tos, by omega, by omega, rfl, HPA, Lib.hid (StarTo.start _ _), Lib.hid (fun p h1 h2 => absurd h2 (by omega))⟩
                  case round =>
                    have HTl : Hid (tos.length = N) := Lib.hid (by rw [HPA.out.2.2.2, HCl.out])
                    clear HPA
                    obtain ⟨m, tos', hm, hjm, rfl, HPA, HSt, HNo⟩ := hrel
                    obtain ⟨x, htx⟩ : ∃ x, tos'[m]? = some x := ⟨_, List.getElem?_eq_getElem (by rw [HPA.out.2.2.2, HCl.out]; omega)⟩
                    obtain ⟨f1, f2⟩ := HPA.out.2.1.cell htx
                    have HPA2 := Lib.hid (PassAt.set HPA.out m true)
                    have HSt2 := Lib.hid (HSt.out.step hjm (by rw [HTl.out]; omega))
                    have hmN : m < N := by omega
                    clear htx HPA HSt
                    go_upto_region 22 with fail
                    generalize World.setCell wr _ _ = w5 at *
                    clear f1 f2
                    obtain ⟨p0, p1, p2, p3, p4, p5⟩ := HPA2.out.1.part (p := (⟨3, text, neg, ⟨ra, rc, rxs⟩, ⟨wa, wcap, wxs⟩⟩ : PartOf (P n)))
                    simp only [] at p1
                    clear p2 p3 p4 p5
                    by_cases hms : m = s.size
                    · have em : ((m : Int) == (s.size : Int)) = true := by simp [hms]
                      have em2 : (m == s.size) = true := by simp [hms]
                      have HM2 : Hid (Marks R cur (j + 1) (tos'.set m true)) := Lib.hid (HM.out.star HB.out HSt2.out (fun y => (HR.out y).trans ⟨fun h => ⟨h.1, by
                        have := h.2.1
                        rw [← Lib.size_eq] at this
                        omega⟩, fun h => ⟨h.1, by rw [← Lib.size_eq]; omega, fun p h1 h2 => HNo.out p h1 (by omega)⟩⟩))
                      clear hms
                      go_wp2_with fail
                      go_roundg g2
                      case measure => omega
                      case rel => exact ⟨j + 1, _, by omega, by go_num, HPA2, HM2⟩
                    · have em : ((m : Int) == (s.size : Int)) = false := by
                        simp only [beq_eq_false_iff_ne, ne_eq]
                        omega
                      have em2 : (m == s.size) = false := by simp [hms]
                      have hml : m < s.size := by omega
                      obtain ⟨g3, rfl⟩ : ∃ g3, gk = g3 + 1 := ⟨gk - 1, by omega⟩
                      obtain ⟨ch, hch⟩ : ∃ ch : UInt8, s[m]'hml = ch := ⟨_, rfl⟩
                      have HCh : Hid (s.data.toList[m]? = some ch) := Lib.hid (by rw [← hch]; exact Lib.data_getElem? s m hml)
                      by_cases h47 : ch = 47
                      · have e47 : ((ch.toNat : Int) == 47) = true := by rw [h47]; rfl
                        have HM2 : Hid (Marks R cur (j + 1) (tos'.set m true)) := Lib.hid (HM.out.star HB.out HSt2.out (fun y => (HR.out y).trans ⟨fun h => ⟨h.1, by
                          have h3 := h.2.2
                          by_cases e : y ≤ m
                          · omega
                          · exact absurd (by rw [HCh.out, h47]) (h3 m hjm (by omega))⟩, fun h => ⟨h.1, by rw [← Lib.size_eq]; omega, fun p h1 h2 => HNo.out p h1 (by omega)⟩⟩))
                        clear hms h47
                        go_wp2_with fail
                        go_roundg g2
                        case measure => omega
                        case rel => exact ⟨j + 1, _, by omega, by go_num, HPA2, HM2⟩
                      · have e47 : ((ch.toNat : Int) == 47) = false := by
                          have : ch.toNat ≠ 47 := fun e => h47 (UInt8.toNat_inj.1 (by simpa using e))
                          simp only [beq_eq_false_iff_ne, ne_eq]
                          omega
                        have HNo2 : Hid (∀ p, j ≤ p → p < m + 1 → s.data.toList[p]? ≠ some 47) := Lib.hid (fun p h1 h2 => by
                          by_cases e : p = m
                          · subst e
                            rw [HCh.out]
                            exact fun h => h47 (by simpa using h)
                          · exact HNo.out p h1 (by omega))
                        clear hms h47
                        go_wp2_with fail
                        go_roundg g3
                        case measure => omega
                        case rel => exact ⟨m + 1, _, by omega, by omega, by go_num, HPA2, HSt2, HNo2⟩

              · obtain rfl : j = N := by omega
                have HLd : Hid (Leads R cur tos) := Lib.hid (Marks.done (by rw [HCl.out]; exact HM.out))
                obtain ⟨e1, e2, e3⟩ := HEnd.out tos wr HPA.out HLd.out
                clear HM HLd p2 p3 p4 p5
                go_wp2_with fail
                go_roundg g
                case measure => omega
                case rel => exact ⟨k + 1, some ⟨wo.heap.size + 1, 0, none⟩, _, tos, by omega, by go_num, rfl, e1, e2, e3⟩
        · as_aux_lemma =>
            have HPR : Hid (∀ i j, PR s.data.toList n (⟨4, text, neg, ⟨ra, rc, rxs⟩, ⟨wa, wcap, wxs⟩⟩ : PartOf (P n)) i j ↔ (i ≤ j ∧ j ≤ s.data.toList.length ∧ True)) := Lib.hid (fun i j => by
              unfold PR PRel
              dsimp only
              rw [if_neg (by decide), if_neg (by decide), if_pos (.inr rfl)]
              exact ⟨fun h => ⟨h.1, h.2.1, trivial⟩, fun h => ⟨h.1, h.2.1, fun h4 => absurd h4 (by decide)⟩⟩)
            generalize PR s.data.toList n (⟨4, text, neg, ⟨ra, rc, rxs⟩, ⟨wa, wcap, wxs⟩⟩ : PartOf (P n)) = R at *
            go_upto_region 5 with fail
            generalize (wr.alloc _).alloc _ = w2 at *
            obtain ⟨wo, rfl⟩ : ∃ wo : World, wo = wr := ⟨_, rfl⟩
            clear r0 r1 r2 r3 r4
            go_wp2_with fail
            go_loopg [29] N (fun g i wx => ∃ (j : Nat) (tos : List Bool), j + g = N ∧ i = .int .i64 j ∧ Hid (PassAt wo (⟨4, text, neg, ⟨ra, rc, rxs⟩, ⟨wa, wcap, wxs⟩⟩ : PartOf (P n)) wo.heap.size cur tos wx) ∧ Hid (Marks R cur j tos))
            case atStart => exact ⟨0, _, by omega, rfl, HPA, Lib.hid (by rw [← HCl.out]; exact Marks.start _ _)⟩
            case round =>
              clear HPA hmk hNi
              obtain ⟨j, tos, hj, rfl, HPA, HM⟩ := hrel
              obtain ⟨p0, p1, p2, p3, p4, p5⟩ := HPA.out.1.part (p := (⟨4, text, neg, ⟨ra, rc, rxs⟩, ⟨wa, wcap, wxs⟩⟩ : PartOf (P n)))
              simp only [] at p1 p2 p3 p4 p5
              by_cases hlt2 : j < N
              · obtain ⟨g2, rfl⟩ : ∃ g2, gk = g2 + 1 := ⟨gk - 1, by omega⟩
                obtain ⟨b, hb⟩ : ∃ b, cur[j]? = some b := ⟨_, List.getElem?_eq_getElem (by rw [HCl.out]; exact hlt2)⟩
                obtain ⟨bf, of, ha, hbf, hca⟩ := (HFw.out.under HPA.out.2.2.1).at (k := j) (u := .bool b) (by rw [List.getElem?_map, hb]; rfl)
                have HB := Lib.hid hb
                subst ha
                clear hb
                cases b
                · have HM2 : Hid (Marks R cur (j + 1) tos) := Lib.hid (HM.out.skip (fun h => by rw [HB.out] at h; cases h))
                  clear p1 p2 p3 p4 p5
                  go_wp2_with fail
                  go_roundg g2
                  case measure => omega
                  case rel => exact ⟨j + 1, tos, by omega, by go_num, HPA, HM2⟩
                · have HR := Lib.hid (HPR.out j)
                  obtain ⟨wm, rfl⟩ : ∃ wm : World, wm = wr := ⟨_, rfl⟩
                  clear p2 p3 p4 p5
                  go_wp2_with fail
                  clear p0 p1
                  go_loopg [12] (s.size - j) (fun g i wx => ∃ (m : Nat) (tos' : List Bool), m + g = s.size ∧ j ≤ m ∧ i = .int .i64 m ∧ Hid (PassAt wo (⟨4, text, neg, ⟨ra, rc, rxs⟩, ⟨wa, wcap, wxs⟩⟩ : PartOf (P n)) wo.heap.size cur tos' wx) ∧ Hid (StarTo tos j m tos') ∧ Hid (∀ p, j ≤ p → p < m → True))
                  case atStart => exact ⟨j, tos, by omega, by omega, rfl, HPA, Lib.hid (StarTo.start _ _), Lib.hid (fun p h1 h2 => absurd h2 (by omega))⟩
                  case round =>
                    have HTl : Hid (tos.length = N) := Lib.hid (by rw [HPA.out.2.2.2, HCl.out])
                    clear HPA
                    obtain ⟨m, tos', hm, hjm, rfl, HPA, HSt, HNo⟩ := hrel
                    obtain ⟨x, htx⟩ : ∃ x, tos'[m]? = some x := ⟨_, List.getElem?_eq_getElem (by rw [HPA.out.2.2.2, HCl.out]; omega)⟩
                    obtain ⟨f1, f2⟩ := HPA.out.2.1.cell htx
                    have HPA2 := Lib.hid (PassAt.set HPA.out m true)
                    have HSt2 := Lib.hid (HSt.out.step hjm (by rw [HTl.out]; omega))
                    have hmN : m < N := by omega
                    clear htx HPA HSt
                    go_upto_region 22 with fail
                    generalize World.setCell wr _ _ = w5 at *
                    clear f1 f2
                    obtain ⟨p0, p1, p2, p3, p4, p5⟩ := HPA2.out.1.part (p := (⟨4, text, neg, ⟨ra, rc, rxs⟩, ⟨wa, wcap, wxs⟩⟩ : PartOf (P n)))
                    simp only [] at p1
                    clear p2 p3 p4 p5
                    by_cases hms : m = s.size
                    · have em : ((m : Int) == (s.size : Int)) = true := by simp [hms]
                      have em2 : (m == s.size) = true := by simp [hms]
                      have HM2 : Hid (Marks R cur (j + 1) (tos'.set m true)) := Lib.hid (HM.out.star HB.out HSt2.out (fun y => (HR.out y).trans ⟨fun h => ⟨h.1, by
                        have := h.2.1
                        rw [← Lib.size_eq] at this
                        omega⟩, fun h => ⟨h.1, by rw [← Lib.size_eq]; omega, trivial⟩⟩))
                      clear hms
                      go_wp2_with fail
                      go_roundg g2
                      case measure => omega
                      case rel => exact ⟨j + 1, _, by omega, by go_num, HPA2, HM2⟩
                    · have em : ((m : Int) == (s.size : Int)) = false := by
                        simp only [beq_eq_false_iff_ne, ne_eq]
                        omega
                      have em2 : (m == s.size) = false := by simp [hms]
                      have hml : m < s.size := by omega
                      obtain ⟨g3, rfl⟩ : ∃ g3, gk = g3 + 1 := ⟨gk - 1, by omega⟩
                      clear hms
                      go_wp2_with fail
                      go_roundg g3
                      case measure => omega
                      case rel => exact ⟨m + 1, _, by omega, by omega, by go_num, HPA2, HSt2, Lib.hid (fun p h1 h2 => trivial)⟩

              · obtain rfl : j = N := by omega
                have HLd : Hid (Leads R cur tos) := Lib.hid (Marks.done (by rw [HCl.out]; exact HM.out))
                obtain ⟨e1, e2, e3⟩ := HEnd.out tos wr HPA.out HLd.out
                clear HM HLd p2 p3 p4 p5
                go_wp2_with fail
                go_roundg g
                case measure => omega
                case rel => exact ⟨k + 1, some ⟨wo.heap.size + 1, 0, none⟩, _, tos, by omega, by go_num, rfl, e1, e2, e3⟩
        · as_aux_lemma =>
            have HPR : Hid (∀ i j, PR s.data.toList n (⟨5, text, neg, ⟨ra, rc, rxs⟩, ⟨wa, wcap, wxs⟩⟩ : PartOf (P n)) i j ↔ (j = i + 1 ∧ ∃ c, s.data.toList[i]? = some c ∧ oneB (⟨5, text, neg, ⟨ra, rc, rxs⟩, ⟨wa, wcap, wxs⟩⟩ : PartOf (P n)) c = true)) := Lib.hid (fun i j => by
              unfold PR PRel
              dsimp only
              rw [if_neg (by decide), if_pos (.inr rfl)])
            generalize PR s.data.toList n (⟨5, text, neg, ⟨ra, rc, rxs⟩, ⟨wa, wcap, wxs⟩⟩ : PartOf (P n)) = R at *
            go_upto_region 5 with fail
            generalize (wr.alloc _).alloc _ = w2 at *
            obtain ⟨wo, rfl⟩ : ∃ wo : World, wo = wr := ⟨_, rfl⟩
            clear r0 r1 r2 r3 r4
            go_wp2_with fail
            go_loopg [29] N (fun g i wx => ∃ (j : Nat) (tos : List Bool), j + g = N ∧ i = .int .i64 j ∧ Hid (PassAt wo (⟨5, text, neg, ⟨ra, rc, rxs⟩, ⟨wa, wcap, wxs⟩⟩ : PartOf (P n)) wo.heap.size cur tos wx) ∧ Hid (Marks R cur j tos))
            case atStart => exact ⟨0, _, by omega, rfl, HPA, Lib.hid (by rw [← HCl.out]; exact Marks.start _ _)⟩
            case round =>
              clear HPA hmk hNi
              obtain ⟨j, tos, hj, rfl, HPA, HM⟩ := hrel
              obtain ⟨p0, p1, p2, p3, p4, p5⟩ := HPA.out.1.part (p := (⟨5, text, neg, ⟨ra, rc, rxs⟩, ⟨wa, wcap, wxs⟩⟩ : PartOf (P n)))
              simp only [] at p1 p2 p3 p4 p5
              by_cases hlt2 : j < N
              · obtain ⟨g2, rfl⟩ : ∃ g2, gk = g2 + 1 := ⟨gk - 1, by omega⟩
                obtain ⟨b, hb⟩ : ∃ b, cur[j]? = some b := ⟨_, List.getElem?_eq_getElem (by rw [HCl.out]; exact hlt2)⟩
                obtain ⟨bf, of, ha, hbf, hca⟩ := (HFw.out.under HPA.out.2.2.1).at (k := j) (u := .bool b) (by rw [List.getElem?_map, hb]; rfl)
                have HB := Lib.hid hb
                subst ha
                clear hb
                cases b
                · have HM2 : Hid (Marks R cur (j + 1) tos) := Lib.hid (HM.out.skip (fun h => by rw [HB.out] at h; cases h))
                  clear p1 p2 p3 p4 p5
                  go_wp2_with fail
                  go_roundg g2
                  case measure => omega
                  case rel => exact ⟨j + 1, tos, by omega, by go_num, HPA, HM2⟩
                · have HR := Lib.hid (HPR.out j)
                  go_upto_region 15 with fail
                  by_cases hjs : j < s.size
                  case neg =>
                    have HM2 : Hid (Marks R cur (j + 1) tos) := Lib.hid (HM.out.skip (fun _ m h => by
                      obtain ⟨_, ch, h1, _⟩ := (HR.out m).1 h
                      have := (List.getElem?_eq_some_iff.1 h1).1
                      rw [← Lib.size_eq] at this
                      omega))
                    have hjd : decide (j < s.size) = false := decide_eq_false hjs
                    clear hjs
                    go_quiet (fail)
                    go_wp2_with fail
                    go_roundg g2
                    case measure => omega
                    case rel => exact ⟨j + 1, tos, by omega, by go_num, Lib.hid (HPA.out.drewN _), HM2⟩
                  obtain ⟨ch, hch⟩ : ∃ ch : UInt8, s[j]'hjs = ch := ⟨_, rfl⟩
                  have HCh : Hid (s.data.toList[j]? = some ch) := Lib.hid (by rw [← hch]; exact Lib.data_getElem? s j hjs)
                  have hjd : decide (j < s.size) = true := decide_eq_true hjs
                  have hj0 : (0 : Int) ≤ (j : Int) := by omega
                  have hj1 : (j : Int) < (s.size : Int) := by omega
                  by_cases h47 : ch = 47
                  · have e47 : ((ch.toNat : Int) != 47) = false := by rw [h47]; rfl
                    have HM2 : Hid (Marks R cur (j + 1) tos) := Lib.hid (HM.out.skip (fun _ m h => by
                      obtain ⟨_, ch', h1, h2⟩ := (HR.out m).1 h
                      rw [HCh.out] at h1
                      cases h1
                      rw [h47] at h2
                      cases h2))
                    clear h47
                    go_quiet (fail)
                    go_wp2_with fail
                    go_roundg g2
                    case measure => omega
                    case rel => exact ⟨j + 1, tos, by omega, by go_num, Lib.hid (HPA.out.drewN _), HM2⟩
                  have e47 : ((ch.toNat : Int) != 47) = true := by
                    have : ch.toNat ≠ 47 := fun e => h47 (UInt8.toNat_inj.1 (by simpa using e))
                    simp only [bne_iff_ne, ne_eq]
                    omega
                  have HC47 : Hid ((ch != 47) = true) := Lib.hid (by simpa using h47)
                  obtain ⟨x, htx⟩ : ∃ x, tos[j + 1]? = some x := ⟨_, List.getElem?_eq_getElem (by rw [HPA.out.2.2.2, HCl.out]; omega)⟩
                  have HX := Lib.hid htx
                  have hjN : j + 1 < N := by omega
                  have hcb : ch.toNat < 256 := ch.toNat_lt
                  clear h47 htx

                  have HC : Hid (Calls Tryd.prog 81 #[.agg #[.int .i64 5, .string text, .bool neg, .slice ra rxs.length rc, .slice wa wxs.length wcap], .int .i64 (IntKind.i64.wrap ch.toNat)] wr.drew fun e w' => e = .returned (.bool (inRg rxs (ch.toNat : Int) != neg)) ∧ Below wr.drew.heap.size wr.drew w') := Lib.hid (by
                    rw [show IntKind.i64.wrap (ch.toNat : Int) = ch.toNat by rw [IntKind.wrap_i64]; omega]
                    exact inSet_any (⟨5, text, neg, ⟨ra, rc, rxs⟩, ⟨wa, wcap, wxs⟩⟩ : PartOf (P n)) (ch.toNat : Int) wr.drew (HPo2.out.1.under (bTrans hb0 (show Below wo.heap.size wo wr.drew from ⟨HPA.out.2.2.1.os, HPA.out.2.2.1.tape, HPA.out.2.2.1.output, HPA.out.2.2.1.size, HPA.out.2.2.1.block⟩))) hrl)
                  have HOb : Hid (oneB (⟨5, text, neg, ⟨ra, rc, rxs⟩, ⟨wa, wcap, wxs⟩⟩ : PartOf (P n)) ch = (inRg rxs ch.toNat != neg)) := Lib.hid (by
                    unfold oneB
                    rw [HC47.out]
                    rfl)
                  generalize (inRg rxs (ch.toNat : Int) != neg) = B at *
                  go_cut [78] (fun s78 wx => s78 = .bool B ∧ Below wr.heap.size wr wx)
                  case first =>
                    go_region_held3 (fun w' => w'.cell? ⟨wo.heap.size, 0, none⟩ = some (.int .i64 5) ∧ w'.cell? ⟨wo.heap.size, 1, none⟩ = some (.string text) ∧ w'.cell? ⟨wo.heap.size, 2, none⟩ = some (.bool neg) ∧ w'.cell? ⟨wo.heap.size, 3, none⟩ = some (.slice ra rxs.length rc) ∧ w'.cell? ⟨wo.heap.size, 4, none⟩ = some (.slice wa wxs.length wcap))
                      (first | go_keep | exact ⟨(hb3.cell (p := ⟨wo.heap.size, 0, none⟩) p0).trans p1, (hb3.cell (p := ⟨wo.heap.size, 1, none⟩) p0).trans p2, (hb3.cell (p := ⟨wo.heap.size, 2, none⟩) p0).trans p3, (hb3.cell (p := ⟨wo.heap.size, 3, none⟩) p0).trans p4, (hb3.cell (p := ⟨wo.heap.size, 4, none⟩) p0).trans p5⟩)
                      ((go_at_call 81; refine HC.out.mono ?_; rintro e w3 ⟨rfl, hb3⟩))
                    all_goals
                      go_wp2_with fail
                      go_meet
                      exact ⟨rfl, ⟨hb3.os, hb3.tape, hb3.output, hb3.size, hb3.block⟩⟩
                  case rest =>
                  obtain ⟨rfl, hbc⟩ := hcut
                  have HPA2 := Lib.hid (HPA.out.under hbc)
                  obtain ⟨f1, f2⟩ := HPA2.out.2.1.cell HX.out
                  clear p0 p1 p2 p3 p4 p5 HC HPA hca
                  cases B
                  · have HM2 : Hid (Marks R cur (j + 1) tos) := Lib.hid (HM.out.skip (fun _ m h => by
                      obtain ⟨_, ch', h1, h2⟩ := (HR.out m).1 h
                      rw [HCh.out] at h1
                      cases h1
                      rw [HOb.out] at h2
                      cases h2))
                    clear f1 f2
                    go_wp2_with fail
                    go_roundg g2
                    case measure => omega
                    case rel => exact ⟨j + 1, tos, by omega, by go_num, HPA2, HM2⟩
                  · have HM2 : Hid (Marks R cur (j + 1) (tos.set (j + 1) true)) := Lib.hid (HM.out.set HB.out (by rw [HCl.out]; exact hjN) (fun m => (HR.out m).trans ⟨fun h => h.1, fun h => ⟨h, ch, HCh.out, HOb.out⟩⟩))
                    go_wp2_with fail
                    go_roundg g2
                    case measure => omega
                    case rel => exact ⟨j + 1, tos.set (j + 1) true, by omega, by go_num, Lib.hid (PassAt.set HPA2.out (j + 1) true), HM2⟩

              · obtain rfl : j = N := by omega
                have HLd : Hid (Leads R cur tos) := Lib.hid (Marks.done (by rw [HCl.out]; exact HM.out))
                obtain ⟨e1, e2, e3⟩ := HEnd.out tos wr HPA.out HLd.out
                clear HM HLd p2 p3 p4 p5
                go_wp2_with fail
                go_roundg g
                case measure => omega
                case rel => exact ⟨k + 1, some ⟨wo.heap.size + 1, 0, none⟩, _, tos, by omega, by go_num, rfl, e1, e2, e3⟩
        · as_aux_lemma =>
            have HPRa : Hid (∀ i j, (∃ t ∈ wxs, Rel s.data.toList n t.xs i j) → PR s.data.toList n (⟨6, text, neg, ⟨ra, rc, rxs⟩, ⟨wa, wcap, wxs⟩⟩ : PartOf (P n)) i j) := Lib.hid (fun i j h => by
              unfold PR PRel
              dsimp only
              rw [if_neg (by decide), if_neg (by decide), if_neg (by decide), if_pos rfl]
              exact h)
            have HPRb : Hid (∀ i j, PR s.data.toList n (⟨6, text, neg, ⟨ra, rc, rxs⟩, ⟨wa, wcap, wxs⟩⟩ : PartOf (P n)) i j → (∃ t ∈ wxs, Rel s.data.toList n t.xs i j)) := Lib.hid (fun i j h => by
              unfold PR PRel at h
              dsimp only at h
              rw [if_neg (by decide), if_neg (by decide), if_neg (by decide), if_pos rfl] at h
              exact h)
            generalize PR s.data.toList n (⟨6, text, neg, ⟨ra, rc, rxs⟩, ⟨wa, wcap, wxs⟩⟩ : PartOf (P n)) = R at *
            go_upto_region 5 with fail
            generalize (wr.alloc _).alloc _ = w2 at *
            obtain ⟨wo, rfl⟩ : ∃ wo : World, wo = wr := ⟨_, rfl⟩
            clear r0 r1 r2 r3 r4
            go_wp2_with fail
            go_loopg [29] N (fun g i wx => ∃ j : Nat, j + g = N ∧ i = .int .i64 j ∧ w2 = wx)
            case atStart => exact ⟨0, by omega, rfl, rfl⟩
            case round =>
              obtain ⟨j, hj, rfl, rfl⟩ := hrel
              obtain ⟨p0, p1, p2, p3, p4, p5⟩ := HPA.out.1.part (p := (⟨6, text, neg, ⟨ra, rc, rxs⟩, ⟨wa, wcap, wxs⟩⟩ : PartOf (P n)))
              simp only [] at p1 p5
              clear p2 p3 p4
              by_cases hlt2 : j < N
              · obtain ⟨g2, rfl⟩ : ∃ g2, gk = g2 + 1 := ⟨gk - 1, by omega⟩
                obtain ⟨b, hb⟩ : ∃ b, cur[j]? = some b := ⟨_, List.getElem?_eq_getElem (by rw [HCl.out]; exact hlt2)⟩
                obtain ⟨bf, of, ha, hbf, hca⟩ := (HFw.out.under HPA.out.2.2.1).at (k := j) (u := .bool b) (by rw [List.getElem?_map, hb]; rfl)
                subst ha
                clear hb
                cases b
                all_goals
                  go_wp2_with fail
                  go_roundg g2
                  case measure => omega
                  case rel => exact ⟨j + 1, by omega, by go_num, rfl⟩
              · obtain rfl : j = N := by omega
                clear hmk hNi
                have HM0 : Hid (WMarks s.data.toList n wxs cur 0 (List.replicate j false)) := Lib.hid (by
                  rw [← HCl.out]
                  exact WMarks.start _ _ _ _)
                go_wp2_with fail
                clear p0 p1 p5
                go_loopg [114] wxs.length (fun g i wx => ∃ (m : Nat) (tos : List Bool), m + g = wxs.length ∧ i = .int .i64 m ∧ Hid (PassAt wo (⟨6, text, neg, ⟨ra, rc, rxs⟩, ⟨wa, wcap, wxs⟩⟩ : PartOf (P n)) wo.heap.size cur tos wx) ∧ Hid (WMarks s.data.toList n wxs cur m tos))
                case atStart => exact ⟨0, _, by omega, rfl, HPA, HM0⟩
                case round =>
                  clear HPA HM0
                  obtain ⟨m, tos, hm, rfl, HPA, HM⟩ := hrel
                  by_cases hlt3 : m < wxs.length
                  · obtain ⟨g3, rfl⟩ : ∃ g3, gk = g3 + 1 := ⟨gk - 1, by omega⟩
                    obtain ⟨t, hx⟩ : ∃ t : Sl (P n), wxs[m]? = some t := ⟨_, List.getElem?_eq_getElem hlt3⟩
                    obtain ⟨bw, ow, ha, hbw, r0⟩ := wayRow (HPo2.out.2.1.under (bTrans hb0 HPA.out.2.2.1)) hx
                    have hmem := List.mem_of_getElem? hx
                    obtain ⟨ht1, ht2, ht3⟩ := HPo2.out.2.2 t hmem
                    have HCn := Lib.hid (clone_any cur a' c' j wr HCl.out (by omega) (by omega) (HFw.out.under HPA.out.2.2.1))
                    have HX := Lib.hid hx
                    have HT1 := Lib.hid ht1
                    simp only [] at ha
                    subst ha
                    clear hx hmem ht1
                    obtain ⟨wm, rfl⟩ : ∃ wm : World, wm = wr := ⟨_, rfl⟩
                    go_wp2_with fail
                    refine HCn.out.mono ?_
                    rintro e w5 ⟨gc, cc, rfl, hgc, hHc, hb5⟩
                    have HC := Lib.hid (HIH.out t cur (some ⟨gc, 0, none⟩) cc w5 (HT1.out.under (bTrans (bTrans hb0 HPA.out.2.2.1) hb5)) ht2 ht3 HCl.out hHc)
                    have HHc := Lib.hid hHc
                    clear hHc ht2 ht3 HCn
                    go_wp2_with fail
                    refine HC.out.mono ?_
                    rintro e w6 ⟨a6, c6, ps, rfl, hpl, hsrc, hL, hb6⟩
                    have HLd := Lib.hid hL
                    have hrow := HPA.out.2.1.lt
                    have HSrc : Hid (Holds w6 a6 (ps.map Value.bool) ∧ ∀ ad, a6 = some ad → ad.block ≠ wo.heap.size + 1) := Lib.hid ⟨hsrc.holds HHc.out hb6, by
                      rcases hsrc with ⟨h1, _, _⟩ | ⟨g6, h1, _, h2, _⟩
                      · rintro ad had
                        rw [h1] at had
                        injection had with had
                        subst had
                        show gc ≠ _
                        omega
                      · rintro ad had
                        rw [h1] at had
                        injection had with had
                        subst had
                        show g6 ≠ _
                        have := hb5.size
                        omega⟩
                    have HPA5 := Lib.hid (HPA.out.under (bTrans hb5 hb6))
                    have HPL := Lib.hid hpl
                    clear r0 HC hL hsrc HPA hpl hb5 hb6 hgc HHc hrow
                    go_wp2_with fail
                    go_loopg [124] j (fun g i wx => ∃ (k2 : Nat) (tos' : List Bool), k2 + g = j ∧ i = .int .i64 k2 ∧ Hid (PassAt wo (⟨6, text, neg, ⟨ra, rc, rxs⟩, ⟨some ⟨bw, ow, none⟩, wcap, wxs⟩⟩ : PartOf (P n)) wo.heap.size cur tos' wx) ∧ Hid (OrTo tos ps k2 tos') ∧ Hid (Holds wx a6 (ps.map Value.bool) ∧ ∀ ad, a6 = some ad → ad.block ≠ wo.heap.size + 1))
                    case atStart => exact ⟨0, tos, by omega, rfl, HPA5, Lib.hid (OrTo.start _ _), HSrc⟩
                    case round =>
                      clear HPA5 HSrc
                      obtain ⟨k2, tos', hk2, rfl, HPA, HO, HSrc⟩ := hrel
                      by_cases hlt4 : k2 < j
                      · obtain ⟨g4, rfl⟩ : ∃ g4, gk = g4 + 1 := ⟨gk - 1, by omega⟩
                        obtain ⟨b, hb⟩ : ∃ b, ps[k2]? = some b := ⟨_, List.getElem?_eq_getElem (by rw [HPL.out]; exact hlt4)⟩
                        obtain ⟨x, htx⟩ : ∃ x, tos'[k2]? = some x := ⟨_, List.getElem?_eq_getElem (by rw [HPA.out.2.2.2, HCl.out]; exact hlt4)⟩
                        obtain ⟨f1, f2⟩ := HPA.out.2.1.cell htx
                        obtain ⟨bf, of, ha, hbf, hca⟩ := HSrc.out.1.at (k := k2) (u := .bool b) (by rw [List.getElem?_map, hb]; rfl)
                        have HO2 := Lib.hid (HO.out.step htx hb)
                        have HPA2 := Lib.hid (PassAt.set HPA.out k2 (x || b))
                        have HSrc2 := Lib.hid (And.intro (HSrc.out.1.setNot HSrc.out.2 k2 (.bool (x || b))) HSrc.out.2)
                        subst ha
                        clear hb htx HO HSrc
                        cases x
                        all_goals
                          go_wp2_with fail
                          go_roundg g4
                          case measure => omega
                          case rel => exact ⟨k2 + 1, _, by omega, by go_num, HPA2, HO2, HSrc2⟩
                      · obtain rfl : k2 = j := by omega
                        have HM2 : Hid (WMarks s.data.toList n wxs cur (m + 1) tos') := Lib.hid (WMarks.step HM.out HX.out HLd.out HPA.out.2.2.2 (fun y => (HO.out.2 y).trans ⟨fun h => h.imp id (fun h => h.2), fun h => h.imp id (fun h => ⟨by
                          have := (List.getElem?_eq_some_iff.1 h).1
                          rw [HPL.out] at this
                          exact this, h⟩)⟩))
                        clear HM HO
                        go_wp2_with fail
                        go_roundg g3
                        case measure => omega
                        case rel => exact ⟨m + 1, tos', by omega, by go_num, HPA, HM2⟩
                  · obtain rfl : m = wxs.length := by omega
                    have HLd : Hid (Leads R cur tos) := Lib.hid (by
                      refine ⟨HM.out.1, fun j => (HM.out.2 j).trans ?_⟩
                      rw [List.take_of_length_le (Nat.le_refl _)]
                      exact ⟨fun ⟨t, h1, i, h2, h3⟩ => ⟨i, h2, HPRa.out i j ⟨t, h1, h3⟩⟩, fun ⟨i, h2, h3⟩ => by
                        obtain ⟨t, h4, h5⟩ := HPRb.out i j h3
                        exact ⟨t, h4, i, h2, h5⟩⟩)
                    obtain ⟨e1, e2, e3⟩ := HEnd.out tos wr HPA.out HLd.out
                    clear HM HLd
                    go_wp2_with fail
                    go_roundg g
                    case measure => omega
                    case rel => exact ⟨k + 1, some ⟨wo.heap.size + 1, 0, none⟩, _, tos, by omega, by go_num, rfl, e1, e2, e3⟩
      · obtain rfl : k = xs.length := by omega
        rw [List.take_of_length_le (Nat.le_refl _)] at HL
        have hcl : cur.length = N := by rw [HL.out.1, HN.out]
        have HCl := Lib.hid hcl
        clear hmk hNi hcl
        go_wp2_with fail
        go_ret
        exact ⟨a', c', cur, rfl, HCl.out, HSrc.out, HL.out, hb⟩
end Go.Proofs.YtnpcbcnclncniaaDoor
