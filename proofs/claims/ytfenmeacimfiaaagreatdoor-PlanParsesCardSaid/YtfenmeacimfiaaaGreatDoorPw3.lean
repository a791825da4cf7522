/-
  The words of a plan's line: path.
-/
import Derived.Test.YtfenmeacimfiaaaGreatDoorPw2
import Derived.Test.YtfenmeacimfiaaaGreatDoorPl2
namespace Go.Proofs.YtfenmeacimfiaaaGreatDoor
open Go.RowKit

theorem special_is (c : UInt8) (w : World) : Calls Tryz.prog 143 #[.int .u8 c.toNat] w fun e w' => e = .returned (.bool (Wh.specB c)) ∧ w' = w := by
  have := special_any c w
  rwa [Wh.specialB_is] at this

/-- What path returns. -/
def PathPost (b : Nat) (rest : ByteArray) (bad : Bool) (w : World) (e : Ending) (w' : World) : Prop :=
  ∃ (out r : ByteArray) (bad' : Bool), e = .returned (.string out) ∧ WordsIs w' b r bad' ∧ Aside b w w' ∧ r.size ≤ rest.size ∧ out.size ≤ rest.size ∧
    (bad' = false → bad = false ∧ rest.data.toList = Wh.quotedL out.data.toList ++ r.data.toList) ∧ (bad = false → ∀ u q, rest.data.toList = Wh.quotedL u ++ q → bad' = false)

theorem byteBox (c : UInt8) : (c.toNat : Int) < 256 := by have := c.toNat_lt; omega

set_option maxHeartbeats 8000000 in
set_option maxRecDepth 100000 in
theorem path_any (w0 : World) (b : Nat) (rest : ByteArray) (bad : Bool) (w : World) (hc : Ctx w0 b w) (h : WordsIs w b rest bad) (hs : rest.size ≤ 2000000) :
    Calls Tryz.prog 74 #[.pointer (some ⟨b, 0, none⟩)] w (PathPost b rest bad w) := by
  have HC := Lib.hid (cutPre_one rest 34 w)
  have c0 := h.cell (j := 0) rfl
  have H := Lib.hid h
  have HCt := Lib.hid hc
  have hbz := h.lt
  clear h hc
  go_enter Tryz.func74, Tryz.ntmps74
  go_upto_region 2 with (go_at_call 141; refine HC.out.mono ?_; rintro e w1 ⟨t, m, rfl, hw1, hts, hk⟩; subst w1; have HK := Lib.hid hk; clear hk)
  have HI := Lib.hid (Tryz.strings_IndexByte t 34 w)
  change Hid (Calls _ _ _ _ fun e w' => e = .returned (.int .i64 (Lib.indexByte t.data.toList 34)) ∧ w' = w) at HI
  have hge := Lib.indexByte_ge t.data.toList 34
  have HN := Lib.hid (@Lib.indexByte_none t.data.toList 34)
  have HS : Hid (∀ o : Nat, Lib.indexByte t.data.toList 34 = o → t.data.toList[o]? = some 34 ∧ ∀ (k : Nat), k < o → t.data.toList[k]? ≠ some 34) := Lib.hid (fun o h => Lib.indexByte_some h)
  generalize Lib.indexByte t.data.toList 34 = v at *
  have HF := Lib.hid (fun W hW => fail_any b rest bad W hW)
  by_cases hgood : m = true ∧ v ≠ -1
  case neg =>
    have HNo : Hid (∀ u q, rest.data.toList ≠ Wh.quotedL u ++ q) := Lib.hid (fun u q e => by
      rw [Wh.quotedL_app] at e
      rcases HK.out with ⟨hm, hk⟩ | ⟨_, _, hk⟩
      · rw [hk] at e
        injection e with _ e
        have hv : v = -1 := Classical.byContradiction fun hv => hgood ⟨hm, hv⟩
        exact HN.out hv (Wh.escL u).length (by rw [e]; simp)
      · exact hk _ e)
    have hlt : v < 0 ∨ m = false := by
      cases m with
      | false => exact .inr rfl
      | true => exact .inl (by have : v = -1 := Classical.byContradiction fun hv => hgood ⟨rfl, hv⟩; omega)
    clear hgood HN HS HK
    cases m
    · clear hlt hge
      go_wp2_with (first | (go_at_call 113; refine HI.out.mono ?_; rintro e w2 ⟨rfl, hw2⟩; subst w2) | (go_at_call 71; refine (HF.out _ H.out).mono ?_; rintro e w4 ⟨rfl, hw4, ha4⟩))
      go_ret
      exact ⟨_, rest, true, rfl, hw4, ha4, Nat.le_refl _, Nat.zero_le _, fun hh => (by cases hh), fun _ u q hq => absurd hq (HNo.out u q)⟩
    · have hv : v < 0 := by
        rcases hlt with h | h
        · exact h
        · cases h
      clear hlt hge
      go_wp2_with (first | (go_at_call 113; refine HI.out.mono ?_; rintro e w2 ⟨rfl, hw2⟩; subst w2) | (go_at_call 71; refine (HF.out _ H.out).mono ?_; rintro e w4 ⟨rfl, hw4, ha4⟩))
      go_ret
      exact ⟨_, rest, true, rfl, hw4, ha4, Nat.le_refl _, Nat.zero_le _, fun hh => (by cases hh), fun _ u q hq => absurd hq (HNo.out u q)⟩
  case pos =>
    obtain ⟨hm, hv⟩ := hgood
    subst hm
    obtain ⟨E, rfl⟩ : ∃ E : Nat, v = E := ⟨v.toNat, by omega⟩
    obtain ⟨h1, h2⟩ := HS.out E rfl
    have hEl : E < t.size := by
      have := (List.getElem?_eq_some_iff.1 h1).1
      rw [← Lib.size_eq] at this
      exact this
    have HQ : Hid (rest.data.toList = 34 :: t.data.toList) := Lib.hid (by
      rcases HK.out with ⟨_, hk⟩ | ⟨hm, _⟩
      · exact hk
      · cases hm)
    have H34 : Hid (t.data.toList[E]? = some 34 ∧ ∀ j, j < E → t.data.toList[j]? ≠ some 34) := Lib.hid ⟨h1, h2⟩
    have HRl : Hid ((t.extract (E + 1) t.size).data.toList = t.data.toList.drop (E + 1) ∧ (t.extract (E + 1) t.size).size ≤ rest.size) := Lib.hid ⟨Lib.extract_to_end t (E + 1), by
      have h3 := Lib.size_eq (t.extract (E + 1) t.size)
      rw [Lib.extract_to_end, List.length_drop, ← Lib.size_eq] at h3
      omega⟩
    clear h1 h2 hv hge HN HS HK HF
    have hk0 : (0 : Int) ≤ (E : Int) := by omega
    have hk1 : (E : Int) ≤ (t.size : Int) := by omega
    have hk2 : (0 : Int) ≤ (E : Int) + 1 := by omega
    have hk3 : (E : Int) + 1 ≤ (t.size : Int) := by omega
    have htn : ((E : Int) + 1).toNat = E + 1 := by omega
    have hf := Lib.frozen_of_heap H.out 0
    go_upto_region 8 with (go_at_call 113; refine HI.out.mono ?_; rintro e w2 ⟨rfl, hw2⟩; subst w2)
    have HW1 : Hid (WordsIs (w.setCell ⟨b, 0, none⟩ (.string (t.extract (E + 1) t.size))) b (t.extract (E + 1) t.size) bad ∧ Aside b w (w.setCell ⟨b, 0, none⟩ (.string (t.extract (E + 1) t.size)))) := Lib.hid ⟨BoxIs.set0 H.out _, (Aside.refl b w).set 0 _⟩
    generalize w.setCell ⟨b, 0, none⟩ _ = w1 at *
    generalize t.extract (E + 1) t.size = R at *
    have HPI := Lib.hid (Wh.PathInv.start t.data.toList E bad)
    clear c0 hf H HI hk2 hk3 htn
    go_wp2_with fail
    go_loopg [6, 7] E (fun g s6 s7 wx => ∃ (k : Nat) (out : List UInt8) (a : Option Addr) (cap : Nat) (bad1 : Bool), k + g = E ∧ s7 = .int .i64 k ∧ s6 = .slice a out.length cap ∧ out.length ≤ k ∧ Hid (OwnN w.heap.size wx a cap out) ∧ Hid (WordsIs wx b R bad1) ∧ Hid (Aside b w wx) ∧ Hid (Wh.PathInv t.data.toList E k out bad bad1))
    case atStart => exact ⟨0, [], none, 0, bad, by omega, rfl, rfl, by decide, Lib.hid (OwnN.nil _ _), Lib.hid HW1.out.1, Lib.hid HW1.out.2, HPI⟩
    case round =>
      clear HW1 HPI
      obtain ⟨k, out, a, cap, bad1, hk, rfl, rfl, hol, HO, HWd, HAs, HPI⟩ := hrel
      have hzr := HAs.out.size
      by_cases hlt : k < E
      · have hklt : k < t.size := by omega
        obtain ⟨ch, hch⟩ : ∃ ch : UInt8, t[k]'hklt = ch := ⟨_, rfl⟩
        have Hcl : Hid (t.data.toList[k]? = some ch) := Lib.hid (by rw [← hch]; exact Lib.data_getElem? t k hklt)
        have HF := Lib.hid (fun W bd hW => fail_any b R bd W hW)
        obtain ⟨_, x2⟩ := byte_facts ch
        by_cases h92 : ch = 92
        · subst h92
          have HP8 := Lib.hid (parseU8_any (t.extract (k + 1) (min (k + 4) E)) wr (HCt.out.envX.under (HCt.out.aside HAs.out).below) (by
            have h3 := Lib.size_eq (t.extract (k + 1) (min (k + 4) E))
            simp only [ByteArray.data_extract, Array.toList_extract, List.extract_eq_take_drop] at h3
            rw [List.length_take, List.length_drop] at h3
            omega))
          have HT3 : Hid ((t.extract (k + 1) (min (k + 4) E)).data.toList = Wh.three t.data.toList E k) := Lib.hid (by
            unfold Wh.three
            simp only [ByteArray.data_extract, Array.toList_extract, List.extract_eq_take_drop]
            rw [List.drop_take])
          rw [HT3.out] at HP8
          have hm0 : (0 : Int) ≤ (k : Int) + 1 := by omega
          have htn1 : ((k : Int) + 1).toNat = k + 1 := by omega
          by_cases h4 : k + 4 ≤ E
          · have hmn : min ((k : Int) + 4) (E : Int) = (k : Int) + 4 := by omega
            have hmm : min (k + 4) E = k + 4 := by omega
            have htn4 : ((k : Int) + 4).toNat = k + 4 := by omega
            have hm1 : (k : Int) + 1 ≤ (k : Int) + 4 := by omega
            have hm2 : (k : Int) + 4 ≤ (t.size : Int) := by omega
            have hm3 : ¬ (E : Int) < (k : Int) + 4 := by omega
            rw [hmm] at HP8
            clear HT3 hmm
            have hE := (Lib.size_eq t) ▸ (Nat.le_of_lt hEl)
            go_upto_region 14 with (go_at_call 142; refine HP8.out.mono ?_; rintro e w5 ⟨hp, hb5⟩; have HB5 := Lib.hid hb5; clear hb5; rcases hp with ⟨n, hn, rfl⟩ | ⟨hn, x, ad, rfl⟩)
            · have hle := Wh.octVal_le hn
              obtain ⟨c, hcn⟩ : ∃ c : UInt8, c.toNat = n := ⟨UInt8.ofNat n, by simp; omega⟩
              have hof : UInt8.ofNat n = c := by rw [← hcn]; simp
              have HSp := Lib.hid (fun W => special_is c W)
              have hb256 := byteBox c
              cases hsp : Wh.specB c
              · rw [hsp] at HSp
                have HBad := Lib.hid (HPI.out.odd hlt hE Hcl.out (.inr (.inr ⟨n, hn, by rw [hof]; exact hsp⟩)))
                subst hcn
                clear hn hof hsp hle hE
                go_wp2_with (first | (go_at_call 143; refine (HSp.out _).mono ?_; rintro e w' ⟨rfl, hw'⟩; subst w') | (go_at_call 71; refine (HF.out _ _ (HWd.out.under HB5.out)).mono ?_; rintro e w6 ⟨rfl, hw6, ha6⟩))
                go_ret
                refine ⟨_, R, true, rfl, hw6, HAs.out.trans ((Aside.of HB5.out).trans ha6), HRl.out.2, Nat.zero_le _, fun hh => (by cases hh), fun hb u q hq => ?_⟩
                rw [Wh.quotedL_app, HQ.out] at hq
                injection hq with _ hq
                exact absurd (Wh.quoted_split H34.out.1 H34.out.2 hq).1 (HBad.out hb u)
              · rw [hsp] at HSp
                have HNx := Lib.hid (HPI.out.oct hE Hcl.out h4 hn (by rw [hof]; exact hsp))
                rw [hof] at HNx
                subst hcn
                clear hn hof hsp hle hE
                have hz5 : w.heap.size ≤ w5.heap.size := Nat.le_trans hzr HB5.out.size
                go_wp2_with (first | (go_at_call 143; refine (HSp.out _).mono ?_; rintro e w' ⟨rfl, hw'⟩; subst w') | (at_builtin; refine wp_app1N hz5 (HO.out.under HB5.out) c (by omega) rfl (.tmp 82) (.tmp 84) rfl rfl rfl ?_))
                intro a2 cap2 w6 hO6 hb6
                have HO6 := Lib.hid hO6
                have HW6 : Hid (WordsIs w6 b R bad1) := Lib.hid ((hb6.block b hbz).trans (HWd.out.under HB5.out))
                have HA6 : Hid (Aside b w w6) := Lib.hid ⟨hb6.os.trans (HAs.out.trans (Aside.of HB5.out)).os, hb6.tape.trans (HAs.out.trans (Aside.of HB5.out)).tape, hb6.output.trans (HAs.out.trans (Aside.of HB5.out)).output, Nat.le_trans hz5 hb6.size, fun i hi hne => (hb6.block i hi).trans ((HAs.out.trans (Aside.of HB5.out)).block i hi hne)⟩
                clear hO6 hb6
                go_wp2_with fail
                go_roundg (E - (k + 4))
                case measure => omega
                case rel => exact ⟨k + 4, out ++ [c], a2, cap2, bad1, by omega, by go_num, by simp, by simp; omega, HO6, HW6, HA6, HNx⟩
            · have HBad := Lib.hid (HPI.out.odd hlt hE Hcl.out (.inr (.inl hn)))
              clear hn hE
              go_wp2_with (go_at_call 71; refine (HF.out _ _ (HWd.out.under HB5.out)).mono ?_; rintro e w6 ⟨rfl, hw6, ha6⟩)
              go_ret
              refine ⟨_, R, true, rfl, hw6, HAs.out.trans ((Aside.of HB5.out).trans ha6), HRl.out.2, Nat.zero_le _, fun hh => (by cases hh), fun hb u q hq => ?_⟩
              rw [Wh.quotedL_app, HQ.out] at hq
              injection hq with _ hq
              exact absurd (Wh.quoted_split H34.out.1 H34.out.2 hq).1 (HBad.out hb u)
          · have hmn : min ((k : Int) + 4) (E : Int) = (E : Int) := by omega
            have hmm : min (k + 4) E = E := by omega
            have hm1 : (k : Int) + 1 ≤ (E : Int) := by omega
            have hm3 : (E : Int) < (k : Int) + 4 := by omega
            rw [hmm] at HP8
            have HBad := Lib.hid (HPI.out.odd hlt (by rw [← Lib.size_eq]; omega) Hcl.out (.inl (by omega)))
            clear HT3 hmm
            go_upto_region 14 with (go_at_call 142; refine HP8.out.mono ?_; rintro e w5 ⟨hp, hb5⟩; have HB5 := Lib.hid hb5; clear hb5; rcases hp with ⟨n, hn, rfl⟩ | ⟨hn, x, ad, rfl⟩)
            all_goals
              clear hn
              go_wp2_with (go_at_call 71; refine (HF.out _ _ (HWd.out.under HB5.out)).mono ?_; rintro e w6 ⟨rfl, hw6, ha6⟩)
              go_ret
              refine ⟨_, R, true, rfl, hw6, HAs.out.trans ((Aside.of HB5.out).trans ha6), HRl.out.2, Nat.zero_le _, fun hh => (by cases hh), fun hb u q hq => ?_⟩
              rw [Wh.quotedL_app, HQ.out] at hq
              injection hq with _ hq
              exact absurd (Wh.quoted_split H34.out.1 H34.out.2 hq).1 (HBad.out hb u)
        · have x3 : ((ch.toNat : Int) == 92) = false := by
            rw [x2]
            simpa using h92
          have HNx := Lib.hid (HPI.out.plain hlt Hcl.out h92)
          have HSp := Lib.hid (fun W => special_is ch W)
          clear x2 h92
          cases hsp : Wh.specB ch
          · rw [hsp] at HSp HNx
            rw [Bool.or_false] at HNx
            clear hsp
            go_wp2_with (first | (go_at_call 143; refine (HSp.out _).mono ?_; rintro e w' ⟨rfl, hw'⟩; subst w') | (at_builtin; refine wp_app1N hzr HO.out ch (by omega) rfl (.tmp 82) (.tmp 84) rfl rfl rfl ?_))
            intro a2 cap2 w6 hO6 hb6
            have HO6 := Lib.hid hO6
            have HW6 : Hid (WordsIs w6 b R bad1) := Lib.hid ((hb6.block b hbz).trans HWd.out)
            have HA6 : Hid (Aside b w w6) := Lib.hid ⟨hb6.os.trans HAs.out.os, hb6.tape.trans HAs.out.tape, hb6.output.trans HAs.out.output, Nat.le_trans hzr hb6.size, fun i hi hne => (hb6.block i hi).trans (HAs.out.block i hi hne)⟩
            clear hO6 hb6
            go_wp2_with fail
            go_roundg (E - (k + 1))
            case measure => omega
            case rel => exact ⟨k + 1, out ++ [ch], a2, cap2, bad1, by omega, by go_num, by simp, by simp; omega, HO6, HW6, HA6, HNx⟩
          · rw [hsp] at HSp HNx
            rw [Bool.or_true] at HNx
            clear hsp
            go_upto_region 21 with (first | (go_at_call 143; refine (HSp.out _).mono ?_; rintro e w' ⟨rfl, hw'⟩; subst w') | (go_at_call 71; refine (HF.out _ _ HWd.out).mono ?_; rintro e w5 ⟨rfl, hw5, ha5⟩; have HW5 := Lib.hid hw5; have HA5 := Lib.hid ha5; clear hw5 ha5))
            have hz5 : w.heap.size ≤ w5.heap.size := Nat.le_trans hzr HA5.out.size
            have HO5 := Lib.hid (HO.out.aside HA5.out hbz)
            have HAA := Lib.hid (HAs.out.trans HA5.out)
            go_wp2_with (at_builtin; refine wp_app1N hz5 HO5.out ch (by omega) rfl (.tmp 82) (.tmp 84) rfl rfl rfl ?_)
            intro a2 cap2 w6 hO6 hb6
            have HO6 := Lib.hid hO6
            have HW6 : Hid (WordsIs w6 b R true) := Lib.hid ((hb6.block b hbz).trans HW5.out)
            have HA6 : Hid (Aside b w w6) := Lib.hid ⟨hb6.os.trans HAA.out.os, hb6.tape.trans HAA.out.tape, hb6.output.trans HAA.out.output, Nat.le_trans hz5 hb6.size, fun i hi hne => (hb6.block i hi).trans (HAA.out.block i hi hne)⟩
            clear hO6 hb6
            go_wp2_with fail
            go_roundg (E - (k + 1))
            case measure => omega
            case rel => exact ⟨k + 1, out ++ [ch], a2, cap2, true, by omega, by go_num, by simp, by simp; omega, HO6, HW6, HA6, HNx⟩
      · obtain rfl : k = E := by omega
        have hfin := HPI.out.finish
        have HFin := Lib.hid hfin
        have hcv := convN HO.out
        clear hfin
        go_wp2_with fail
        go_ret
        have ho : (⟨out.toArray⟩ : ByteArray).data.toList = out := by simp
        refine ⟨_, R, bad1, rfl, HWd.out, HAs.out, HRl.out.2, ?_, fun hb => ?_, fun hb u q hq => ?_⟩
        · rw [Lib.size_eq, ho]; omega
        · obtain ⟨h1, h2⟩ := HFin.out.1 hb
          refine ⟨h1, ?_⟩
          rw [HQ.out, ho, Wh.quotedL_app, h2, HRl.out.1, ← Wh.quoted_join H34.out.1]
        · rw [Wh.quotedL_app, HQ.out] at hq
          injection hq with _ hq
          exact HFin.out.2 hb u (Wh.quoted_split H34.out.1 H34.out.2 hq).1
end Go.Proofs.YtfenmeacimfiaaaGreatDoor
