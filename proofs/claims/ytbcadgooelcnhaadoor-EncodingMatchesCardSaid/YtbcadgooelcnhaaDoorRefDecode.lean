/-
  The reference's Decode, walked.
-/
import Derived.Test.YtbcadgooelcnhaaDoorDecName
import Derived.Test.YtbcadgooelcnhaaDoorRefEncode
namespace Go.Proofs.YtbcadgooelcnhaaDoor
open Go.RowKit

theorem great_nat2 (d : UInt8) (h1 : 97 ≤ d.toNat) (h2 : d.toNat ≤ 122) : (d.toNat : Int) - 32 = ((Wh.great d).toNat : Int) := by
  have := great_nat d h1 h2
  omega

set_option maxHeartbeats 1000000 in
set_option maxRecDepth 100000 in
theorem refDecode_bad (x : Wh.Enc) (a : Option Addr) (c : Nat) (s : ByteArray) (w : World) (hE : Env w) (hs : s.size ≤ 9223372036854775807) (hp : Wh.isPath s.data.toList = false) :
    Calls Tryd.prog 55 #[encVal x a c, .string s] w fun e w' => e = .returned (.tuple #[.string ⟨#[]⟩, .int .i64 1]) ∧ Below w.heap.size w w' := by
  have HP := Lib.hid (fun W (hb : Below w.heap.size w W) => refIsPath_any s W (hE.under hb) hs)
  rw [hp] at HP
  clear hE hp
  unfold encVal
  go_enter Tryd.func55, Tryd.ntmps55
  go_wp2_with fail
  refine (HP.out _ (bAlloc (Below.refl _ _) _)).mono ?_
  rintro e w1 ⟨rfl, hb1⟩
  go_wp2_with fail
  go_ret2
  exact ⟨rfl, bTrans (bAlloc (Below.refl _ _) _) hb1⟩

set_option maxHeartbeats 2000000 in
set_option maxRecDepth 100000 in
theorem refDecode_path (x : Wh.Enc) (a : Option Addr) (c : Nat) (s : ByteArray) (w : World) (hE : Env w) (hX : EncOk x a w) (hp : Wh.isPath s.data.toList = true) :
    Calls Tryd.prog 55 #[encVal x a c, .string s] w fun e w' => e = .returned (.tuple #[.string (Wh.decText x s), .int .i64 (Wh.decErrP x s)]) ∧ Below w.heap.size w w' := by
  have hs := Wh.path_size hp
  have HP := Lib.hid (fun W (hb : Below w.heap.size w W) => refIsPath_any s W (hE.under hb) (by omega))
  rw [hp] at HP
  have HN := Lib.hid (fun h => Wh.dec_none (x := x) (s := s) h)
  have HOt := Lib.hid (fun o h hg => Wh.dec_other (x := x) (s := s) (o := o) h hg)
  have HGo := Lib.hid (fun q h => Wh.dec_good (x := x) (s := s) (q := q) h)
  have HEq := Lib.hid (fun q W (hb : Below w.heap.size w W) hpq => refEncode_path x a c q W (hE.under hb) (hX.under hb) hpq)
  have HEb := Lib.hid (fun q W (hb : Below w.heap.size w W) hq hpq => refEncode_bad x a c q W (hE.under hb) hq hpq)
  have HDl := Lib.hid (fun o h => Wh.decS_length x.cs _ s.data.toList o (Nat.le_refl _) h)
  generalize Wh.decText x s = T at *
  generalize Wh.decErrP x s = E at *
  clear hE hX hp
  unfold encVal at *
  have HX := Lib.hid (encBox_new w 61 x a c)
  have hb1 : Below w.heap.size w (w.alloc (.cells #[.string x.forbid, .string x.head, .string x.tail, .slice a x.names.length c, .bool x.cs, .int .i64 x.max] 61)) := bAlloc (Below.refl _ _) _
  generalize hR : Wh.decS x.cs s.data.toList = R at *
  have HR := Lib.hid hR
  clear hR
  go_enter Tryd.func55, Tryd.ntmps55
  go_wp2_with fail
  refine (HP.out _ hb1).mono ?_
  rintro e w1 ⟨rfl, hb0⟩
  generalize w.alloc (.cells #[.string x.forbid, .string x.head, .string x.tail, .slice a x.names.length c, .bool x.cs, .int .i64 x.max] 61) = w00 at *
  replace HX := Lib.hid (HX.out.under hb0)
  replace hb1 := bTrans hb1 hb0
  clear hb0 HP
  go_wp2_with fail
  go_loopg [6, 7] s.size (fun g s6 s7 wx => ∃ (k : Nat) (out : List UInt8) (a' : Option Addr) (cap : Nat), k + g = s.size ∧ s7 = .int .i64 k ∧ s6 = .slice a' out.length cap ∧ out.length ≤ k ∧
    Hid (OwnB w1 wx a' cap out) ∧ Hid (R = (Wh.decS x.cs (s.data.toList.drop k)).map (out ++ ·)))
  case atStart => exact ⟨0, [], none, 0, by omega, rfl, rfl, by simp, Lib.hid (OwnB.nil (Below.refl _ _)), Lib.hid (by rw [← HR.out]; simp)⟩
  case round =>
    obtain ⟨k, out, a', cap, hk, rfl, rfl, hol, HW, HO⟩ := hrel
    by_cases hlt : k < s.size
    · obtain ⟨g, rfl⟩ : ∃ g, gk = g + 1 := ⟨gk - 1, by omega⟩
      obtain ⟨ch, hch⟩ : ∃ ch : UInt8, s[k]'hlt = ch := ⟨_, rfl⟩
      rw [drop_at hlt hch] at HO
      have hc8 := ch.toNat_lt
      have hl1 : out.length + 1 ≤ 140737488355328 := by omega
      obtain ⟨k0, k1, k2, k3, k4, k5, k6⟩ := HX.out.under HW.out.below
      clear k0 k1 k2 k3 k4 k6
      have e37 := Wh.byte_is ch 37 37 rfl
      have e94 := Wh.byte_is ch 94 94 rfl
      cases c1 : (ch == 37)
      · rw [c1] at e37
        have c00 : x.cs = false ∨ x.cs = true := by cases x.cs <;> simp
        have HP1 : (x.cs && ch == 94) = false → Hid (R = (Wh.decS x.cs (s.data.toList.drop (k + 1))).map ((out ++ [ch]) ++ ·)) := fun hh => Lib.hid (by
          rw [HO.out, Wh.decS_one c1 hh]
          exact map_app _ _ _)
        rcases c00 with c0 | c0
        · have HP := HP1 (by rw [c0]; rfl)
          rw [c0] at k5; replace c0 := Lib.hid c0
          clear HP1
          cases c2 : (ch == 94)
          all_goals
            rw [c2] at e94
            go_wp2_with (at_builtin; refine wp_app1B HW.out ch hl1 rfl (.tmp 25) (.tmp 27) rfl rfl rfl ?_)
            intro a2 cap2 w6 hO6
            have HO6 := Lib.hid hO6
            clear hO6
            go_wp2_with fail
            go_roundg g
            case measure => omega
            case rel => exact ⟨k + 1, out ++ [ch], a2, cap2, by omega, by go_num, by simp, by simp; omega, HO6, HP⟩
        · cases c2 : (ch == 94)
          · have HP := HP1 (by rw [c2, Bool.and_false])
            rw [c0] at k5; replace c0 := Lib.hid c0
            rw [c2] at e94
            clear HP1
            go_wp2_with (at_builtin; refine wp_app1B HW.out ch hl1 rfl (.tmp 25) (.tmp 27) rfl rfl rfl ?_)
            intro a2 cap2 w6 hO6
            have HO6 := Lib.hid hO6
            clear hO6
            go_wp2_with fail
            go_roundg g
            case measure => omega
            case rel => exact ⟨k + 1, out ++ [ch], a2, cap2, by omega, by go_num, by simp, by simp; omega, HO6, HP⟩
          · rw [c2] at e94
            have c3 := beq_iff_eq.1 c2
            by_cases hk1 : k + 1 < s.size
            · have c5 : ((k : Int) + 1 == (s.size : Int)) = false := beq_eq_false_iff_ne.2 (by omega)
              obtain ⟨d, hd⟩ : ∃ d : UInt8, s[k + 1]'(by omega) = d := ⟨_, rfl⟩
              have hd8 := d.toNat_lt
              have HP : Hid (R = (Wh.decS x.cs (s.data.toList.drop (k + 2))).map ((out ++ [Wh.great d]) ++ ·)) := Lib.hid (by
                rw [HO.out, c3, drop_at (by omega) hd, Wh.decS_mark c0]
                exact map_app _ _ _)
              rw [c0] at k5; replace c0 := Lib.hid c0
              clear HP1 c3
              by_cases hg : 97 ≤ d.toNat ∧ d.toNat ≤ 122
              · obtain ⟨hg1, hg2⟩ := hg
                have hgn := great_nat2 d hg1 hg2
                generalize Wh.great d = b at *
                go_wp2_with (at_builtin; refine wp_app1B HW.out b hl1 rfl (.tmp 88) (.tmp 90) rfl rfl rfl ?_)
                intro a2 cap2 w6 hO6
                have HO6 := Lib.hid hO6
                clear hO6 hgn
                go_wp2_with fail
                go_roundg (g - 1)
                case measure => omega
                case rel => exact ⟨k + 2, out ++ [b], a2, cap2, by omega, by go_num, by simp, by simp; omega, HO6, HP⟩
              · rw [great_same d hg] at HP
                by_cases hg1 : 97 ≤ d.toNat
                all_goals
                  have hg2 : ¬ (97 ≤ d.toNat ∧ d.toNat ≤ 122) := hg
                  clear hg
                  go_wp2_with (at_builtin; refine wp_app1B HW.out d hl1 rfl (.tmp 88) (.tmp 90) rfl rfl rfl ?_)
                  intro a2 cap2 w6 hO6
                  have HO6 := Lib.hid hO6
                  clear hO6
                  go_wp2_with fail
                  go_roundg (g - 1)
                  case measure => omega
                  case rel => exact ⟨k + 2, out ++ [d], a2, cap2, by omega, by go_num, by simp, by simp; omega, HO6, HP⟩
            · have c5 : ((k : Int) + 1 == (s.size : Int)) = true := by simp; omega
              have hR : R = none := by
                rw [HO.out, c3, drop_end (by omega), Wh.decS_lone c0]
                rfl
              have HF := Lib.hid hR
              rw [c0] at k5; replace c0 := Lib.hid c0
              clear hR c3 HP1
              go_wp2_with fail
              go_ret2
              rw [(HN.out HF.out).1, (HN.out HF.out).2]
              exact ⟨rfl, bTrans hb1 HW.out.below⟩
      · rw [c1] at e37
        by_cases hk2 : k + 2 < s.size
        · obtain ⟨d, hd⟩ : ∃ d : UInt8, s[k + 1]'(by omega) = d := ⟨_, rfl⟩
          obtain ⟨e, he⟩ : ∃ e : UInt8, s[k + 2]'(by omega) = e := ⟨_, rfl⟩
          go_wp2_with fail
          have i1 : IntKind.i64.wrap ((k : Int) + 1) = (k : Int) + 1 := IntWalk.i64_in _ (by omega)
          have i2 : IntKind.i64.wrap ((k : Int) + 2) = (k : Int) + 2 := IntWalk.i64_in _ (by omega)
          have i3 : (0 : Int) ≤ (k : Int) + 1 := by omega
          have i4 : (0 : Int) ≤ (k : Int) + 2 := by omega
          have i5 : (k : Int) + 1 < s.size := by omega
          have i6 : (k : Int) + 2 < s.size := by omega
          have i7 : ((k : Int) + 1).toNat = k + 1 := by omega
          have i8 : ((k : Int) + 2).toNat = k + 2 := by omega
          go_quiet ((go_at_call 59; exact Calls.quiet_of_same (indexHex _ _)))
          clear i1 i2 i3 i4 i5 i6 i7 i8
          have HW5 := Lib.hid (OwnB.under HW.out (w' := wr.drewN nq) ⟨rfl, rfl, rfl, Nat.le_refl _, fun _ _ => rfl⟩)
          generalize wr.drewN nq = w5 at *
          have hd0 := Wh.hx_bound d
          have he0 := Wh.hx_bound e
          have HP : Hid (R = if Wh.hx d < 0 ∨ Wh.hx e < 0 then none else (Wh.decS x.cs (s.data.toList.drop (k + 3))).map ((out ++ [Wh.hx2 d e]) ++ ·)) := Lib.hid (by
            rw [HO.out, beq_iff_eq.1 c1, drop_at (by omega) hd, drop_at (by omega) he, Wh.decS_pct]
            split
            · rfl
            · exact map_app _ _ _)
          have h2 : Wh.hx2 d e = UInt8.ofNat ((Wh.hx d).toNat * 16 + (Wh.hx e).toNat) := rfl
          have H2 := Lib.hid h2
          clear h2
          generalize Wh.hx2 d e = b at *
          generalize Wh.hx d = p at *
          generalize Wh.hx e = q at *
          by_cases hp : p < 0
          · have hR : R = none := by rw [HP.out, if_pos (.inl hp)]
            have HF := Lib.hid hR
            clear hR
            go_wp2_with fail
            go_ret2
            rw [(HN.out HF.out).1, (HN.out HF.out).2]
            exact ⟨rfl, bTrans hb1 HW5.out.below⟩
          · by_cases hq : q < 0
            · have hR : R = none := by rw [HP.out, if_pos (.inr hq)]
              have HF := Lib.hid hR
              clear hR
              go_wp2_with fail
              go_ret2
              rw [(HN.out HF.out).1, (HN.out HF.out).2]
              exact ⟨rfl, bTrans hb1 HW5.out.below⟩
            · have hR : R = (Wh.decS x.cs (s.data.toList.drop (k + 3))).map ((out ++ [b]) ++ ·) := by rw [HP.out, if_neg (by omega)]
              have HF := Lib.hid hR
              clear hR
              have hbo := or_hex p q hp hd0.2 hq he0.2
              rw [← H2.out] at hbo
              go_wp2_with (at_builtin; refine wp_app1B HW5.out b hl1 rfl (.tmp 53) (.tmp 59) rfl rfl rfl ?_)
              intro a2 cap2 w6 hO6
              have HO6 := Lib.hid hO6
              clear hO6 hbo
              go_wp2_with fail
              go_roundg (g - 2)
              case measure => omega
              case rel => exact ⟨k + 3, out ++ [b], a2, cap2, by omega, by go_num, by simp, by simp; omega, HO6, HF⟩
        · have hR : R = none := by
            rw [HO.out, beq_iff_eq.1 c1, Wh.decS_short _ (by rw [drop_len]; omega)]
            rfl
          have HF := Lib.hid hR
          clear hR
          go_wp2_with fail
          go_ret2
          rw [(HN.out HF.out).1, (HN.out HF.out).2]
          exact ⟨rfl, bTrans hb1 HW.out.below⟩
    · have hco := convB HW.out
      have hR : R = some out := by
        rw [HO.out, drop_end (by omega), Wh.decS_nil]
        simp
      have HF := Lib.hid hR
      have hol2 := HDl.out out hR
      have hqs : (⟨out.toArray⟩ : ByteArray).size = out.length := by simp [ByteArray.size]
      have hqz : (⟨out.toArray⟩ : ByteArray).size ≤ 1024 := by rw [hqs]; omega
      have HOq := Lib.hid (fun hg => HOt.out out hR hg)
      clear hR hqs hol2
      have HCv := Lib.hid (fun W (hb : Below wr.heap.size wr W) => convB (OwnB.under HW.out hb))
      have hbr := bTrans hb1 HW.out.below
      generalize (⟨out.toArray⟩ : ByteArray) = q at *
      obtain ⟨k0, k1, k2, k3, k4, k5, k6⟩ := HX.out.under HW.out.below
      cases hpq : Wh.isPath q.data.toList
      · have HEx := Lib.hid (HEb.out q wr hbr (by omega) hpq)
        have HFF := Lib.hid (HOq.out (by simp [Wh.goodB, hpq]))
        clear hpq
        go_wp2_with fail
        refine HEx.out.mono ?_
        rintro e w5 ⟨rfl, hb5⟩
        go_wp2_with fail
        go_ret2
        rw [HFF.out.1, HFF.out.2]
        exact ⟨rfl, bTrans hbr hb5⟩
      · have HEx := Lib.hid (HEq.out q wr hbr hpq)
        have HGq := Lib.hid (fun h2 h3 => HGo.out q (Wh.goodB_iff.2 ⟨hpq, h2, h3⟩))
        have HNq := Lib.hid (fun (h2 : ¬ (Wh.encErrP x q = 0 ∧ Wh.encText x q = s)) => HOq.out (by
          cases h : Wh.goodB x s q with
          | false => rfl
          | true => exact absurd (Wh.goodB_iff.1 h).2 h2))
        clear hpq
        go_wp2_with fail
        refine HEx.out.mono ?_
        rintro e w5 ⟨rfl, hb5⟩
        clear k0 k1 k2 k3 k4 k5 k6 hco
        have hco5 := HCv.out w5 hb5
        generalize Wh.encErrP x q = E2 at *
        generalize Wh.encText x q = T2 at *
        by_cases he2 : E2 = 0
        · by_cases ht2 : T2 = s
          · have HFF := Lib.hid (HGq.out he2 ht2)
            subst he2 ht2
            go_wp2_with fail
            go_ret2
            rw [HFF.out.1, HFF.out.2]
            exact ⟨rfl, bTrans hbr hb5⟩
          · have HFF := Lib.hid (HNq.out (fun h => ht2 h.2))
            have q2 := Wh.toList_ne ht2
            subst he2
            clear ht2
            go_wp2_with fail
            go_ret2
            rw [HFF.out.1, HFF.out.2]
            exact ⟨rfl, bTrans hbr hb5⟩
        · have HFF := Lib.hid (HNq.out (fun h => he2 h.1))
          have q2 := err_ne he2
          clear he2
          go_wp2_with fail
          go_ret2
          rw [HFF.out.1, HFF.out.2]
          exact ⟨rfl, bTrans hbr hb5⟩
end Go.Proofs.YtbcadgooelcnhaaDoor
