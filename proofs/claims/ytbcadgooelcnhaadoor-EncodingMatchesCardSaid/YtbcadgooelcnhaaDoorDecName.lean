/-
  names.decodeName, walked.
-/
import Derived.Test.YtbcadgooelcnhaaDoorEncName
import Derived.Test.YtbcadgooelcnhaaDoorPlainDec2
import Derived.IntWalk
namespace Go.Proofs.YtbcadgooelcnhaaDoor
open Go.RowKit

theorem or_hex (p q : Int) (hp : ¬ p < 0) (hp2 : p < 16) (hq : ¬ q < 0) (hq2 : q < 16) : bits BinOp.or IntKind.i64 (p * 16) q % 256 = ((UInt8.ofNat (p.toNat * 16 + q.toNat)).toNat : Int) := by
  have h : ∀ a b : Fin 16, bits BinOp.or IntKind.i64 ((a.1 : Int) * 16) (b.1 : Int) % 256 = ((UInt8.ofNat (((a.1 : Int)).toNat * 16 + ((b.1 : Int)).toNat)).toNat : Int) := by decide +kernel
  have := h ⟨p.toNat, by omega⟩ ⟨q.toNat, by omega⟩
  have e1 : ((p.toNat : Nat) : Int) = p := by omega
  have e2 : ((q.toNat : Nat) : Int) = q := by omega
  simp only [e1, e2] at this
  exact this

theorem great_nat (d : UInt8) (h1 : 97 ≤ d.toNat) (h2 : d.toNat ≤ 122) : (d.toNat : Int) - 97 + 65 = ((Wh.great d).toNat : Int) := by
  unfold Wh.great
  rw [if_pos ⟨h1, h2⟩, UInt8.toNat_sub]
  have : (32 : UInt8).toNat = 32 := rfl
  omega
theorem great_same (d : UInt8) (h : ¬ (97 ≤ d.toNat ∧ d.toNat ≤ 122)) : Wh.great d = d := by
  unfold Wh.great
  rw [if_neg h]

theorem drop_at {s : ByteArray} {k : Nat} (h : k < s.size) {c : UInt8} (hc : s[k]'h = c) : s.data.toList.drop k = c :: s.data.toList.drop (k + 1) := by
  have hcl : s.data.toList[k]? = some c := by rw [← hc]; exact Lib.data_getElem? s k h
  have hh := List.getElem?_eq_some_iff.1 hcl
  rw [List.drop_eq_getElem_cons hh.1, hh.2]
theorem drop_end {s : ByteArray} {k : Nat} (h : s.size ≤ k) : s.data.toList.drop k = [] := by
  rw [List.drop_eq_nil_of_le]
  rw [← Lib.size_eq]
  exact h
theorem drop_len (s : ByteArray) (k : Nat) : (s.data.toList.drop k).length = s.size - k := by
  rw [List.length_drop, ← Lib.size_eq]
theorem map_app (o : Option (List UInt8)) (c : UInt8) (l : List UInt8) : (o.map (c :: ·)).map (l ++ ·) = o.map ((l ++ [c]) ++ ·) := by
  cases o <;> simp

theorem indexHex (c : UInt8) (w : World) :
    Calls Tryd.prog 59 #[.string ⟨#[48, 49, 50, 51, 52, 53, 54, 55, 56, 57, 65, 66, 67, 68, 69, 70]⟩, .int .u8 (c.toNat : Int)] w fun e w' => e = .returned (.int .i64 (Wh.hx c)) ∧ w' = w := by
  have h := Tryd.strings_IndexByte ⟨#[48, 49, 50, 51, 52, 53, 54, 55, 56, 57, 65, 66, 67, 68, 69, 70]⟩ (c.toNat : Int) w
  have e : ((c.toNat : Int).toNat.toUInt8) = c := by simp
  rw [e] at h
  exact h

set_option maxHeartbeats 2000000 in
set_option maxRecDepth 100000 in
theorem decodeName_any (x : Wh.Enc) (a : Option Addr) (c : Nat) (s : ByteArray) (w : World) (hs : s.size ≤ 1024) :
    Calls Tryd.prog 93 #[encVal x a c, .string s] w fun e w' => e = .returned (.tuple #[.string ⟨((Wh.decS x.cs s.data.toList).getD []).toArray⟩, .bool (Wh.decS x.cs s.data.toList).isSome]) ∧ Below w.heap.size w w' := by
  unfold encVal
  have HX := Lib.hid (encBox_new w 61 x a c)
  have hb1 : Below w.heap.size w (w.alloc (.cells #[.string x.forbid, .string x.head, .string x.tail, .slice a x.names.length c, .bool x.cs, .int .i64 x.max] 61)) := bAlloc (Below.refl _ _) _
  generalize hR : Wh.decS x.cs s.data.toList = R
  have HR := Lib.hid hR
  clear hR
  go_enter Tryd.func93, Tryd.ntmps93
  go_wp2_with fail
  generalize w.alloc (.cells #[.string x.forbid, .string x.head, .string x.tail, .slice a x.names.length c, .bool x.cs, .int .i64 x.max] 61) = w1 at *
  go_loopg [6, 7] s.size (fun g s6 s7 wx => ∃ (k : Nat) (out : List UInt8) (a' : Option Addr) (cap : Nat), k + g = s.size ∧ s7 = .int .i64 k ∧ s6 = .slice a' out.length cap ∧ out.length ≤ k ∧
    Hid (OwnB w1 wx a' cap out) ∧ Hid (R = (Wh.decS x.cs (s.data.toList.drop k)).map (out ++ ·)))
  case atStart => exact ⟨0, [], none, 0, by omega, rfl, rfl, by simp, Lib.hid (OwnB.nil (Below.refl _ _)), Lib.hid (by rw [← HR.out]; simp)⟩
  case round =>
    obtain ⟨k, out, a', cap, hk, rfl, rfl, hol, HW, HO⟩ := hrel
    by_cases hlt : k < s.size
    · obtain ⟨g, rfl⟩ : ∃ g, gk = g + 1 := ⟨gk - 1, by omega⟩
      obtain ⟨ch, hch⟩ : ∃ ch : UInt8, s[k]'hlt = ch := ⟨_, rfl⟩
      rw [drop_at hlt hch] at HO
      have hc8 := ch.toNat_lt
      have hl1 : out.length + 1 ≤ 140737488355328 := by omega
      obtain ⟨k0, k1, k2, k3, k4, k5, k6⟩ := HX.out.under HW.out.below
      clear k0 k1 k2 k3 k4 k6
      have e37 := Wh.byte_is ch 37 37 rfl
      have e94 := Wh.byte_is ch 94 94 rfl
      cases c1 : (ch == 37)
      · rw [c1] at e37
        have c00 : x.cs = false ∨ x.cs = true := by cases x.cs <;> simp
        have HP1 : (x.cs && ch == 94) = false → Hid (R = (Wh.decS x.cs (s.data.toList.drop (k + 1))).map ((out ++ [ch]) ++ ·)) := fun hh => Lib.hid (by
          rw [HO.out, Wh.decS_one c1 hh]
          exact map_app _ _ _)
        rcases c00 with c0 | c0
        · have HP := HP1 (by rw [c0]; rfl)
          rw [c0] at k5; replace c0 := Lib.hid c0
          clear HP1
          go_wp2_with (at_builtin; refine wp_app1B HW.out ch hl1 rfl (.tmp 21) (.tmp 23) rfl rfl rfl ?_)
          intro a2 cap2 w6 hO6
          have HO6 := Lib.hid hO6
          clear hO6
          go_wp2_with fail
          go_roundg g
          case measure => omega
          case rel => exact ⟨k + 1, out ++ [ch], a2, cap2, by omega, by go_num, by simp, by simp; omega, HO6, HP⟩
        · cases c2 : (ch == 94)
          · have HP := HP1 (by rw [c2, Bool.and_false])
            rw [c0] at k5; replace c0 := Lib.hid c0
            rw [c2] at e94
            clear HP1
            go_wp2_with (at_builtin; refine wp_app1B HW.out ch hl1 rfl (.tmp 21) (.tmp 23) rfl rfl rfl ?_)
            intro a2 cap2 w6 hO6
            have HO6 := Lib.hid hO6
            clear hO6
            go_wp2_with fail
            go_roundg g
            case measure => omega
            case rel => exact ⟨k + 1, out ++ [ch], a2, cap2, by omega, by go_num, by simp, by simp; omega, HO6, HP⟩
          · rw [c2] at e94
            have c3 := beq_iff_eq.1 c2
            by_cases hk1 : k + 1 < s.size
            · obtain ⟨d, hd⟩ : ∃ d : UInt8, s[k + 1]'(by omega) = d := ⟨_, rfl⟩
              have hd8 := d.toNat_lt
              have HP : Hid (R = (Wh.decS x.cs (s.data.toList.drop (k + 2))).map ((out ++ [Wh.great d]) ++ ·)) := Lib.hid (by
                rw [HO.out, c3, drop_at (by omega) hd, Wh.decS_mark c0]
                exact map_app _ _ _)
              rw [c0] at k5; replace c0 := Lib.hid c0
              clear HP1 c3
              by_cases hg : 97 ≤ d.toNat ∧ d.toNat ≤ 122
              · obtain ⟨hg1, hg2⟩ := hg
                have hgn := great_nat d hg1 hg2
                generalize Wh.great d = b at *
                go_wp2_with (at_builtin; refine wp_app1B HW.out b hl1 rfl (.tmp 82) (.tmp 86) rfl rfl rfl ?_)
                intro a2 cap2 w6 hO6
                have HO6 := Lib.hid hO6
                clear hO6 hgn
                go_wp2_with fail
                go_roundg (g - 1)
                case measure => omega
                case rel => exact ⟨k + 2, out ++ [b], a2, cap2, by omega, by go_num, by simp, by simp; omega, HO6, HP⟩
              · rw [great_same d hg] at HP
                by_cases hg1 : 97 ≤ d.toNat
                all_goals
                  have hg2 : ¬ (97 ≤ d.toNat ∧ d.toNat ≤ 122) := hg
                  clear hg
                  go_wp2_with (at_builtin; refine wp_app1B HW.out d hl1 rfl (.tmp 88) (.tmp 90) rfl rfl rfl ?_)
                  intro a2 cap2 w6 hO6
                  have HO6 := Lib.hid hO6
                  clear hO6
                  go_wp2_with fail
                  go_roundg (g - 1)
                  case measure => omega
                  case rel => exact ⟨k + 2, out ++ [d], a2, cap2, by omega, by go_num, by simp, by simp; omega, HO6, HP⟩
            · have hR : R = none := by
                rw [HO.out, c3, drop_end (by omega), Wh.decS_lone c0]
                rfl
              have HF := Lib.hid hR
              rw [c0] at k5; replace c0 := Lib.hid c0
              clear hR c3 HP1
              go_wp2_with fail
              go_ret2
              rw [HF.out]
              exact ⟨rfl, bTrans hb1 HW.out.below⟩
      · rw [c1] at e37
        by_cases hk2 : k + 2 < s.size
        · obtain ⟨d, hd⟩ : ∃ d : UInt8, s[k + 1]'(by omega) = d := ⟨_, rfl⟩
          obtain ⟨e, he⟩ : ∃ e : UInt8, s[k + 2]'(by omega) = e := ⟨_, rfl⟩
          go_wp2_with fail
          have i1 : IntKind.i64.wrap ((k : Int) + 1) = (k : Int) + 1 := IntWalk.i64_in _ (by omega)
          have i2 : IntKind.i64.wrap ((k : Int) + 2) = (k : Int) + 2 := IntWalk.i64_in _ (by omega)
          have i3 : (0 : Int) ≤ (k : Int) + 1 := by omega
          have i4 : (0 : Int) ≤ (k : Int) + 2 := by omega
          have i5 : (k : Int) + 1 < s.size := by omega
          have i6 : (k : Int) + 2 < s.size := by omega
          have i7 : ((k : Int) + 1).toNat = k + 1 := by omega
          have i8 : ((k : Int) + 2).toNat = k + 2 := by omega
          go_quiet ((go_at_call 59; exact Calls.quiet_of_same (indexHex _ _)))
          clear i1 i2 i3 i4 i5 i6 i7 i8
          have HW5 := Lib.hid (OwnB.under HW.out (w' := wr.drewN nq) ⟨rfl, rfl, rfl, Nat.le_refl _, fun _ _ => rfl⟩)
          generalize wr.drewN nq = w5 at *
          have hd0 := Wh.hx_bound d
          have he0 := Wh.hx_bound e
          have HP : Hid (R = if Wh.hx d < 0 ∨ Wh.hx e < 0 then none else (Wh.decS x.cs (s.data.toList.drop (k + 3))).map ((out ++ [Wh.hx2 d e]) ++ ·)) := Lib.hid (by
            rw [HO.out, beq_iff_eq.1 c1, drop_at (by omega) hd, drop_at (by omega) he, Wh.decS_pct]
            split
            · rfl
            · exact map_app _ _ _)
          have h2 : Wh.hx2 d e = UInt8.ofNat ((Wh.hx d).toNat * 16 + (Wh.hx e).toNat) := rfl
          have H2 := Lib.hid h2
          clear h2
          generalize Wh.hx2 d e = b at *
          generalize Wh.hx d = p at *
          generalize Wh.hx e = q at *
          by_cases hp : p < 0
          · have hR : R = none := by rw [HP.out, if_pos (.inl hp)]
            have HF := Lib.hid hR
            clear hR
            go_wp2_with fail
            go_ret2
            rw [HF.out]
            exact ⟨rfl, bTrans hb1 HW5.out.below⟩
          · by_cases hq : q < 0
            · have hR : R = none := by rw [HP.out, if_pos (.inr hq)]
              have HF := Lib.hid hR
              clear hR
              go_wp2_with fail
              go_ret2
              rw [HF.out]
              exact ⟨rfl, bTrans hb1 HW5.out.below⟩
            · have hR : R = (Wh.decS x.cs (s.data.toList.drop (k + 3))).map ((out ++ [b]) ++ ·) := by rw [HP.out, if_neg (by omega)]
              have HF := Lib.hid hR
              clear hR
              have hbo := or_hex p q hp hd0.2 hq he0.2
              rw [← H2.out] at hbo
              go_wp2_with (at_builtin; refine wp_app1B HW5.out b hl1 rfl (.tmp 49) (.tmp 55) rfl rfl rfl ?_)
              intro a2 cap2 w6 hO6
              have HO6 := Lib.hid hO6
              clear hO6 hbo
              go_wp2_with fail
              go_roundg (g - 2)
              case measure => omega
              case rel => exact ⟨k + 3, out ++ [b], a2, cap2, by omega, by go_num, by simp, by simp; omega, HO6, HF⟩
        · have hR : R = none := by
            rw [HO.out, beq_iff_eq.1 c1, Wh.decS_short _ (by rw [drop_len]; omega)]
            rfl
          have HF := Lib.hid hR
          clear hR
          go_wp2_with fail
          go_ret2
          rw [HF.out]
          exact ⟨rfl, bTrans hb1 HW.out.below⟩
    · have hco := convB HW.out
      have hR : R = some out := by
        rw [HO.out, drop_end (by omega), Wh.decS_nil]
        simp
      have HF := Lib.hid hR
      clear hR
      go_wp2_with fail
      go_ret2
      rw [HF.out]
      exact ⟨rfl, bTrans hb1 HW.out.below⟩
end Go.Proofs.YtbcadgooelcnhaaDoor
