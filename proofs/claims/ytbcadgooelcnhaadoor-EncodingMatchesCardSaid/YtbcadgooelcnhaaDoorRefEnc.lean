/-
  The reference's encoded, walked.
-/
import Derived.Test.YtbcadgooelcnhaaDoorEncName
import Derived.Deep.RegionHeld3
namespace Go.Proofs.YtbcadgooelcnhaaDoor
open Go.RowKit

set_option maxHeartbeats 1000000 in
theorem encoded1_any (s : ByteArray) (c : UInt8) (b : Nat) (w : World) (hc : w.cell? ⟨b, 0, none⟩ = some (.int .u8 (c.toNat : Int))) :
    Calls Tryd.prog 107 #[.string s, .pointer (some ⟨b, 0, none⟩)] w fun e w' => e = .returned (.bool (s.data.toList.contains c)) ∧ w' = w := by
  have HC := Lib.hid (Lib.contains_iff_indexByte s.data.toList c)
  have hback : ((c.toNat : Int)).toNat.toUInt8 = c := by simp
  have HI := fun W => Tryd.strings_IndexByte s c.toNat W
  rw [hback] at HI
  have HI := Lib.hid HI
  clear hback
  go_enter Tryd.func107, Tryd.ntmps107
  go_wp2_with (go_at_call 59; refine (HI.out _).mono ?_; rintro e w' ⟨rfl, rfl⟩)
  go_ret
  exact ⟨ret_bool (by rw [HC.out]), rfl⟩

theorem contains_names (a : Option Addr) (c : Nat) (xs : List ByteArray) (y : ByteArray) (w : World) (hl : xs.length ≤ 9223372036854775807) (hH : Holds w a (xs.map Value.string)) :
    Calls Tryd.prog 60 #[.slice a xs.length c, .string y] w fun e w' => e = .returned (.bool (xs.any (fun z => z.data.toList == y.data.toList))) ∧ w' = w := by
  have hv : xs.any (fun z => z.data.toList == y.data.toList) = Lib.containsS xs y := by
    rw [Bool.eq_iff_iff, Lib.containsS_iff, List.any_eq_true]
    constructor
    · rintro ⟨z, hz, h⟩
      rw [← Wh.byteArray_ext (beq_iff_eq.1 h)]
      exact hz
    · intro h
      exact ⟨y, h, by simp⟩
  rw [hv]
  rcases hH with h | ⟨b, off, rfl, hb, hcell⟩
  · obtain rfl : xs = [] := by simpa using h
    exact Tryd.slices_Contains_string_empty a c y w
  · have := Tryd.slices_Contains_string b off xs.length c xs y w (Nat.le_refl _) hl (fun j hj => hcell j _ (by simp [List.getElem?_eq_getElem hj]))
    rw [List.take_length] at this
    exact this

set_option maxHeartbeats 4000000 in
set_option maxRecDepth 100000 in
theorem encoded_any (x : Wh.Enc) (a : Option Addr) (c : Nat) (s : ByteArray) (w : World) (hX : EncOk x a w) (hs : s.size ≤ 1048576) :
    Calls Tryd.prog 94 #[encVal x a c, .string s] w fun e w' => e = .returned (.string ⟨(Wh.encName x s.data.toList).toArray⟩) ∧ Below w.heap.size w w' := by
  have hF := fun W => lower_any s W (by omega)
  have hB := fun W (hb : Below w.heap.size w W) => contains_names a c x.names ⟨(Wh.lower s.data.toList).toArray⟩ W hX.len (hX.holds.under hb)
  obtain ⟨F, hFe⟩ : ∃ F : ByteArray, (⟨(Wh.lower s.data.toList).toArray⟩ : ByteArray) = F := ⟨_, rfl⟩
  have hFd : F.data.toList = Wh.lower s.data.toList := by rw [← hFe]
  rw [hFe] at hF hB
  rw [hFd] at hB
  have HF := Lib.hid hF
  have HB := Lib.hid hB
  have hend := Lib.hid (fun k hk => Wh.encTo_end x s.data.toList (k := k) hk)
  generalize x.names.any (fun y => y.data.toList == Wh.lower s.data.toList) = named at *
  clear hX hF hB hFe hFd
  unfold encVal
  have HX := Lib.hid (encBox_new w 61 x a c)
  have hb1 : Below w.heap.size w (w.alloc (.cells #[.string x.forbid, .string x.head, .string x.tail, .slice a x.names.length c, .bool x.cs, .int .i64 x.max] 61)) := bAlloc (Below.refl _ _) _
  go_enter Tryd.func94, Tryd.ntmps94
  go_wp2_with fail
  generalize w.alloc (.cells #[.string x.forbid, .string x.head, .string x.tail, .slice a x.names.length c, .bool x.cs, .int .i64 x.max] 61) = w1 at *
  obtain ⟨k0, k1, k2, k3, k4, k5, k6⟩ := HX.out
  clear k1 k2 k3 k5 k6
  go_region_held3 (fun w' => w'.cell? ⟨w.heap.size, 3, none⟩ = some (.slice a x.names.length c))
    (first | go_keep | exact (hbF.cell (p := ⟨w.heap.size, 3, none⟩) k0).trans k4)
    (first | (go_at_call 49; refine (HF.out _).mono ?_; rintro e w2 ⟨rfl, hbF⟩) | (go_at_call 60; refine (HB.out _ (bTrans hb1 (undrew hbF))).mono ?_; rintro e w3 ⟨rfl, hw3⟩; subst w3))
  have hb2 := bTrans hb1 (undrew hbF)
  have HX2 := Lib.hid (HX.out.under (undrew hbF))
  clear k0 k4 hbF HX HF HB hb1
  go_wp2_with fail
  go_loopg [5, 17] s.size (fun g s5 s17 wx => ∃ (k : Nat) (out : List UInt8) (a' : Option Addr) (cap : Nat), k + g = s.size ∧ s17 = .int .i64 k ∧ s5 = .slice a' out.length cap ∧
    Hid (OwnB w2 wx a' cap out) ∧ Hid (out = Wh.encTo x named s.data.toList k))
  case atStart => exact ⟨0, [], none, 0, by omega, rfl, rfl, Lib.hid (OwnB.nil (Below.refl _ _)), Lib.hid (by simp [Wh.encTo, Wh.encFrom])⟩
  case round =>
    obtain ⟨k, out, a', cap, hk, rfl, rfl, HW, HO⟩ := hrel
    by_cases hlt : k < s.size
    · obtain ⟨g, rfl⟩ : ∃ g, gk = g + 1 := ⟨gk - 1, by omega⟩
      obtain ⟨ch, hch⟩ : ∃ ch : UInt8, s[k]'hlt = ch := ⟨_, rfl⟩
      have hcl : s.data.toList[k]? = some ch := by rw [← hch]; exact Lib.data_getElem? s k hlt
      have Hcl := Lib.hid hcl
      have hc8 := ch.toNat_lt
      clear hcl
      have HBx := Lib.hid (HX2.out.under HW.out.below)
      have hesc : Wh.escB x named (k == 0) (k + 1 == s.data.toList.length) ch = (ch == 37 || x.forbid.data.toList.contains ch || ((k == 0) && (x.head.data.toList.contains ch || named)) || ((k + 1 == s.data.toList.length) && x.tail.data.toList.contains ch)) := rfl
      have hstep := Wh.encTo_step (x := x) (named := named) Hcl.out
      have hin := fun l W hc => encoded1_any l ch wr.heap.size W hc
      have hHead := fun W hc => encoded1_any x.head ch wr.heap.size W hc
      have hTail := fun W hc => encoded1_any x.tail ch wr.heap.size W hc
      have hForb := fun W hc => encoded1_any x.forbid ch wr.heap.size W hc
      generalize x.head.data.toList.contains ch = bh at *
      generalize x.tail.data.toList.contains ch = bt at *
      generalize x.forbid.data.toList.contains ch = bf at *
      have hlen : s.data.toList.length = s.size := (Lib.size_eq s).symm
      rw [hlen] at hesc hstep
      have HHead := Lib.hid hHead
      have HTail := Lib.hid hTail
      have HForb := Lib.hid hForb
      have HStep := Lib.hid hstep
      have HEsc := Lib.hid hesc
      clear hHead hTail hForb hesc hstep hlen hin
      have hwz := HW.out.below.size
      have hol : out.length ≤ 3145728 := by
        have := Wh.encTo_length x named s.data.toList k
        rw [← HO.out, ← Lib.size_eq] at this
        omega
      go_upto_region 9 with fail
      have hcz : (wr.alloc (.cells #[.int .u8 (ch.toNat : Int)] 5)).cell? ⟨wr.heap.size, 0, none⟩ = some (.int .u8 (ch.toNat : Int)) := by rw [World.cell?_alloc_at _ _ _ _ rfl]; rfl
      have hbz : Below wr.heap.size wr (wr.alloc (.cells #[.int .u8 (ch.toNat : Int)] 5)) := bAlloc (Below.refl _ _) _
      have HWz := Lib.hid (OwnB.under HW.out hbz)
      have HBz := Lib.hid (HBx.out.under hbz)
      have HLa := Lib.hid (fun ad ha => Nat.ne_of_lt (HW.out.at_lt ad ha))
      have hlz : wr.heap.size < (wr.alloc (.cells #[.int .u8 (ch.toNat : Int)] 5)).heap.size := by simp
      have HLz := Lib.hid hlz
      clear HW HBx hbz hlz hwz
      generalize wr.alloc (.cells #[.int .u8 (ch.toNat : Int)] 5) = wz at *
      generalize wr.heap.size = bx at *
      obtain ⟨k0, k1, k2, k3, k4, k5, k6⟩ := HBz.out
      clear k0 k4 k6
      have e37 := Wh.byte_is ch 37 37 rfl
      go_cut [28] (fun s28 wx => s28 = .bool (ch == 37 || bf || ((k == 0) && (bh || named)) || ((k + 1 == s.size) && bt)) ∧ wx = wz)
      case first =>
        cases c6 : (ch == 37)
        · rw [c6] at e37
          cases bf
          · by_cases c0 : k = 0
            · have c1 : ((k : Int) == 0) = true := by simp [c0]
              have c2 : (k == 0) = true := by simp [c0]
              clear c0
              cases named
              · cases bh
                · by_cases c3 : k + 1 = s.size
                  · have c4 : ((k : Int) == (s.size : Int) - 1) = true := by simp; omega
                    have c5 : (k + 1 == s.size) = true := by simp [c3]
                    clear c3
                    go_wp2_with (first | (go_at_call_of 107 (Value.string x.forbid); refine (HForb.out _ hcz).mono ?_; rintro e w' ⟨rfl, hw'⟩; subst w') | (go_at_call_of 107 (Value.string x.head); refine (HHead.out _ hcz).mono ?_; rintro e w' ⟨rfl, hw'⟩; subst w') | (go_at_call_of 107 (Value.string x.tail); refine (HTail.out _ hcz).mono ?_; rintro e w' ⟨rfl, hw'⟩; subst w'))
                    go_meet
                    exact ⟨by rw [c2, c5, c6]; simp, rfl⟩
                  · have c4 : ((k : Int) == (s.size : Int) - 1) = false := beq_eq_false_iff_ne.2 (by omega)
                    have c5 : (k + 1 == s.size) = false := by simpa using c3
                    clear c3
                    go_wp2_with (first | (go_at_call_of 107 (Value.string x.forbid); refine (HForb.out _ hcz).mono ?_; rintro e w' ⟨rfl, hw'⟩; subst w') | (go_at_call_of 107 (Value.string x.head); refine (HHead.out _ hcz).mono ?_; rintro e w' ⟨rfl, hw'⟩; subst w') | (go_at_call_of 107 (Value.string x.tail); refine (HTail.out _ hcz).mono ?_; rintro e w' ⟨rfl, hw'⟩; subst w'))
                    go_meet
                    exact ⟨by rw [c2, c5, c6]; simp, rfl⟩
                · go_wp2_with (first | (go_at_call_of 107 (Value.string x.forbid); refine (HForb.out _ hcz).mono ?_; rintro e w' ⟨rfl, hw'⟩; subst w') | (go_at_call_of 107 (Value.string x.head); refine (HHead.out _ hcz).mono ?_; rintro e w' ⟨rfl, hw'⟩; subst w') | (go_at_call_of 107 (Value.string x.tail); refine (HTail.out _ hcz).mono ?_; rintro e w' ⟨rfl, hw'⟩; subst w'))
                  go_meet
                  exact ⟨by rw [c2, c6]; simp, rfl⟩
              · go_wp2_with (first | (go_at_call_of 107 (Value.string x.forbid); refine (HForb.out _ hcz).mono ?_; rintro e w' ⟨rfl, hw'⟩; subst w') | (go_at_call_of 107 (Value.string x.head); refine (HHead.out _ hcz).mono ?_; rintro e w' ⟨rfl, hw'⟩; subst w') | (go_at_call_of 107 (Value.string x.tail); refine (HTail.out _ hcz).mono ?_; rintro e w' ⟨rfl, hw'⟩; subst w'))
                go_meet
                exact ⟨by rw [c2, c6]; simp, rfl⟩
            · have c1 : ((k : Int) == 0) = false := beq_eq_false_iff_ne.2 (by omega)
              have c2 : (k == 0) = false := by simpa using c0
              clear c0
              by_cases c3 : k + 1 = s.size
              · have c4 : ((k : Int) == (s.size : Int) - 1) = true := by simp; omega
                have c5 : (k + 1 == s.size) = true := by simp [c3]
                clear c3
                go_wp2_with (first | (go_at_call_of 107 (Value.string x.forbid); refine (HForb.out _ hcz).mono ?_; rintro e w' ⟨rfl, hw'⟩; subst w') | (go_at_call_of 107 (Value.string x.head); refine (HHead.out _ hcz).mono ?_; rintro e w' ⟨rfl, hw'⟩; subst w') | (go_at_call_of 107 (Value.string x.tail); refine (HTail.out _ hcz).mono ?_; rintro e w' ⟨rfl, hw'⟩; subst w'))
                go_meet
                exact ⟨by rw [c2, c5, c6]; simp, rfl⟩
              · have c4 : ((k : Int) == (s.size : Int) - 1) = false := beq_eq_false_iff_ne.2 (by omega)
                have c5 : (k + 1 == s.size) = false := by simpa using c3
                clear c3
                go_wp2_with (first | (go_at_call_of 107 (Value.string x.forbid); refine (HForb.out _ hcz).mono ?_; rintro e w' ⟨rfl, hw'⟩; subst w') | (go_at_call_of 107 (Value.string x.head); refine (HHead.out _ hcz).mono ?_; rintro e w' ⟨rfl, hw'⟩; subst w') | (go_at_call_of 107 (Value.string x.tail); refine (HTail.out _ hcz).mono ?_; rintro e w' ⟨rfl, hw'⟩; subst w'))
                go_meet
                exact ⟨by rw [c2, c5, c6]; simp, rfl⟩
          · go_wp2_with (first | (go_at_call_of 107 (Value.string x.forbid); refine (HForb.out _ hcz).mono ?_; rintro e w' ⟨rfl, hw'⟩; subst w') | (go_at_call_of 107 (Value.string x.head); refine (HHead.out _ hcz).mono ?_; rintro e w' ⟨rfl, hw'⟩; subst w') | (go_at_call_of 107 (Value.string x.tail); refine (HTail.out _ hcz).mono ?_; rintro e w' ⟨rfl, hw'⟩; subst w'))
            go_meet
            exact ⟨by rw [c6]; simp, rfl⟩
        · rw [c6] at e37
          go_wp2_with (first | (go_at_call_of 107 (Value.string x.forbid); refine (HForb.out _ hcz).mono ?_; rintro e w' ⟨rfl, hw'⟩; subst w') | (go_at_call_of 107 (Value.string x.head); refine (HHead.out _ hcz).mono ?_; rintro e w' ⟨rfl, hw'⟩; subst w') | (go_at_call_of 107 (Value.string x.tail); refine (HTail.out _ hcz).mono ?_; rintro e w' ⟨rfl, hw'⟩; subst w'))
          go_meet
          exact ⟨by rw [c6]; simp, rfl⟩
      case rest =>
        obtain ⟨rfl, rfl⟩ := hcut
        generalize hb3 : (ch == 37 || bf || ((k == 0) && (bh || named)) || ((k + 1 == s.size) && bt)) = b3 at *
        clear hb3 k1 k2 k3 k5
        obtain ⟨k0, k1, k2, k3, k4, k5, k6⟩ := HBz.out
        clear k0 k1 k2 k3 k4 k6
        cases b3
        · have hE : Wh.encB x named (k == 0) (k + 1 == s.size) ch = if Wh.markB x ch then [94, Wh.small ch] else [ch] := by
            unfold Wh.encB
            rw [if_neg (by rw [HEsc.out]; simp)]
          have hm : Wh.markB x ch = (x.cs && (ch == 94 || (decide (65 ≤ ch.toNat) && decide (ch.toNat ≤ 90)))) := rfl
          have e94 := Wh.byte_is ch 94 94 rfl
          have c00 : x.cs = false ∨ x.cs = true := by cases x.cs <;> simp
          have hl1 : out.length + 1 ≤ 140737488355328 := by omega
          have hl2 : out.length + 2 ≤ 140737488355328 := by omega
          rcases c00 with c0 | c0
          · rw [c0] at hm
            rw [hm] at hE
            have HO4 : Hid (out ++ [ch] = Wh.encTo x named s.data.toList (k + 1)) := Lib.hid (by rw [HStep.out, hE, ← HO.out]; rfl)
            rw [c0] at k5; replace c0 := Lib.hid c0
            clear hE hm
            go_wp2_with (at_builtin; refine wp_app1B HWz.out ch hl1 rfl (.tmp 24) (.tmp 26) rfl rfl rfl ?_)
            intro a2 cap2 w6 hO6
            have HO6 := Lib.hid hO6
            clear hO6
            go_wp2_with fail
            go_roundg g
            case measure => omega
            case rel => exact ⟨k + 1, out ++ [ch], a2, cap2, by omega, by go_num, by simp, HO6, HO4⟩
          · rw [c0] at hm
            rw [c0] at k5; replace c0 := Lib.hid c0
            cases c1 : (ch == 94)
            · rw [c1] at e94 hm
              by_cases c2 : 65 ≤ ch.toNat
              · by_cases c3 : ch.toNat ≤ 90
                · have hmk : Wh.markB x ch = true := by rw [hm]; simp [c2, c3]
                  have hsm : (ch.toNat : Int) + 32 = ((Wh.small ch).toNat : Int) := by
                    rw [Wh.small_nat, if_pos ⟨c2, c3⟩]
                    omega
                  rw [hmk] at hE
                  have HO4 : Hid (out ++ [94, Wh.small ch] = Wh.encTo x named s.data.toList (k + 1)) := Lib.hid (by rw [HStep.out, hE, ← HO.out]; rfl)
                  clear hE hm hmk
                  have hv : [Value.int .u8 94, Value.int .u8 ((Wh.small ch).toNat : Int)] = [94, Wh.small ch].map vb := rfl
                  have HV := Lib.hid hv
                  clear hv
                  generalize Wh.small ch = cs at *
                  go_wp2_with (at_builtin; refine wp_appV HWz.out [94, cs] [Value.int .u8 94, Value.int .u8 (cs.toNat : Int)] HV.out 2 rfl (Nat.succ_pos _) hl2 rfl (.tmp 93) (.tmp 96) rfl rfl rfl ?_)
                  intro a2 cap2 w6 hO6
                  have HO6 := Lib.hid hO6
                  clear hO6 hsm
                  go_wp2_with fail
                  go_roundg g
                  case measure => omega
                  case rel => exact ⟨k + 1, out ++ [94, cs], a2, cap2, by omega, by go_num, by simp, HO6, HO4⟩
                · have hmk : Wh.markB x ch = false := by rw [hm]; simp [c3]
                  rw [hmk] at hE
                  have HO4 : Hid (out ++ [ch] = Wh.encTo x named s.data.toList (k + 1)) := Lib.hid (by rw [HStep.out, hE, ← HO.out]; rfl)
                  clear hE hm hmk
                  go_wp2_with (at_builtin; refine wp_app1B HWz.out ch hl1 rfl (.tmp 24) (.tmp 26) rfl rfl rfl ?_)
                  intro a2 cap2 w6 hO6
                  have HO6 := Lib.hid hO6
                  clear hO6
                  go_wp2_with fail
                  go_roundg g
                  case measure => omega
                  case rel => exact ⟨k + 1, out ++ [ch], a2, cap2, by omega, by go_num, by simp, HO6, HO4⟩
              · have hmk : Wh.markB x ch = false := by rw [hm]; simp [c2]
                rw [hmk] at hE
                have HO4 : Hid (out ++ [ch] = Wh.encTo x named s.data.toList (k + 1)) := Lib.hid (by rw [HStep.out, hE, ← HO.out]; rfl)
                clear hE hm hmk
                go_wp2_with (at_builtin; refine wp_app1B HWz.out ch hl1 rfl (.tmp 24) (.tmp 26) rfl rfl rfl ?_)
                intro a2 cap2 w6 hO6
                have HO6 := Lib.hid hO6
                clear hO6
                go_wp2_with fail
                go_roundg g
                case measure => omega
                case rel => exact ⟨k + 1, out ++ [ch], a2, cap2, by omega, by go_num, by simp, HO6, HO4⟩
            · rw [c1] at e94 hm
              have hmk : Wh.markB x ch = true := by rw [hm]; simp
              have hch2 : ch = 94 := beq_iff_eq.1 c1
              rw [hmk, hch2, show Wh.small 94 = 94 by decide] at hE
              have HO4 : Hid (out ++ [94, 94] = Wh.encTo x named s.data.toList (k + 1)) := Lib.hid (by rw [HStep.out, hch2, hE, ← HO.out]; rfl)
              clear hE hm hmk hch2
              have hv : [Value.int .u8 94, Value.int .u8 94] = [94, 94].map vb := rfl
              have HV := Lib.hid hv
              clear hv
              go_wp2_with (at_builtin; refine wp_appV HWz.out [94, 94] [Value.int .u8 94, Value.int .u8 94] HV.out 2 rfl (Nat.succ_pos _) hl2 rfl (.tmp 79) (.tmp 80) rfl rfl rfl ?_)
              intro a2 cap2 w6 hO6
              have HO6 := Lib.hid hO6
              clear hO6
              go_wp2_with fail
              go_roundg g
              case measure => omega
              case rel => exact ⟨k + 1, out ++ [94, 94], a2, cap2, by omega, by go_num, by simp, HO6, HO4⟩
        · have hE : Wh.encB x named (k == 0) (k + 1 == s.size) ch = [37, Wh.hexd (ch.toNat / 16), Wh.hexd (ch.toNat % 16)] := by
            unfold Wh.encB
            rw [if_pos (by rw [HEsc.out])]
          have HE := Lib.hid hE
          clear hE
          go_wp2_with fail
          have q1 : (ch.toNat : Int) / 16 = ((ch.toNat / 16 : Nat) : Int) := by omega
          have q2 := and15 ch
          have q3 : ch.toNat / 16 < 16 := by omega
          have q4 : ch.toNat % 16 < 16 := by omega
          have q5 := hexd_get _ q3
          have q6 := hexd_get _ q4
          generalize ch.toNat / 16 = d1 at *
          generalize ch.toNat % 16 = d2 at *
          generalize Wh.hexd d1 = y1 at *
          generalize Wh.hexd d2 = y2 at *
          have q7 : (d1 : Int) < 16 := by omega
          have q8 : (d2 : Int) < 16 := by omega
          have hl3 : out.length + 3 ≤ 140737488355328 := by omega
          have hv : [Value.int .u8 37, Value.int .u8 (y1.toNat : Int), Value.int .u8 (y2.toNat : Int)] = [37, y1, y2].map vb := rfl
          have HV := Lib.hid hv
          clear hv
          go_region_held3 (fun w' => w'.cell? ⟨bx, 0, none⟩ = some (.int .u8 (ch.toNat : Int)))
            (first | go_keep | exact (hfar ⟨bx, 0, none⟩ HLz.out HLa.out).trans hcz)
            ((refine step_appV2 HWz.out [37, y1, y2] [Value.int .u8 37, Value.int .u8 (y1.toNat : Int), Value.int .u8 (y2.toNat : Int)] HV.out 3 (by rfl) (Nat.succ_pos _) hl3 (by rfl) (.tmp 63) (.tmp 70) (by rfl) (by rfl) (by rfl) ?_; intro a2 cap2 w4 hO4 hfar))
          all_goals
            have HO4 : Hid (out ++ [37, y1, y2] = Wh.encTo x named s.data.toList (k + 1)) := Lib.hid (by rw [HStep.out, HE.out, ← HO.out])
            have HO6 := Lib.hid hO4
            clear hO4 hfar
            go_wp2_with fail
            go_roundg g
            case measure => omega
            case rel => exact ⟨k + 1, out ++ [37, y1, y2], a2, cap2, by omega, by go_num, by simp, HO6, HO4⟩
    · have hco := convB HW.out
      have HF : Hid (out = Wh.encName x s.data.toList) := Lib.hid (HO.out.trans (hend.out k (by rw [← Lib.size_eq]; omega)))
      go_wp2_with fail
      go_ret
      rw [HF.out]
      exact ⟨rfl, bTrans hb2 HW.out.below⟩
end Go.Proofs.YtbcadgooelcnhaaDoor
