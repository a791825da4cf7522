/-
  The reference's ParseSize.
-/
import Derived.Test.YtjfnkkpmmebnfaaDoorSize3
import Derived.Test.YtjfnkkpmmebnfaaDoorPlainSize2
namespace Go.Proofs.YtjfnkkpmmebnfaaDoor
open Go.RowKit

theorem unit_index (c : UInt8) : Lib.indexByte [98, 107, 77, 71, 84] c = match Wh.unitIdx c with | some i => (i : Int) | none => -1 := by
  have h : ∀ n : Fin 256, Lib.indexByte [98, 107, 77, 71, 84] (UInt8.ofNat n.1) = match Wh.unitIdx (UInt8.ofNat n.1) with | some i => (i : Int) | none => -1 := by decide +kernel
  have := h ⟨c.toNat, c.toNat_lt⟩
  simpa using this

theorem unit_index_none {c : UInt8} (h : Wh.unitIdx c = none) : Lib.indexByte [98, 107, 77, 71, 84] c = -1 := by rw [unit_index, h]
theorem unit_index_some {c : UInt8} {i : Nat} (h : Wh.unitIdx c = some i) : Lib.indexByte [98, 107, 77, 71, 84] c = i := by rw [unit_index, h]

theorem sizeFin_big {d fr : List UInt8} {u : Nat} (h : Wh.most < Wh.dval d * u + Wh.fracP fr u) : Wh.sizeFin d fr u = (0, 7) := by unfold Wh.sizeFin; rw [if_neg (Nat.not_le.2 h)]
theorem sizeFin_fits {d fr : List UInt8} {u : Nat} (h : Wh.dval d * u + Wh.fracP fr u ≤ Wh.most) : Wh.sizeFin d fr u = (((Wh.dval d * u + Wh.fracP fr u : Nat) : Int), 0) := by unfold Wh.sizeFin; rw [if_pos h]

theorem isEmpty_mk (l : List UInt8) : (⟨l.toArray⟩ : ByteArray).toList.isEmpty = l.isEmpty := by rw [Lib.toList_data]

set_option maxHeartbeats 8000000 in
set_option maxRecDepth 100000 in
theorem refParseSize_any (s : ByteArray) (w : World) (hE : EnvE w) (hs : s.size ≤ 140737488355328) : Calls Tryd.prog 41 #[.string s] w (SizePost s.data.toList w) := by
  have HE := Lib.hid hE
  have HSz := Lib.hid (Lib.size_eq s)
  clear hE
  go_enter Tryd.func41, Tryd.ntmps41
  go_upto_if 17 with fail
  go_cut [0, 4] (fun s0 s4 wx => ∃ (t : ByteArray) (i : Nat), s0 = .string t ∧ s4 = .int .i64 i ∧ i ≤ 4 ∧ t.size ≤ s.size ∧ Below w.heap.size w wx ∧ Hid (Wh.parseSz s.data.toList = Wh.core t.data.toList (1024 ^ i)))
  case first =>
    by_cases h0 : s.size = 0
    · have HK : Hid (Wh.parseSz s.data.toList = Wh.core s.data.toList (1024 ^ 0)) := Lib.hid (Wh.parseSz_bare (fun c hc => by
        have : s.data.toList = [] := List.eq_nil_of_length_eq_zero (by rw [← HSz.out]; exact h0)
        rw [this] at hc
        simp at hc))
      go_wp2_with fail
      go_meet
      exact ⟨s, 0, rfl, rfl, by omega, Nat.le_refl _, Below.refl _ _, HK⟩
    · obtain ⟨m, hm⟩ : ∃ m, s.size = m + 1 := ⟨s.size - 1, by omega⟩
      have hlt : m < s.size := by omega
      obtain ⟨x, hx⟩ : ∃ x : UInt8, s[m]'hlt = x := ⟨_, rfl⟩
      have hxl : s.data.toList[m]? = some x := by rw [← hx]; exact Lib.data_getElem? s m hlt
      have hsp : s.data.toList = s.data.toList.take m ++ [x] := by
        have h1 := List.take_add_one (l := s.data.toList) (i := m)
        rw [hxl, Option.toList_some, List.take_of_length_le (by rw [← HSz.out]; omega)] at h1
        exact h1
      have hlast : s.data.toList.getLast? = some x := by rw [hsp]; simp
      have hx8 := x.toNat_lt
      have hback : ((x.toNat : Int)).toNat.toUInt8 = x := by simp
      have hB := fun W => Tryd.strings_IndexByte ⟨#[98, 107, 77, 71, 84]⟩ x.toNat W
      rw [hback] at hB
      have hset : (⟨#[98, 107, 77, 71, 84]⟩ : ByteArray).data.toList = [98, 107, 77, 71, 84] := rfl
      rw [hset] at hB
      have hm1 : (s.size : Int) - 1 = (m : Int) := by omega
      have hm0 : (0 : Int) ≤ (m : Int) := by omega
      have hm2 : (m : Int) ≤ (s.size : Int) := by omega
      have hmw : IntKind.i64.wrap ((s.size : Int) - 1) = (m : Int) := by rw [hm1]; exact IntWalk.i64_in _ (by omega)
      have hpos : 0 < s.size := by omega
      cases hu : Wh.unitIdx x with
      | none =>
        rw [unit_index_none hu] at hB
        have HB := Lib.hid hB
        have HK : Hid (Wh.parseSz s.data.toList = Wh.core s.data.toList (1024 ^ 0)) := Lib.hid (Wh.parseSz_bare (fun c hc => by rw [hlast] at hc; cases hc; exact hu))
        clear hB hset hback hlast hsp hxl hm h0 hu
        go_wp2_with (go_at_call 48; refine (HB.out _).mono ?_; rintro e w' ⟨rfl, hw'⟩; subst w')
        go_meet
        exact ⟨s, 0, rfl, rfl, by omega, Nat.le_refl _, Below.refl _ _, HK⟩
      | some i =>
        rw [unit_index_some hu] at hB
        have HB := Lib.hid hB
        have hi4 := (Wh.unitIdx_digit hu).2.2
        have HK : Hid (Wh.parseSz s.data.toList = Wh.core (s.extract 0 m).data.toList (1024 ^ i)) := Lib.hid (by
          have h2 := Wh.parseSz_unit (t := s.data.toList.take m) hu
          rw [← hsp] at h2
          rw [h2]
          congr 1
          simp)
        have hel : (s.extract 0 m).size ≤ s.size := by simp; omega
        clear hB hset hback hlast hsp hxl hm h0 hu
        go_wp2_with (go_at_call 48; refine (HB.out _).mono ?_; rintro e w' ⟨rfl, hw'⟩; subst w')
        go_quiet (fail)
        go_wp2_with fail
        go_meet
        exact ⟨_, i, rfl, rfl, hi4, hel, bDrewN (Below.refl _ _) _, HK⟩
  case rest =>
    obtain ⟨t, i, rfl, rfl, hi, htl, hbc, HK⟩ := hcut
    have HCut := Lib.hid (fun W => cut_dot t W (by omega))
    go_upto_region 8 with (go_at_call 95; refine (HCut.out _).mono ?_; rintro e w2 ⟨a, b, rfl, ha, hb, hb2⟩)
    have hbw := bTrans hbc hb2
    have hal : a.size ≤ s.size := by
      rw [Lib.size_eq, ha]
      refine Nat.le_trans (List.takeWhile_sublist _).length_le ?_
      rw [← Lib.size_eq]
      exact htl
    have hbl : b.size ≤ s.size := by
      rw [Lib.size_eq, hb]
      refine Nat.le_trans (List.drop_sublist _ _).length_le (Nat.le_trans (List.dropWhile_sublist _).length_le ?_)
      rw [← Lib.size_eq]
      exact htl
    have HRb : Hid (Wh.refBad t.data.toList = (a.data.toList.isEmpty || !a.data.toList.all Wh.digit || (decide (1 < a.data.toList.length) && a.data.toList.head? == some 48) || (Wh.hasDot t.data.toList && (b.data.toList.isEmpty || !b.data.toList.all Wh.digit)))) := Lib.hid (by rw [ha, hb]; rfl)
    have HB0 : Hid (Wh.hasDot t.data.toList = false → b.data.toList = []) := Lib.hid (fun h => by
      rw [hb, Wh.dropWhile_nil.2 (fun x hx => ?_)]
      · rfl
      · rw [bne_iff_ne]
        rintro rfl
        rw [Wh.hasDot, Bool.eq_false_iff] at h
        exact h (by simpa using hx))
    have HKr : Hid (Wh.parseSz s.data.toList = if Wh.refBad t.data.toList then (0, 9) else Wh.sizeFin a.data.toList b.data.toList (1024 ^ i)) := Lib.hid (by rw [HK.out, Wh.core_ref, ha, hb])
    clear ha hb hbc hb2 HK HCut
    generalize Wh.refBad t.data.toList = RB at *
    generalize Wh.hasDot t.data.toList = HD at *
    go_cut [64] (fun s64 wx => s64 = .bool RB ∧ Below w.heap.size w wx)
    case first =>
      have HTa := Lib.hid (fun W => trim_digits a W (by omega))
      have HTb := Lib.hid (fun W => trim_digits b W (by omega))
      have qTa : (⟨(Lib.trimS a.data.toList digitSet).toArray⟩ : ByteArray).toList.isEmpty = a.data.toList.all Wh.digit := by rw [isEmpty_mk]; exact trimS_digits _
      have qTb : (⟨(Lib.trimS b.data.toList digitSet).toArray⟩ : ByteArray).toList.isEmpty = b.data.toList.all Wh.digit := by rw [isEmpty_mk]; exact trimS_digits _
      generalize (⟨(Lib.trimS a.data.toList digitSet).toArray⟩ : ByteArray) = TA at *
      generalize (⟨(Lib.trimS b.data.toList digitSet).toArray⟩ : ByteArray) = TB at *
      have HLa := Lib.hid (Lib.size_eq a)
      have qa := toList_isEmpty a
      have qb := toList_isEmpty b
      by_cases ha0 : a.size = 0
      · have q1 : a.toList.isEmpty = true := by rw [qa]; simpa using ha0
        have q2 : a.toList = [] := List.isEmpty_iff.1 q1
        have HRv : Hid (RB = true) := Lib.hid (by
          rw [HRb.out]
          have : a.data.toList.isEmpty = true := by rw [← Lib.toList_data]; exact q1
          rw [this]
          rfl)
        clear qa qb qTa qTb ha0
        go_wp2_with fail
        go_meet
        exact ⟨by rw [HRv.out], hbw⟩
      have q1 : a.toList.isEmpty = false := by rw [qa]; simpa using ha0
      have e1 : a.data.toList.isEmpty = false := by rw [← Lib.toList_data]; exact q1
      have hap : 0 < a.size := by omega
      have hhd := head_at hap
      rw [e1, hhd, ← HLa.out] at HRb
      cases had : a.data.toList.all Wh.digit
      · rw [had] at qTa HRb
        have HRv : Hid (RB = true) := Lib.hid (by rw [HRb.out]; rfl)
        clear qa qb qTb ha0 had hhd e1
        go_wp2_with (go_at_call 96; refine (HTa.out _).mono ?_; rintro e w3 ⟨rfl, hb3⟩)
        go_meet
        exact ⟨by rw [HRv.out], bTrans hbw hb3⟩
      rw [had] at qTa HRb
      have qTa2 : TA.toList = [] := List.isEmpty_iff.1 qTa
      have e48 := Wh.byte_is (a[0]'hap) 48 48 rfl
      have hor : (1 < a.size ∧ (((a[0]'hap).toNat : Int) == 48) = true) ∨ (a.size ≤ 1 ∨ (1 < a.size ∧ (((a[0]'hap).toNat : Int) == 48) = false)) := by
        rcases Nat.lt_or_ge 1 a.size with h1 | h1
        · cases hq : (((a[0]'hap).toNat : Int) == 48)
          · exact .inr (.inr ⟨h1, rfl⟩)
          · exact .inl ⟨h1, rfl⟩
        · exact .inr (.inl h1)
      rcases hor with ⟨h1, h48⟩ | hor
      · have HRv : Hid (RB = true) := Lib.hid (by
          rw [HRb.out]
          rw [e48] at h48
          simp at h48
          simp [h1, h48])
        clear qa qb qTb ha0 had hhd e1 e48
        go_wp2_with (go_at_call 96; refine (HTa.out _).mono ?_; rintro e w3 ⟨rfl, hb3⟩)
        go_meet
        exact ⟨by rw [HRv.out], bTrans hbw hb3⟩
      have HRc : Hid (RB = (HD && (b.data.toList.isEmpty || !b.data.toList.all Wh.digit))) := Lib.hid (by
        rw [HRb.out]
        rcases hor with h1 | ⟨h1, h48⟩
        · simp [Nat.not_lt.2 h1]
        · rw [e48] at h48
          simp at h48
          simp [h48])
      clear HRb e48 hhd had ha0 qa e1
      cases HD
      · have HRv : Hid (RB = false) := Lib.hid (by rw [HRc.out]; rfl)
        clear qb qTb
        rcases hor with h1 | ⟨h1, h48⟩
        all_goals
          go_wp2_with (go_at_call 96; refine (HTa.out _).mono ?_; rintro e w3 ⟨rfl, hb3⟩)
          go_meet
          exact ⟨by rw [HRv.out], bTrans hbw hb3⟩
      · by_cases hb0 : b.size = 0
        · have p1 : b.toList.isEmpty = true := by rw [qb]; simpa using hb0
          have p2 : b.toList = [] := List.isEmpty_iff.1 p1
          have HRv : Hid (RB = true) := Lib.hid (by
            rw [HRc.out]
            have : b.data.toList.isEmpty = true := by rw [← Lib.toList_data]; exact p1
            rw [this]
            rfl)
          clear qb qTb hb0
          rcases hor with h1 | ⟨h1, h48⟩
          all_goals
            go_wp2_with (go_at_call 96; refine (HTa.out _).mono ?_; rintro e w3 ⟨rfl, hb3⟩)
            go_meet
            exact ⟨by rw [HRv.out], bTrans hbw hb3⟩
        · have p1 : b.toList.isEmpty = false := by rw [qb]; simpa using hb0
          have p3 : b.data.toList.isEmpty = false := by rw [← Lib.toList_data]; exact p1
          rw [p3] at HRc
          clear qb hb0 p3
          cases hbd : b.data.toList.all Wh.digit
          · rw [hbd] at qTb HRc
            have HRv : Hid (RB = true) := Lib.hid (by rw [HRc.out]; rfl)
            clear hbd
            rcases hor with h1 | ⟨h1, h48⟩
            all_goals
              go_wp2_with (first | (go_at_call_of 96 (Value.string a); refine (HTa.out _).mono ?_; rintro e w3 ⟨rfl, hb3⟩) | (go_at_call_of 96 (Value.string b); refine (HTb.out _).mono ?_; rintro e w4 ⟨rfl, hb4⟩))
              go_meet
              exact ⟨by rw [HRv.out], bTrans (bTrans hbw hb3) hb4⟩
          · rw [hbd] at qTb HRc
            have qTb2 : TB.toList = [] := List.isEmpty_iff.1 qTb
            have HRv : Hid (RB = false) := Lib.hid (by rw [HRc.out]; rfl)
            clear hbd
            rcases hor with h1 | ⟨h1, h48⟩
            all_goals
              go_wp2_with (first | (go_at_call_of 96 (Value.string a); refine (HTa.out _).mono ?_; rintro e w3 ⟨rfl, hb3⟩) | (go_at_call_of 96 (Value.string b); refine (HTb.out _).mono ?_; rintro e w4 ⟨rfl, hb4⟩))
              go_meet
              exact ⟨by rw [HRv.out], bTrans (bTrans hbw hb3) hb4⟩
    case rest =>
      obtain ⟨rfl, hbx⟩ := hcut
      cases RB
      case true =>
        have HK2 : Hid (Wh.parseSz s.data.toList = (0, 9)) := Lib.hid (by rw [HKr.out]; rfl)
        go_wp2_with fail
        go_ret2
        exact sizePost_of HK2.out hbx
      case false =>
        have HK2 : Hid (Wh.parseSz s.data.toList = Wh.sizeFin a.data.toList b.data.toList (1024 ^ i)) := Lib.hid (by rw [HKr.out]; rfl)
        have HG := HRb.out
        have hga : a.data.toList.isEmpty = false ∧ a.data.toList.all Wh.digit = true := by
          cases h1 : a.data.toList.isEmpty
          · cases h2 : a.data.toList.all Wh.digit
            · rw [h1, h2] at HG; simp at HG
            · exact ⟨rfl, rfl⟩
          · rw [h1] at HG; simp at HG
        have ha0 : ¬ a.size = 0 := by
          intro h0
          have h1 := hga.1
          rw [← Lib.toList_data, toList_isEmpty] at h1
          exact of_decide_eq_false h1 h0
        have hgb : b.data.toList.all Wh.digit = true := by
          cases HD
          · rw [HB0.out rfl]; rfl
          · cases h2 : b.data.toList.all Wh.digit
            · rw [h2] at HG; simp at HG
            · rfl
        have HU1 := Lib.hid (fun W h => parseUint63_ok a W ha0 (by omega) hga.2 h)
        have HU2 := Lib.hid (fun W hb h => parseUint63_big a W (HE.out.under hb) ha0 (by omega) hga.2 h)
        have HFr := Lib.hid (fun u W hu => fraction_any b u W (by omega) hgb hu)
        have HFl := Lib.hid (fun u => Wh.fracP_le u b.data.toList hgb)
        have HS1 := Lib.hid (fun u => @sizeFin_big a.data.toList b.data.toList u)
        have HS2 := Lib.hid (fun u => @sizeFin_fits a.data.toList b.data.toList u)
        clear HG hga ha0 hgb HRb HB0 HKr
        generalize Wh.dval a.data.toList = n at *
        rcases (by omega : i = 0 ∨ i = 1 ∨ i = 2 ∨ i = 3 ∨ i = 4) with rfl | rfl | rfl | rfl | rfl
        case' inl =>
          replace HK2 : Hid (Wh.parseSz s.data.toList = Wh.sizeFin a.data.toList b.data.toList 1) := HK2
          replace HS1 := Lib.hid (HS1.out 1)
          replace HS2 := Lib.hid (HS2.out 1)
          replace HFr := Lib.hid (fun W => HFr.out 1 W (by omega))
          have hfl := HFl.out 1
          obtain ⟨F, hFe⟩ : ∃ F : Nat, F = 1 := ⟨_, rfl⟩
        case' inr.inl =>
          replace HK2 : Hid (Wh.parseSz s.data.toList = Wh.sizeFin a.data.toList b.data.toList 1024) := HK2
          replace HS1 := Lib.hid (HS1.out 1024)
          replace HS2 := Lib.hid (HS2.out 1024)
          replace HFr := Lib.hid (fun W => HFr.out 1024 W (by omega))
          have hfl := HFl.out 1024
          obtain ⟨F, hFe⟩ : ∃ F : Nat, F = 1024 := ⟨_, rfl⟩
        case' inr.inr.inl =>
          replace HK2 : Hid (Wh.parseSz s.data.toList = Wh.sizeFin a.data.toList b.data.toList 1048576) := HK2
          replace HS1 := Lib.hid (HS1.out 1048576)
          replace HS2 := Lib.hid (HS2.out 1048576)
          replace HFr := Lib.hid (fun W => HFr.out 1048576 W (by omega))
          have hfl := HFl.out 1048576
          obtain ⟨F, hFe⟩ : ∃ F : Nat, F = 1048576 := ⟨_, rfl⟩
        case' inr.inr.inr.inl =>
          replace HK2 : Hid (Wh.parseSz s.data.toList = Wh.sizeFin a.data.toList b.data.toList 1073741824) := HK2
          replace HS1 := Lib.hid (HS1.out 1073741824)
          replace HS2 := Lib.hid (HS2.out 1073741824)
          replace HFr := Lib.hid (fun W => HFr.out 1073741824 W (by omega))
          have hfl := HFl.out 1073741824
          obtain ⟨F, hFe⟩ : ∃ F : Nat, F = 1073741824 := ⟨_, rfl⟩
        case' inr.inr.inr.inr =>
          replace HK2 : Hid (Wh.parseSz s.data.toList = Wh.sizeFin a.data.toList b.data.toList 1099511627776) := HK2
          replace HS1 := Lib.hid (HS1.out 1099511627776)
          replace HS2 := Lib.hid (HS2.out 1099511627776)
          replace HFr := Lib.hid (fun W => HFr.out 1099511627776 W (by omega))
          have hfl := HFl.out 1099511627776
          obtain ⟨F, hFe⟩ : ∃ F : Nat, F = 1099511627776 := ⟨_, rfl⟩
        all_goals
          clear HFl
          generalize Wh.fracP b.data.toList _ = p at *
          by_cases hn : n < 9223372036854775808
          · by_cases hq1 : 4611686018427387904 < n * F
            · rw [hFe] at hq1
              clear hFe F
              have HK3 : Hid (Wh.parseSz s.data.toList = (0, 7)) := Lib.hid (by rw [HK2.out]; exact HS1.out (Nat.lt_of_lt_of_le hq1 (Nat.le_add_right _ _)))
              clear HS1 HS2
              go_wp2_with (go_at_call 93; refine (HU1.out _ hn).mono ?_; rintro e w5 ⟨rfl, hb5⟩)
              go_ret2
              exact sizePost_of HK3.out (bTrans hbx hb5)
            · by_cases hq2 : 4611686018427387904 < n * F + p
              · rw [hFe] at hq1 hq2
                have HK3 : Hid (Wh.parseSz s.data.toList = (0, 7)) := Lib.hid (by rw [HK2.out]; exact HS1.out hq2)
                replace HU1 := Lib.hid (fun W => HU1.out W hn)
                obtain ⟨N, hN⟩ : ∃ N : Int, N = (n : Int) := ⟨_, rfl⟩
                obtain ⟨Z, hZ⟩ : ∃ Z : Int, Z = (p : Int) := ⟨_, rfl⟩
                rw [← hN] at HU1
                rw [← hZ] at HFr
                have b1 : 0 ≤ N := by omega
                have b2 : 0 ≤ Z := by omega
                have b3 : Z ≤ 1099511627776 := by omega
                have HNZ := Lib.hid (And.intro hN hZ)
                have b4 : N * (F : Int) ≤ 4611686018427387904 := by rw [hFe]; omega
                have b5 : 4611686018427387904 < N * (F : Int) + Z := by rw [hFe]; omega
                rw [hFe] at b4 b5
                clear HS1 HS2 hN hZ hq1 hq2 hn hfl hFe F
                go_wp2_with (first | (go_at_call 93; refine (HU1.out _).mono ?_; rintro e w5 ⟨rfl, hb5⟩) | (go_at_call 97; refine (HFr.out _).mono ?_; rintro e w6 ⟨rfl, hw6⟩; subst w6))
                go_ret2
                exact sizePost_of HK3.out (bTrans hbx hb5)
              · rw [hFe] at hq1 hq2
                have HK3 := Lib.hid (HK2.out.trans (HS2.out (Nat.not_lt.1 hq2)))
                replace HU1 := Lib.hid (fun W => HU1.out W hn)
                obtain ⟨N, hN⟩ : ∃ N : Int, N = (n : Int) := ⟨_, rfl⟩
                obtain ⟨Z, hZ⟩ : ∃ Z : Int, Z = (p : Int) := ⟨_, rfl⟩
                rw [← hN] at HU1
                rw [← hZ] at HFr
                have b1 : 0 ≤ N := by omega
                have b2 : 0 ≤ Z := by omega
                have b3 : Z ≤ 1099511627776 := by omega
                have HNZ := Lib.hid (And.intro hN hZ)
                have b4 : N * (F : Int) ≤ 4611686018427387904 := by rw [hFe]; omega
                have b5 : N * (F : Int) + Z ≤ 4611686018427387904 := by rw [hFe]; omega
                rw [hFe] at b4 b5
                clear HS1 HS2 HK2 hN hZ hq1 hq2 hn hfl hFe F
                go_wp2_with (first | (go_at_call 93; refine (HU1.out _).mono ?_; rintro e w5 ⟨rfl, hb5⟩) | (go_at_call 97; refine (HFr.out _).mono ?_; rintro e w6 ⟨rfl, hw6⟩; subst w6))
                go_ret2
                refine sizePost_of ?_ (bTrans hbx hb5)
                rw [HK3.out, HNZ.out.1, HNZ.out.2]
                congr 1 <;> omega
          · have HK3 : Hid (Wh.parseSz s.data.toList = (0, 7)) := Lib.hid (by rw [HK2.out]; refine HS1.out ?_; show 4611686018427387904 < _; omega)
            clear HS1 HS2
            go_wp2_with (go_at_call 93; refine (HU2.out _ hbx hn).mono ?_; rintro e w5 ⟨ad, rfl, hb5⟩)
            go_ret2
            exact sizePost_of HK3.out (bTrans hbx hb5)
end Go.Proofs.YtjfnkkpmmebnfaaDoor
