/-
  wherryref1.quotedLast, showGlob.
-/
import Derived.Test.YtnpcbcnclncniaaGreatDoorGlobR2
namespace Go.Proofs.YtnpcbcnclncniaaGreatDoor
open Go.RowKit

theorem oddB_rep (m : Nat) : ∀ b, oddB b (List.replicate m 92) = if m % 2 = 1 then !b else b := by
  induction m with
  | zero => intro b; rfl
  | succ m ih =>
    intro b
    show oddB (92 == 92 && !b) (List.replicate m 92) = _
    rw [ih]
    rcases (by omega : m % 2 = 0 ∨ m % 2 = 1) with h | h
    · rw [if_neg (by omega), if_pos (by omega)]
      simp
    · rw [if_pos h, if_neg (by omega)]
      simp
theorem oddB_tail (a : List UInt8) (m : Nat) (h : oddB false a = false) : oddB false (a ++ List.replicate m 92) = ((m : Int) % 2 == 1) := by
  rw [oddB_append, h, oddB_rep]
  rcases (by omega : m % 2 = 0 ∨ m % 2 = 1) with h | h
  · rw [if_neg (by omega)]
    have : (m : Int) % 2 = 0 := by omega
    rw [this]
    rfl
  · rw [if_pos h]
    have : (m : Int) % 2 = 1 := by omega
    rw [this]
    rfl

set_option maxHeartbeats 2000000 in
set_option maxRecDepth 100000 in
theorem quotedLast_any (s : ByteArray) (w : World) (h0 : 0 < s.size) (h1 : s.size ≤ 10000000) :
    Calls Tryz.prog 60 #[.string s] w fun e w' => e = .returned (.bool (oddB false s.data.toList.dropLast)) ∧ w = w' := by
  obtain ⟨q, hq⟩ : ∃ q : Nat, s.size = q + 1 := ⟨s.size - 1, by omega⟩
  have hsl : s.data.toList.length = s.size := (Lib.size_eq s).symm
  have hql : s.data.toList.dropLast.length = q := by rw [List.length_dropLast]; omega
  have HGet : Hid (∀ (k : Nat) (hk : k < s.size), k < q → s.data.toList.dropLast[k]? = some s[k]) := Lib.hid (fun k hk hkq => by
    rw [List.getElem?_dropLast, if_pos (by omega)]
    exact Lib.data_getElem? s k hk)
  obtain ⟨l, hl⟩ : ∃ l, s.data.toList.dropLast = l := ⟨_, rfl⟩
  rw [hl] at hql HGet
  rw [hl]
  have HQ := Lib.hid hq
  have HL := Lib.hid hql
  have hi0 : (s.size : Int) - 2 = (q : Int) - 1 := by omega
  obtain ⟨i0, hi⟩ : ∃ i0 : Int, (s.size : Int) - 2 = i0 := ⟨_, rfl⟩
  have HI : Hid (i0 = (q : Int) - 1) := Lib.hid (by omega)
  have hqb : q ≤ 10000000 := by omega
  clear hq hql hsl hl hi0
  go_enter Tryz.func60, Tryz.ntmps60
  go_wp2_with fail
  go_loopg [3, 4] q (fun g s3 s4 wx => ∃ (m : Nat) (ii : Int), s3 = .int .i64 m ∧ s4 = .int .i64 ii ∧ m ≤ 10000000 ∧ g ≤ 10000000 ∧ Hid (ii = (g : Int) - 1) ∧ Hid (g + m = q) ∧ Hid (l = l.take g ++ List.replicate m 92) ∧ w = wx)
  case atStart => exact ⟨0, i0, rfl, rfl, by omega, hqb, HI, Lib.hid (by omega), Lib.hid (by rw [List.take_of_length_le (by rw [HL.out]; exact Nat.le_refl _)]; simp), rfl⟩
  case round =>
    clear HI hi
    obtain ⟨m, ii, rfl, rfl, hm, hg, HI, HM, HS, rfl⟩ := hrel
    by_cases h0 : gk = 0
    · subst h0
      obtain rfl : ii = -1 := by have := HI.out; omega
      have HR : Hid (oddB false l = ((m : Int) % 2 == 1)) := Lib.hid (by
        rw [HS.out]
        exact oddB_tail _ _ rfl)
      clear HS HI HM
      go_wp2_with fail
      go_ret
      exact ⟨ret_bool HR.out.symm, rfl⟩
    · obtain ⟨k, rfl⟩ : ∃ k, gk = k + 1 := ⟨gk - 1, by omega⟩
      obtain rfl : ii = (k : Int) := by have := HI.out; omega
      have hks : k < s.size := by have := HQ.out; have := HM.out; omega
      have hkq : k < q := by have := HM.out; omega
      obtain ⟨ch, hch⟩ : ∃ ch : UInt8, s[k]'hks = ch := ⟨_, rfl⟩
      have HCh : Hid (l[k]? = some ch) := Lib.hid (by rw [HGet.out k hks hkq, hch])
      have HTk : Hid (l.take (k + 1) = l.take k ++ [ch]) := Lib.hid (by rw [List.take_add_one, HCh.out]; rfl)
      by_cases h92 : ch = 92
      · have e92 : ((ch.toNat : Int) == 92) = true := by rw [h92]; rfl
        have HS2 : Hid (l = l.take k ++ List.replicate (m + 1) 92) := Lib.hid (by
          have := HS.out
          rw [HTk.out, h92] at this
          rw [List.replicate_succ]
          simpa using this)
        have hm1 : m + 1 ≤ 10000000 := by have := HM.out; omega
        clear HS h92 h0
        go_wp2_with fail
        go_roundg k
        case measure => omega
        case rel => exact ⟨m + 1, (k : Int) - 1, by go_num, by go_num, hm1, by omega, Lib.hid rfl, Lib.hid (by have := HM.out; omega), HS2, rfl⟩
      · have e92 : ((ch.toNat : Int) == 92) = false := by
          have : ch.toNat ≠ 92 := fun e => h92 (UInt8.toNat_inj.1 (by simpa using e))
          simp only [beq_eq_false_iff_ne, ne_eq]
          omega
        have HR : Hid (oddB false l = ((m : Int) % 2 == 1)) := Lib.hid (by
          rw [HS.out]
          refine oddB_tail _ _ ?_
          rw [HTk.out]
          exact oddB_last _ _ _ (by simpa using h92))
        clear HS h92 h0
        go_wp2_with fail
        go_ret
        exact ⟨ret_bool HR.out.symm, rfl⟩

set_option maxHeartbeats 4000000 in
set_option maxRecDepth 100000 in
theorem showGlob_any (n : Nat) (s : Sl (P (n + 1))) (rooted dirs : Bool) (w : World) (hs : SOk w (n + 1) s) (hg : Good (n + 1) s.xs) (hz : szL (n + 1) s.xs ≤ 1048576) :
    Calls Tryz.prog 22 #[globVal rooted dirs s] w fun e w' => e = .returned (.string ⟨(gtxtR rooted dirs (n + 1) s.xs).toArray⟩) ∧ Below w.heap.size w w' := by
  have hTl := txt_len (n + 1) false s.xs
  have hb1 : Below w.heap.size w (w.alloc (.cells (globArr rooted dirs s) 24)) := bAlloc (Below.refl _ _) _
  have HC := Lib.hid (showParts_any (n + 1) s false _ (hs.under hb1) hg hz)
  have HQ := Lib.hid (BoxIs.new w (globArr rooted dirs s) 24)
  have HG : Hid (gtxtR rooted dirs (n + 1) s.xs = wrapG rooted dirs (suffR dirs (preG rooted (txt (n + 1) false s.xs)))) := Lib.hid rfl
  generalize gtxtR rooted dirs (n + 1) s.xs = G at *
  have HT : Hid ((⟨(txt (n + 1) false s.xs).toArray⟩ : ByteArray).data.toList = txt (n + 1) false s.xs) := Lib.hid rfl
  have hB0 : (⟨(txt (n + 1) false s.xs).toArray⟩ : ByteArray).size ≤ 6291456 := by rw [Lib.size_eq]; show (txt (n + 1) false s.xs).length ≤ _; omega
  generalize (⟨(txt (n + 1) false s.xs).toArray⟩ : ByteArray) = B0 at *
  rw [← HT.out] at HG
  clear HT hTl hs hg
  obtain ⟨sa, sc, xs⟩ := s
  simp only [] at *
  go_enter Tryz.func22, Tryz.ntmps22
  go_upto_region 1 with fail
  generalize w.alloc (.cells (globArr rooted dirs (⟨sa, sc, xs⟩ : Sl (P (n + 1)))) 24) = w1 at *
  have c2 := HQ.out.cell (j := 2) rfl
  go_wp2_with fail
  refine HC.out.mono ?_
  rintro e w3 ⟨rfl, hb3⟩
  have HQ3 := Lib.hid (HQ.out.under hb3)
  replace hb3 := bTrans hb1 hb3
  clear c2 HC HQ hb1
  have c0 := HQ3.out.cell (j := 0) rfl
  have c1 := HQ3.out.cell (j := 1) rfl
  have HPf := Lib.hid (fun W => Tryz.strings_HasPrefix B0 ⟨#[47]⟩ W)
  have HPf : Hid (∀ W, Calls Tryz.prog 59 #[.string B0, .string ⟨#[47]⟩] W fun e w' => e = .returned (.bool (B0.data.toList.head? == some 47)) ∧ w' = W) := Lib.hid (fun W => by rw [← hasPre_one]; exact HPf.out W)
  have HPr : Hid (preG rooted B0.data.toList = if !rooted && B0.data.toList.head? == some 47 then 92 :: B0.data.toList else B0.data.toList) := Lib.hid rfl
  generalize (B0.data.toList.head? == some 47) = bL at *
  generalize preG rooted B0.data.toList = S1 at *
  obtain ⟨Y0, hY0, hz0, hadd0⟩ := cat ⟨#[92]⟩ B0 (by show 1 + _ ≤ _; omega)
  have hz0 : Y0.size = 1 + B0.size := hz0
  have HY0 : Hid (Y0.data.toList = 92 :: B0.data.toList) := Lib.hid hY0
  clear hY0
  go_upto_region 2 with fail
  go_cut [14] (fun s14 wx => s14 = .bool (!rooted && bL) ∧ w3 = wx)
  case first =>
    cases rooted
    · go_wp2_with (go_at_call 59; refine (HPf.out _).mono ?_; rintro e w' ⟨rfl, hw'⟩; subst w')
      go_meet
      exact ⟨rfl, rfl⟩
    · go_wp2_with fail
      go_meet
      exact ⟨rfl, rfl⟩
  case rest =>
  obtain ⟨rfl, rfl⟩ := hcut
  clear HPf
  generalize (!rooted && bL) = X1 at *
  go_upto_if 14 with fail
  go_cut [3] (fun s3 wx => ∃ B1 : ByteArray, s3 = .string B1 ∧ w3 = wx ∧ B1.size ≤ 6291457 ∧ Hid (B1.data.toList = S1))
  case first =>
    cases X1
    · go_wp2_with fail
      go_meet
      exact ⟨B0, rfl, rfl, by omega, Lib.hid (by rw [HPr.out]; rfl)⟩
    · go_wp2_with fail
      go_meet
      exact ⟨Y0, rfl, rfl, by omega, Lib.hid (by rw [HPr.out, HY0.out]; rfl)⟩
  case rest =>
  obtain ⟨B1, rfl, rfl, hB1, HB1⟩ := hcut
  rw [← HB1.out] at HG
  clear HB1 HPr hadd0 HY0 hz0 hB0
  have HSf : Hid (suffR dirs B1.data.toList = if !dirs && B1.data.toList.getLast? == some 47 && !oddB false B1.data.toList.dropLast then B1.data.toList.dropLast ++ [92, 47] else B1.data.toList) := Lib.hid rfl
  obtain ⟨X2, hX2⟩ : ∃ X2, (!dirs && B1.data.toList.getLast? == some 47 && !oddB false B1.data.toList.dropLast) = X2 := ⟨_, rfl⟩
  rw [hX2] at HSf
  have HX2 := Lib.hid hX2
  have HXp : Hid (X2 = true → 0 < B1.size) := Lib.hid (fun h => by
    rw [← hX2] at h
    rw [Lib.size_eq]
    refine List.length_pos_iff.2 (fun e => ?_)
    rw [e] at h
    simp at h)
  clear hX2
  generalize suffR dirs B1.data.toList = S2 at *
  go_upto_region 5 with fail
  go_cut [37] (fun s37 wx => s37 = .bool X2 ∧ w3 = wx)
  case first =>
    cases dirs
    case true =>
      go_wp2_with fail
      go_meet
      exact ⟨by rw [← HX2.out]; rfl, rfl⟩
    case false =>
      by_cases hz : 0 < B1.size
      · obtain ⟨k, hk⟩ : ∃ k : Nat, (B1.size : Int) - 1 = (k : Int) := ⟨B1.size - 1, by omega⟩
        have hkl : k < B1.size := by omega
        obtain ⟨ch, hch⟩ : ∃ ch : UInt8, B1[k]'hkl = ch := ⟨_, rfl⟩
        have HL : Hid (B1.data.toList.getLast? = some ch) := Lib.hid (by
          rw [List.getLast?_eq_getElem?, ← Lib.size_eq, show B1.size - 1 = k by omega, Lib.data_getElem? B1 k hkl, hch])
        have HQL := Lib.hid (fun W => quotedLast_any B1 W hz (by omega))
        generalize oddB false B1.data.toList.dropLast = od at *
        by_cases h47 : ch = 47
        · have e47 : ((ch.toNat : Int) == 47) = true := by rw [h47]; rfl
          have HR : Hid (X2 = !od) := Lib.hid (by rw [← HX2.out, HL.out, h47]; rfl)
          clear h47 HX2
          go_wp2_with (go_at_call 60; refine (HQL.out _).mono ?_; rintro e w' ⟨rfl, rfl⟩)
          go_meet
          exact ⟨by rw [HR.out], rfl⟩
        · have e47 : ((ch.toNat : Int) == 47) = false := by
            have : ch.toNat ≠ 47 := fun e => h47 (UInt8.toNat_inj.1 (by simpa using e))
            simp only [beq_eq_false_iff_ne, ne_eq]
            omega
          have HR : Hid (X2 = false) := Lib.hid (by
            rw [← HX2.out, HL.out]
            have : (some ch == some (47 : UInt8)) = false := by simpa using h47
            rw [this]
            rfl)
          clear h47 HX2
          go_wp2_with fail
          go_meet
          exact ⟨by rw [HR.out], rfl⟩
      · have hz1 : B1.size = 0 := by omega
        have HR : Hid (X2 = false) := Lib.hid (by
          cases hX : X2
          · rfl
          · have := HXp.out hX
            omega)
        have hz2 : ¬ 0 < B1.size := by omega
        clear hz hz1 HX2
        go_wp2_with fail
        go_meet
        exact ⟨by rw [HR.out], rfl⟩
  case rest =>
  obtain ⟨rfl, rfl⟩ := hcut
  clear HX2
  go_upto_if 37 with fail
  go_cut [3] (fun s3 wx => ∃ B2 : ByteArray, s3 = .string B2 ∧ w3 = wx ∧ B2.size ≤ 6291459 ∧ Hid (B2.data.toList = S2))
  case first =>
    cases X2
    · clear HXp
      go_wp2_with fail
      go_meet
      exact ⟨B1, rfl, rfl, by omega, Lib.hid (by rw [HSf.out]; rfl)⟩
    · have hp := HXp.out rfl
      obtain ⟨k, hk⟩ : ∃ k : Nat, (B1.size : Int) - 1 = (k : Int) := ⟨B1.size - 1, by omega⟩
      have hk2 : k ≤ B1.size := by omega
      have hk3 : k ≤ 10000000 := by omega
      have hex : (B1.extract 0 k).size = k := by rw [ByteArray.size_extract]; omega
      obtain ⟨Y, hY, hz0, hadd⟩ := cat (B1.extract 0 k) ⟨#[92, 47]⟩ (by rw [hex]; show _ + 2 ≤ _; omega)
      have hz0 : Y.size = (B1.extract 0 k).size + 2 := hz0
      have HF : Hid (Y.data.toList = S2) := Lib.hid (by
        rw [hY, take_ext, HSf.out, if_pos rfl, List.dropLast_eq_take, ← Lib.size_eq, show B1.size - 1 = k by omega])
      have hYs : Y.size ≤ 6291459 := by omega
      clear hY hz0 HSf HXp hex hp
      go_wp2_with fail
      go_meet
      exact ⟨Y, rfl, rfl, hYs, HF⟩
  case rest =>
  obtain ⟨B2, rfl, rfl, hB2, HB2⟩ := hcut
  rw [← HB2.out] at HG
  clear HB2 HSf HXp hB1
  obtain ⟨Y2, hY2, hz2, hadd2⟩ := cat ⟨#[47]⟩ B2 (by show 1 + _ ≤ _; omega)
  have hz2 : Y2.size = 1 + B2.size := hz2
  have HY2 : Hid (Y2.data.toList = 47 :: B2.data.toList) := Lib.hid hY2
  clear hY2
  go_upto_if 44 with fail
  go_cut [3] (fun s3 wx => ∃ B3 : ByteArray, s3 = .string B3 ∧ w3 = wx ∧ B3.size ≤ 6291460 ∧ Hid (B3.data.toList = if rooted then 47 :: B2.data.toList else B2.data.toList))
  case first =>
    cases rooted
    · go_wp2_with fail
      go_meet
      exact ⟨B2, rfl, rfl, by omega, Lib.hid rfl⟩
    · go_wp2_with fail
      go_meet
      exact ⟨Y2, rfl, rfl, by omega, HY2⟩
  case rest =>
  obtain ⟨B3, rfl, rfl, hB3, HB3⟩ := hcut
  obtain ⟨Y3, hY3, _, hadd3⟩ := cat B3 ⟨#[47]⟩ (by show _ + 1 ≤ _; omega)
  have HG4 : Hid (G = B3.data.toList ++ (if dirs then [47] else [])) := Lib.hid (by rw [HG.out, HB3.out]; rfl)
  have HY3 : Hid (Y3.data.toList = B3.data.toList ++ [47]) := Lib.hid hY3
  clear HG HB3 hadd2 HY2 hY3 hz2
  cases dirs
  · have HF : Hid (B3 = ⟨G.toArray⟩) := Lib.hid (str_eq (by rw [HG4.out]; simp))
    go_wp2_with fail
    go_ret
    exact ⟨ret_strv HF.out, hb3⟩
  · have HF : Hid (Y3 = ⟨G.toArray⟩) := Lib.hid (str_eq (by rw [HG4.out, HY3.out]; rfl))
    go_wp2_with fail
    go_ret
    exact ⟨ret_strv HF.out, hb3⟩
end Go.Proofs.YtnpcbcnclncniaaGreatDoor
