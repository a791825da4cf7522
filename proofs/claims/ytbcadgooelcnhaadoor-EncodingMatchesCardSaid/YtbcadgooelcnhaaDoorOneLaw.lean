/-
  names.Encode for a right encoding; the law EncodingIsOneToOne, walked.
-/
import Derived.Test.YtbcadgooelcnhaaDoorEncPath
import Derived.Test.YtbcadgooelcnhaaDoorPlainInj
namespace Go.Proofs.YtbcadgooelcnhaaDoor
open Go.RowKit

/-- What names.Encode says. -/
def encCode (x : Wh.Enc) (s : ByteArray) : Int := if Wh.encErr x ≠ 0 then Wh.encErr x else if Wh.pathErr s.data.toList ≠ 0 then 1 else Wh.encErrP x s
def encGives (x : Wh.Enc) (s : ByteArray) : ByteArray := if encCode x s = 0 then Wh.encText x s else ⟨#[]⟩

set_option maxHeartbeats 1000000 in
set_option maxRecDepth 100000 in
theorem encode_any (x : Wh.Enc) (a : Option Addr) (c : Nat) (s : ByteArray) (w : World) (hE : Env w) (hX : EncOk x a w) (hs : s.size ≤ 9223372036854775807) :
    Calls Tryd.prog 51 #[encVal x a c, .string s] w fun e w' => e = .returned (.tuple #[.string (encGives x s), .int .i64 (encCode x s)]) ∧ Below w.heap.size w w' := by
  by_cases he : Wh.encErr x = 0
  · have HC := Lib.hid (fun W (hb : Below w.heap.size w W) => checkEnc x a c W (hE.under hb) (hX.under hb))
    have HP := Lib.hid (fun W (hb : Below w.heap.size w W) => check_any s W (hE.under hb) hs)
    have HB := Lib.hid (encBox_new w 61 x a c)
    rcases Wh.pathErr_cases s.data.toList with hp | hp
    · have hcode : encCode x s = 1 := by simp [encCode, he, hp]
      have hgive : encGives x s = ⟨#[]⟩ := by simp [encGives, hcode]
      rw [hcode, hgive]
      rw [hp] at HP
      rw [he] at HC
      clear hcode hgive hE hX he hp
      unfold encVal at *
      have hb0 : Below w.heap.size w (w.alloc (.cells #[.string x.forbid, .string x.head, .string x.tail, .slice a x.names.length c, .bool x.cs, .int .i64 x.max] 61)) := bAlloc (Below.refl _ _) _
      go_enter Tryd.func51, Tryd.ntmps51
      go_wp2_with fail
      refine (HC.out _ hb0).mono ?_
      rintro e w1 ⟨rfl, hb1⟩
      go_wp2_with fail
      refine (HP.out _ (bTrans hb0 hb1)).mono ?_
      rintro e w2 ⟨rfl, hb2⟩
      go_wp2_with fail
      go_ret2
      exact ⟨rfl, bTrans (bTrans hb0 hb1) hb2⟩
    · have hpa := Wh.pathErr_zero hp
      have hcode : encCode x s = Wh.encErrP x s := by simp [encCode, he, hp]
      have hgive : encGives x s = Wh.encText x s := by
        unfold encGives
        rw [hcode]
        split
        · rfl
        · rename_i h
          simp [Wh.encText, h]
      rw [hcode, hgive]
      have HEP := Lib.hid (fun W (hb : Below w.heap.size w W) => encodePath_any x a c s W (hE.under hb) (hX.under hb) he hpa)
      rw [hp] at HP
      rw [he] at HC
      clear hcode hgive hE hX he hp hpa
      generalize Wh.encErrP x s = E at *
      generalize Wh.encText x s = T at *
      unfold encVal at *
      have hb0 : Below w.heap.size w (w.alloc (.cells #[.string x.forbid, .string x.head, .string x.tail, .slice a x.names.length c, .bool x.cs, .int .i64 x.max] 61)) := bAlloc (Below.refl _ _) _
      go_enter Tryd.func51, Tryd.ntmps51
      go_wp2_with fail
      refine (HC.out _ hb0).mono ?_
      rintro e w1 ⟨rfl, hb1⟩
      go_wp2_with fail
      refine (HP.out _ (bTrans hb0 hb1)).mono ?_
      rintro e w2 ⟨rfl, hb2⟩
      generalize w.alloc (.cells #[.string x.forbid, .string x.head, .string x.tail, .slice a x.names.length c, .bool x.cs, .int .i64 x.max] 61) = w0 at *
      obtain ⟨k0, k1, k2, k3, k4, k5, k6⟩ := (HB.out.under hb1).under hb2
      go_wp2_with fail
      refine (HEP.out _ (bTrans (bTrans hb0 hb1) hb2)).mono ?_
      rintro e w3 ⟨rfl, hb3⟩
      go_wp2_with fail
      go_ret2
      exact ⟨rfl, bTrans (bTrans (bTrans hb0 hb1) hb2) hb3⟩
  · have hcode : encCode x s = Wh.encErr x := by simp [encCode, he]
    have hgive : encGives x s = ⟨#[]⟩ := by simp [encGives, hcode, he]
    rw [hcode, hgive]
    exact encode_bad x a c s w hE hX he

theorem code_zero {x : Wh.Enc} {s : ByteArray} (h : encCode x s = 0) : Wh.encErrP x s = 0 ∧ encGives x s = Wh.encText x s ∧ (Wh.encText x s).size ≤ 1024 := by
  have hg : encGives x s = Wh.encText x s := by simp [encGives, h]
  unfold encCode at h
  split at h
  · rename_i h1
    exact absurd h h1
  · split at h
    · omega
    · refine ⟨h, hg, ?_⟩
      unfold Wh.encErrP at h
      split at h
      · omega
      · split at h
        · omega
        · rename_i h1 h2
          have h3 := (Wh.encP_good (x := x) (s := s) (fun e he => by
            cases hq : Wh.longB x e
            · rfl
            · exact absurd (List.any_eq_true.2 ⟨e, he, hq⟩) h1) h2).2
          rw [h3]
          simp [ByteArray.size]
          omega

set_option maxHeartbeats 4000000 in
set_option maxRecDepth 100000 in
theorem oneToOne_walk (x : Wh.Enc) (a : Option Addr) (c : Nat) (s t : ByteArray) (w : World) (hE : Env w) (hX : EncOk x a w) (hs : s.size ≤ 9223372036854775807) (ht : t.size ≤ 9223372036854775807) :
    Calls Tryd.prog 11 #[encVal x a c, .string s, .string t] w fun e w' => e = .returned (.bool true) ∧ Below w.heap.size w w' := by
  have HS := Lib.hid (fun W (hb : Below w.heap.size w W) => encode_any x a c s W (hE.under hb) (hX.under hb) hs)
  have HT := Lib.hid (fun W (hb : Below w.heap.size w W) => encode_any x a c t W (hE.under hb) (hX.under hb) ht)
  have HE := Lib.hid hE
  have hz1 := fun h => code_zero (x := x) (s := s) h
  have hz2 := fun h => code_zero (x := x) (s := t) h
  have hi : ∀ (h1 : encCode x s = 0) (h2 : encCode x t = 0), ¬ s = t → ¬ encGives x s = encGives x t := fun h1 h2 hne he => by
    rw [(hz1 h1).2.1, (hz2 h2).2.1] at he
    exact hne (Wh.enc_inj (hz1 h1).1 (hz2 h2).1 he)
  have hj : ∀ (_ : x.cs = true) (h1 : encCode x s = 0) (h2 : encCode x t = 0), ¬ s = t → ¬ Wh.lower (encGives x s).data.toList = Wh.lower (encGives x t).data.toList := fun hcs h1 h2 hne he => by
    rw [(hz1 h1).2.1, (hz2 h2).2.1] at he
    exact hne (Wh.enc_inj_small hcs (hz1 h1).1 (hz2 h2).1 he)
  have hz3 : encCode x s = 0 → (encGives x s).size ≤ 1024 := fun h => by rw [(hz1 h).2.1]; exact (hz1 h).2.2
  have hz4 : encCode x t = 0 → (encGives x t).size ≤ 1024 := fun h => by rw [(hz2 h).2.1]; exact (hz2 h).2.2
  have HI := Lib.hid hi
  have HJ := Lib.hid hj
  have H3 := Lib.hid hz3
  have H4 := Lib.hid hz4
  clear hi hj hz1 hz2 hz3 hz4 hE hX
  generalize encCode x s = E1 at *
  generalize encCode x t = E2 at *
  generalize encGives x s = G1 at *
  generalize encGives x t = G2 at *
  unfold encVal at *
  go_enter Tryd.func11, Tryd.ntmps11
  go_wp2_with fail
  refine (landed_any _ (HE.out.alloc _)).mono ?_
  rintro e w1 ⟨rfl, hb1⟩
  have hbb := bTrans (bAlloc (Below.refl _ w) _) hb1
  have HX1 := Lib.hid ((encBox_new w 61 x a c).under hb1)
  clear hb1
  obtain ⟨k0, k1, k2, k3, k4, k5, k6⟩ := HX1.out
  go_wp2_with fail
  refine (HS.out _ hbb).mono ?_
  rintro e w2 ⟨rfl, hb2⟩
  have hbb := bTrans hbb hb2
  have HX2 := Lib.hid (HX1.out.under hb2)
  clear hb2 k0 k1 k2 k3 k4 k5 k6 HX1
  obtain ⟨k0, k1, k2, k3, k4, k5, k6⟩ := HX2.out
  go_wp2_with fail
  refine (HT.out _ hbb).mono ?_
  rintro e w3 ⟨rfl, hb3⟩
  have hbb := bTrans hbb hb3
  have HX3 := Lib.hid (HX2.out.under hb3)
  clear hb3 k0 k1 k2 k3 k4 k5 k6 HX2
  by_cases h1 : E1 = 0
  · subst h1
    by_cases h2 : E2 = 0
    · subst h2
      by_cases h3 : s = t
      · have q : (s.toList == t.toList) = true := by rw [h3]; simp
        clear h3
        go_wp2_with fail
        go_ret
        exact ⟨rfl, hbb⟩
      · have q := Wh.toList_ne h3
        have q2 := Wh.toList_ne (HI.out rfl rfl h3)
        obtain ⟨k0, k1, k2, k3, k4, k5, k6⟩ := HX3.out
        clear k0 k1 k2 k3 k4 k6
        have hcc : x.cs = false ∨ x.cs = true := by cases x.cs <;> simp
        rcases hcc with hcs | hcs
        · rw [hcs] at k5
          have HCS := Lib.hid hcs
          clear h3 hcs
          go_wp2_with fail
          go_ret
          exact ⟨rfl, hbb⟩
        · have q3 : ¬ (⟨(Wh.lower G1.data.toList).toArray⟩ : ByteArray) = ⟨(Wh.lower G2.data.toList).toArray⟩ := fun he => HJ.out hcs rfl rfl h3 (by
            have := congrArg (fun s : ByteArray => s.data.toList) he
            simpa using this)
          have q4 := Wh.toList_ne q3
          have s3 := H3.out rfl
          have s4 := H4.out rfl
          have HL1 := Lib.hid (fun W => lower_any G1 W (by omega))
          have HL2 := Lib.hid (fun W => lower_any G2 W (by omega))
          rw [hcs] at k5
          have HCS := Lib.hid hcs
          clear h3 hcs q3 s3 s4
          generalize (⟨(Wh.lower G1.data.toList).toArray⟩ : ByteArray) = L1 at *
          generalize (⟨(Wh.lower G2.data.toList).toArray⟩ : ByteArray) = L2 at *
          go_wp2_with fail
          refine (HL1.out _).mono ?_
          rintro e w4 ⟨rfl, hb4⟩
          go_wp2_with fail
          refine (HL2.out _).mono ?_
          rintro e w5 ⟨rfl, hb5⟩
          go_wp2_with fail
          go_ret
          exact ⟨rfl, bTrans (bTrans hbb hb4) hb5⟩
    · have q := err_ne h2
      clear h2
      go_wp2_with fail
      go_ret
      exact ⟨rfl, hbb⟩
  · have q := err_ne h1
    clear h1
    go_wp2_with fail
    go_ret
    exact ⟨rfl, hbb⟩
end Go.Proofs.YtbcadgooelcnhaaDoor
