/-
  store.forbidForm.
-/
import Derived.Test.YtikegddlbelfaaaGreatDoorBytes
import Derived.Test.YtikegddlbelfaaaGreatDoorPlainFeat
namespace Go.Proofs.YtikegddlbelfaaaGreatDoor
open Go.RowKit

theorem okF_bad {x : UInt8} (h : (47 ≤ x.toNat ∧ x.toNat ≤ 57) ∨ (65 ≤ x.toNat ∧ x.toNat ≤ 90) ∨ (97 ≤ x.toNat ∧ x.toNat ≤ 122) ∨ 128 ≤ x.toNat) : Wh.okF x = false := by
  have e : (x == 47) = decide (x.toNat = 47) := by
    rw [Bool.eq_iff_iff]
    simp
    exact ⟨fun h => by rw [h]; rfl, fun h => UInt8.toNat_inj.1 (by rw [h]; rfl)⟩
  simp only [Wh.okF, Wh.digit, Wh.letter, e]
  simp
  omega

theorem okF_good {x : UInt8} (h : x.toNat < 47 ∨ (57 < x.toNat ∧ x.toNat < 65) ∨ (90 < x.toNat ∧ x.toNat < 97) ∨ (122 < x.toNat ∧ x.toNat < 128)) : Wh.okF x = true := by
  have e : (x == 47) = decide (x.toNat = 47) := by
    rw [Bool.eq_iff_iff]
    simp
    exact ⟨fun h => by rw [h]; rfl, fun h => UInt8.toNat_inj.1 (by rw [h]; rfl)⟩
  simp only [Wh.okF, Wh.digit, Wh.letter, e]
  simp
  omega

set_option maxHeartbeats 2000000 in
theorem forbidForm_any (s : ByteArray) (w : World) (hs : s.size ≤ 9223372036854775807) :
    Calls Tryz.prog 48 #[.string s] w fun e w' => e = .returned (.bool (Wh.formP Wh.okF s.data.toList)) ∧ w' = w := by
  obtain ⟨R, hR⟩ : ∃ R, Wh.formP Wh.okF s.data.toList = R := ⟨_, rfl⟩
  have HR := Lib.hid hR
  rw [hR]
  clear hR
  go_enter Tryz.func48, Tryz.ntmps48
  go_wp2_with fail
  go_loopg [8] s.size (fun g s8 wx => ∃ k : Nat, k + g = s.size ∧ s8 = .int .i64 k ∧ wx = w ∧ Hid (Wh.formP Wh.okF (s.data.toList.take k) = true))
  case atStart => exact ⟨0, by omega, rfl, rfl, Lib.hid rfl⟩
  case round =>
    obtain ⟨k, hk, rfl, hw, HFm⟩ := hrel
    subst wr
    by_cases hlt : k < s.size
    · obtain ⟨g, rfl⟩ : ∃ g, gk = g + 1 := ⟨gk - 1, by omega⟩
      obtain ⟨x, hx⟩ : ∃ x : UInt8, s[k]'hlt = x := ⟨_, rfl⟩
      have hxl : s.data.toList[k]? = some x := by rw [← hx]; exact Lib.data_getElem? s k hlt
      have hx8 := x.toNat_lt
      have ex : (s.extract 0 k).data.toList = s.data.toList.take k := by simp
      have hback : ((x.toNat : Int)).toNat.toUInt8 = x := by simp
      have hB := fun W => Tryz.strings_IndexByte (s.extract 0 k) x.toNat W
      rw [ex, hback] at hB
      have hcon := Lib.contains_iff_indexByte (s.data.toList.take k) x
      have HBad : Hid ((s.data.toList.take k).contains x = true ∨ Wh.okF x = false → R = false) := Lib.hid (fun h => by rw [← HR.out]; exact Wh.formP_bad hxl h)
      have HGood : Hid ((s.data.toList.take k).contains x = false → Wh.okF x = true → Wh.formP Wh.okF (s.data.toList.take (k + 1)) = true) := Lib.hid (fun h1 h2 => Wh.formP_step hxl HFm.out h1 h2)
      have HO1 := Lib.hid (@okF_bad x)
      have HO2 := Lib.hid (@okF_good x)
      clear ex hxl hback
      generalize Lib.indexByte (s.data.toList.take k) x = v at *
      generalize (s.data.toList.take k).contains x = bc at *
      generalize Wh.okF x = ok at *
      have HB2 := Lib.hid hB
      clear hB
      cases bc
      case true =>
        have hv : 0 ≤ v := of_decide_eq_true hcon.symm
        have HK := Lib.hid (HBad.out (.inl rfl))
        clear hcon
        rcases (by omega : x.toNat < 65 ∨ (65 ≤ x.toNat ∧ x.toNat ≤ 90) ∨ (90 < x.toNat ∧ x.toNat < 97) ∨ (97 ≤ x.toNat ∧ x.toNat ≤ 122) ∨ 122 < x.toNat) with h | h | h | h | h
        all_goals
          go_wp2_with (go_at_call 54; refine (HB2.out _).mono ?_; rintro e w' ⟨rfl, hw'⟩; subst w')
          go_ret
          exact ⟨ret_bool HK.out.symm, rfl⟩
      case false =>
        have hv : ¬ 0 ≤ v := of_decide_eq_false hcon.symm
        clear hcon
        rcases (by omega : x.toNat = 47 ∨ (48 ≤ x.toNat ∧ x.toNat ≤ 57) ∨ (65 ≤ x.toNat ∧ x.toNat ≤ 90) ∨ (97 ≤ x.toNat ∧ x.toNat ≤ 122) ∨ 128 ≤ x.toNat ∨ x.toNat < 47 ∨ (57 < x.toNat ∧ x.toNat < 65) ∨ (90 < x.toNat ∧ x.toNat < 97) ∨ (122 < x.toNat ∧ x.toNat < 128)) with h | h | h | h | h | h | h | h | h
        case' inl =>
          have q47 : ((x.toNat : Int) == 47) = true := by simp; omega
          have HK := Lib.hid (HBad.out (.inr (HO1.out (by omega))))
          replace h : (x.toNat : Int) ≤ 47 ∧ 47 ≤ (x.toNat : Int) := by omega
        case' inr.inl | inr.inr.inl | inr.inr.inr.inl | inr.inr.inr.inr.inl =>
          have q47 : ((x.toNat : Int) == 47) = false := by simp; omega
          have HK := Lib.hid (HBad.out (.inr (HO1.out (by omega))))
        case inl | inr.inl | inr.inr.inl | inr.inr.inr.inl | inr.inr.inr.inr.inl =>
          go_wp2_with (go_at_call 54; refine (HB2.out _).mono ?_; rintro e w' ⟨rfl, hw'⟩; subst w')
          go_ret
          exact ⟨ret_bool HK.out.symm, rfl⟩
        all_goals
          have q47 : ((x.toNat : Int) == 47) = false := by simp; omega
          have HK := Lib.hid (HGood.out rfl (HO2.out (by omega)))
          go_wp2_with (go_at_call 54; refine (HB2.out _).mono ?_; rintro e w' ⟨rfl, hw'⟩; subst w')
          go_roundg g
          case measure => omega
          case rel => exact ⟨k + 1, by omega, by go_num, rfl, HK⟩
    · have HK : Hid (R = true) := Lib.hid (by
        rw [← HR.out]
        have h1 := HFm.out
        rw [List.take_of_length_le (by rw [← Lib.size_eq]; omega)] at h1
        exact h1)
      go_wp2_with fail
      go_ret
      exact ⟨ret_bool HK.out.symm, rfl⟩
end Go.Proofs.YtikegddlbelfaaaGreatDoor
