/-
  names.Compare, the reference's Order, and the law on them.
-/
import Derived.Test.YtbcadgooelcnhaaDoorPaths
import Derived.Test.YtbcadgooelcnhaaDoorPlainOrder
namespace Go.Proofs.YtbcadgooelcnhaaDoor
open Go.RowKit

theorem enters_compare1 : ∀ args w, (callFunc 66 args).run Tryd.prog w = .ok (.enter 66 args) w := enters_of Tryd.func66 (by kernel_rfl) rfl
theorem enters_order1 : ∀ args w, (callFunc 67 args).run Tryd.prog w = .ok (.enter 67 args) w := enters_of Tryd.func67 (by kernel_rfl) rfl

set_option maxHeartbeats 1000000 in
theorem weight_any (x : UInt8) (w : World) :
    Calls Tryd.prog 66 #[.int .u8 x.toNat] w fun e w' => e = .returned (.int .i64 (Wh.wt x)) ∧ w' = w := by
  have hlt : x.toNat < 256 := x.toNat_lt
  by_cases h : x = 47
  · subst h
    go_enter Tryd.func66, Tryd.ntmps66
    go_wp2_with fail
    go_ret
    exact ⟨rfl, rfl⟩
  · have h1 : ((x.toNat : Int) == 47) = false := Wh.byte_ne h
    have h2 := Lib.hid (Wh.wt_ne h)
    clear h
    go_enter Tryd.func66, Tryd.ntmps66
    go_wp2_with fail
    go_ret
    exact ⟨ret_int (by rw [h2.out]), rfl⟩

set_option maxHeartbeats 1000000 in
theorem refWeight_any (x : UInt8) (w : World) :
    Calls Tryd.prog 67 #[.int .u8 x.toNat] w fun e w' => e = .returned (.int .i64 (Wh.wt x)) ∧ w' = w := by
  have hlt : x.toNat < 256 := x.toNat_lt
  by_cases h : x = 47
  · subst h
    go_enter Tryd.func67, Tryd.ntmps67
    go_wp2_with fail
    go_ret
    exact ⟨rfl, rfl⟩
  · have h1 : ((x.toNat : Int) == 47) = false := Wh.byte_ne h
    have h2 := Lib.hid (Wh.wt_ne h)
    clear h
    go_enter Tryd.func67, Tryd.ntmps67
    go_wp2_with fail
    go_ret
    exact ⟨ret_int (by rw [h2.out]), rfl⟩

set_option maxHeartbeats 2000000 in
theorem compare_any (a b : ByteArray) (w : World) (ha : a.size ≤ 9223372036854775807) (_hb : b.size ≤ 9223372036854775807) :
    Calls Tryd.prog 23 #[.string a, .string b] w fun e w' => e = .returned (.int .i64 (Wh.cmpL a.data.toList b.data.toList)) ∧ Below w.heap.size w w' := by
  have hen := enters_compare1
  go_enter Tryd.func23, Tryd.ntmps23
  go_wp2_with fail
  go_loopg [6] (min a.size b.size) (fun g i wx => ∃ k n : Nat, k + g = min a.size b.size ∧ i = .int .i64 k ∧ wx = w.drewN n ∧ Hid (Wh.cmpL (a.data.toList.drop k) (b.data.toList.drop k) = Wh.cmpL a.data.toList b.data.toList))
  case atStart => exact ⟨0, 0, by omega, rfl, rfl, Lib.hid rfl⟩
  case round =>
    obtain ⟨k, n, hk, rfl, rfl, HC⟩ := hrel
    by_cases hlt : k < a.size ∧ k < b.size
    · obtain ⟨hka, hkb⟩ := hlt
      obtain ⟨g, rfl⟩ : ∃ g, gk = g + 1 := ⟨gk - 1, by omega⟩
      obtain ⟨x, hx⟩ : ∃ x : UInt8, a[k]'hka = x := ⟨_, rfl⟩
      obtain ⟨y, hy⟩ : ∃ y : UInt8, b[k]'hkb = y := ⟨_, rfl⟩
      have e1 := Wh.drop_at a k hka
      have e2 := Wh.drop_at b k hkb
      rw [hx] at e1
      rw [hy] at e2
      have H1 := Lib.hid e1
      have H2 := Lib.hid e2
      clear e1 e2
      have b1 := Wh.wt_bd x
      have b2 := Wh.wt_bd y
      by_cases c1 : Wh.wt x < Wh.wt y
      · have HF := Lib.hid (Wh.cmpL_lt c1 H1.out H2.out)
        go_wp2_with fail
        go_quiet ((go_at_call 66; exact quietAfter (weight_any _ _)))
        go_wp2_with fail
        go_ret
        exact ⟨ret_int (by rw [← HC.out, HF.out]), bDrewN (Below.refl _ _) _⟩
      by_cases c2 : Wh.wt y < Wh.wt x
      · have HF := Lib.hid (Wh.cmpL_gt c2 H1.out H2.out)
        go_wp2_with fail
        go_quiet ((go_at_call 66; exact quietAfter (weight_any _ _)))
        go_wp2_with fail
        go_ret
        exact ⟨ret_int (by rw [← HC.out, HF.out]), bDrewN (Below.refl _ _) _⟩
      · have HF := Lib.hid (Wh.cmpL_eq c1 c2 H1.out H2.out)
        go_wp2_with fail
        go_quiet ((go_at_call 66; exact quietAfter (weight_any _ _)))
        go_wp2_with fail
        go_roundg g
        case measure => omega
        case rel => exact ⟨k + 1, _, by omega, by go_num, rfl, Lib.hid (by rw [← HC.out, HF.out])⟩
    · have HF := Lib.hid (Wh.cmpL_end hlt (by omega))
      by_cases c1 : a.size < b.size
      · go_wp2_with fail
        all_goals go_ret
        all_goals exact ⟨ret_int (by rw [← HC.out, HF.out, if_pos c1]), bDrewN (Below.refl _ _) _⟩
      by_cases c2 : b.size < a.size
      · go_wp2_with fail
        all_goals go_ret
        all_goals exact ⟨ret_int (by rw [← HC.out, HF.out, if_neg c1, if_pos c2]), bDrewN (Below.refl _ _) _⟩
      · go_wp2_with fail
        all_goals go_ret
        all_goals exact ⟨ret_int (by rw [← HC.out, HF.out, if_neg c1, if_neg c2]), bDrewN (Below.refl _ _) _⟩

set_option maxHeartbeats 2000000 in
theorem order_any (a b : ByteArray) (w : World) (ha : a.size ≤ 9223372036854775807) (_hb : b.size ≤ 9223372036854775807) :
    Calls Tryd.prog 24 #[.string a, .string b] w fun e w' => e = .returned (.int .i64 (Wh.cmpL a.data.toList b.data.toList)) ∧ Below w.heap.size w w' := by
  have hen := enters_order1
  go_enter Tryd.func24, Tryd.ntmps24
  go_wp2_with fail
  obtain ⟨m, hm⟩ : ∃ m : Nat, min a.size b.size = m := ⟨_, rfl⟩
  have em : min (a.size : Int) (b.size : Int) = (m : Int) := by omega
  simp only [em]
  have hma : m ≤ a.size := by omega
  have hmb : m ≤ b.size := by omega
  have HM := Lib.hid hm
  clear em hm
  go_loopg [14] m (fun g i wx => ∃ k n : Nat, k + g = m ∧ i = .int .i64 k ∧ wx = w.drewN n ∧ Hid (Wh.cmpL (a.data.toList.drop k) (b.data.toList.drop k) = Wh.cmpL a.data.toList b.data.toList))
  case atStart => exact ⟨0, 0, by omega, rfl, rfl, Lib.hid rfl⟩
  case round =>
    obtain ⟨k, n, hk, rfl, rfl, HC⟩ := hrel
    by_cases hlt : k < m
    · have hka : k < a.size := by omega
      have hkb : k < b.size := by omega
      obtain ⟨g, rfl⟩ : ∃ g, gk = g + 1 := ⟨gk - 1, by omega⟩
      obtain ⟨x, hx⟩ : ∃ x : UInt8, a[k]'hka = x := ⟨_, rfl⟩
      obtain ⟨y, hy⟩ : ∃ y : UInt8, b[k]'hkb = y := ⟨_, rfl⟩
      have e1 := Wh.drop_at a k hka
      have e2 := Wh.drop_at b k hkb
      rw [hx] at e1
      rw [hy] at e2
      have H1 := Lib.hid e1
      have H2 := Lib.hid e2
      clear e1 e2
      by_cases c0 : Wh.wt x = Wh.wt y
      · have hne : (Wh.wt x != Wh.wt y) = false := by simp [c0]
        have HF := Lib.hid (Wh.cmpL_eq (by omega) (by omega) H1.out H2.out)
        clear c0
        go_wp2_with fail
        go_quiet ((go_at_call 67; exact quietAfter (refWeight_any _ _)))
        go_wp2_with fail
        go_roundg g
        case measure => omega
        case rel => exact ⟨k + 1, _, by omega, by go_num, rfl, Lib.hid (by rw [← HC.out, HF.out])⟩
      · have hne : (Wh.wt x != Wh.wt y) = true := by simp [c0]
        have HF : Hid (Wh.cmpL a.data.toList b.data.toList = Lib.compareInt (Wh.wt x) (Wh.wt y)) := by
          refine Lib.hid ?_
          rw [← HC.out]
          unfold Lib.compareInt
          by_cases c1 : Wh.wt x < Wh.wt y
          · rw [if_pos c1, Wh.cmpL_lt c1 H1.out H2.out]
          · rw [if_neg c1, if_pos (by omega), Wh.cmpL_gt (by omega) H1.out H2.out]
        clear c0
        go_wp2_with fail
        go_quiet ((go_at_call 67; exact quietAfter (refWeight_any _ _)))
        go_wp2_with fail
        refine (Tryd.cmp_Compare_int _ _ _).mono ?_
        rintro e w' ⟨rfl, rfl⟩
        go_wp2_with fail
        go_ret
        exact ⟨ret_int HF.out.symm, bDrewN (Below.refl _ _) _⟩
    · have hm := HM.out
      have HF := Lib.hid (HC.out.symm.trans (Wh.cmpL_end2 (a := a) (b := b) (k := k) (by omega) (by omega)))
      clear hm
      go_wp2_with fail
      refine (Tryd.cmp_Compare_int _ _ _).mono ?_
      rintro e w' ⟨rfl, rfl⟩
      go_wp2_with fail
      go_ret
      exact ⟨ret_int HF.out.symm, bDrewN (Below.refl _ _) _⟩

end Go.Proofs.YtbcadgooelcnhaaDoor
