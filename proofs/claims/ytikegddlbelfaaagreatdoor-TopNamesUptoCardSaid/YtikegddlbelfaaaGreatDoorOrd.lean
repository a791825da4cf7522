/-
  names.Compare and the reference's Order: they draw, and lay nothing.
-/
import Derived.Test.YtikegddlbelfaaaGreatDoorPaths
import Derived.Test.YtikegddlbelfaaaGreatDoorPlainOrder
namespace Go.Proofs.YtikegddlbelfaaaGreatDoor
open Go.RowKit

theorem enters_compare1 : ∀ args w, (callFunc 68 args).run Tryz.prog w = .ok (.enter 68 args) w := enters_of Tryz.func68 (by kernel_rfl) rfl
set_option maxHeartbeats 1000000 in
theorem weight_any (x : UInt8) (w : World) :
    Calls Tryz.prog 68 #[.int .u8 x.toNat] w fun e w' => e = .returned (.int .i64 (Wh.wt x)) ∧ w' = w := by
  have hlt : x.toNat < 256 := x.toNat_lt
  by_cases h : x = 47
  · subst h
    go_enter Tryz.func68, Tryz.ntmps68
    go_wp2_with fail
    go_ret
    exact ⟨rfl, rfl⟩
  · have h1 : ((x.toNat : Int) == 47) = false := Wh.byte_ne h
    have h2 := Lib.hid (Wh.wt_ne h)
    clear h
    go_enter Tryz.func68, Tryz.ntmps68
    go_wp2_with fail
    go_ret
    exact ⟨ret_int (by rw [h2.out]), rfl⟩

set_option maxHeartbeats 2000000 in
theorem compare_drew (a b : ByteArray) (w : World) (ha : a.size ≤ 9223372036854775807) (_hb : b.size ≤ 9223372036854775807) :
    Calls Tryz.prog 38 #[.string a, .string b] w fun e w' => e = .returned (.int .i64 (Wh.cmpL a.data.toList b.data.toList)) ∧ ∃ n, w' = w.drewN n := by
  have hen := enters_compare1
  go_enter Tryz.func38, Tryz.ntmps38
  go_wp2_with fail
  go_loopg [6] (min a.size b.size) (fun g i wx => ∃ k n : Nat, k + g = min a.size b.size ∧ i = .int .i64 k ∧ wx = w.drewN n ∧ Hid (Wh.cmpL (a.data.toList.drop k) (b.data.toList.drop k) = Wh.cmpL a.data.toList b.data.toList))
  case atStart => exact ⟨0, 0, by omega, rfl, rfl, Lib.hid rfl⟩
  case round =>
    obtain ⟨k, n, hk, rfl, rfl, HC⟩ := hrel
    by_cases hlt : k < a.size ∧ k < b.size
    · obtain ⟨hka, hkb⟩ := hlt
      obtain ⟨g, rfl⟩ : ∃ g, gk = g + 1 := ⟨gk - 1, by omega⟩
      obtain ⟨x, hx⟩ : ∃ x : UInt8, a[k]'hka = x := ⟨_, rfl⟩
      obtain ⟨y, hy⟩ : ∃ y : UInt8, b[k]'hkb = y := ⟨_, rfl⟩
      have e1 := Wh.drop_at a k hka
      have e2 := Wh.drop_at b k hkb
      rw [hx] at e1
      rw [hy] at e2
      have H1 := Lib.hid e1
      have H2 := Lib.hid e2
      clear e1 e2
      have b1 := Wh.wt_bd x
      have b2 := Wh.wt_bd y
      by_cases c1 : Wh.wt x < Wh.wt y
      · have HF := Lib.hid (Wh.cmpL_lt c1 H1.out H2.out)
        go_wp2_with fail
        go_quiet ((go_at_call 68; exact quietAfter (weight_any _ _)))
        go_wp2_with fail
        go_ret
        exact ⟨ret_int (by rw [← HC.out, HF.out]), _, rfl⟩
      by_cases c2 : Wh.wt y < Wh.wt x
      · have HF := Lib.hid (Wh.cmpL_gt c2 H1.out H2.out)
        go_wp2_with fail
        go_quiet ((go_at_call 68; exact quietAfter (weight_any _ _)))
        go_wp2_with fail
        go_ret
        exact ⟨ret_int (by rw [← HC.out, HF.out]), _, rfl⟩
      · have HF := Lib.hid (Wh.cmpL_eq c1 c2 H1.out H2.out)
        go_wp2_with fail
        go_quiet ((go_at_call 68; exact quietAfter (weight_any _ _)))
        go_wp2_with fail
        go_roundg g
        case measure => omega
        case rel => exact ⟨k + 1, _, by omega, by go_num, rfl, Lib.hid (by rw [← HC.out, HF.out])⟩
    · have HF := Lib.hid (Wh.cmpL_end hlt (by omega))
      by_cases c1 : a.size < b.size
      · go_wp2_with fail
        all_goals go_ret
        all_goals exact ⟨ret_int (by rw [← HC.out, HF.out, if_pos c1]), _, rfl⟩
      by_cases c2 : b.size < a.size
      · go_wp2_with fail
        all_goals go_ret
        all_goals exact ⟨ret_int (by rw [← HC.out, HF.out, if_neg c1, if_pos c2]), _, rfl⟩
      · go_wp2_with fail
        all_goals go_ret
        all_goals exact ⟨ret_int (by rw [← HC.out, HF.out, if_neg c1, if_neg c2]), _, rfl⟩

end Go.Proofs.YtikegddlbelfaaaGreatDoor
