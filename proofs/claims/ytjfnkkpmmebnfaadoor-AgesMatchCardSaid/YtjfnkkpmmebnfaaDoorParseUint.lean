/-
  strconv.ParseUint at base 10 and 63 bits, at a row of digits.
-/
import Derived.Test.YtjfnkkpmmebnfaaDoorPlainSize
import Derived.Test.YtjfnkkpmmebnfaaDoorBase
import Derived.Lib.ConvBytes
namespace Go.Proofs.YtjfnkkpmmebnfaaDoor
open Go.RowKit

/-- What the library's inner function returns. -/
def uint63 (n : Nat) : Value := if n < 9223372036854775808 then .tuple #[.int .u64 n, .nilIface] else .tuple #[.int .u64 9223372036854775807, .iface 225 (.int .i64 1)]

theorem uint63_ok {n : Nat} (h : n < 9223372036854775808) : uint63 n = .tuple #[.int .u64 n, .nilIface] := by unfold uint63; rw [if_pos h]
theorem uint63_big {n : Nat} (h : ¬ n < 9223372036854775808) : uint63 n = .tuple #[.int .u64 9223372036854775807, .iface 225 (.int .i64 1)] := by unfold uint63; rw [if_neg h]

set_option maxHeartbeats 8000000 in
set_option maxRecDepth 100000 in
theorem parseUint_inner (t : ByteArray) (w : World) (hne : ¬ t.size = 0) (hmax : t.size ≤ 9223372036854775806) (hd : t.data.toList.all Wh.digit = true) :
    Calls Tryd.prog 142 #[.string t, .int .i64 10, .int .i64 63] w fun e w' => e = .returned (uint63 (Wh.dval t.data.toList)) ∧ w' = Lib.bytesWorld w 5 t := by
  have hemp : t.toList.isEmpty = false := by
    rw [← decide_eq_emptyBytes]
    exact decide_eq_false (fun h => hne (by rw [h]; rfl))
  have hcv := Lib.run_convert_string_bytes (P := Tryd.prog) w 9 66 5 t (u := .string) Tryd.underlying9 Tryd.underlying66 Tryd.underlying5
  have hB : ∀ j, j < t.size → (Lib.bytesWorld w 5 t).cell? ⟨w.heap.size, j, none⟩ = some (.int .u8 (t.data.toList.getD j 0).toNat) := fun j hj => Lib.bytesWorld_cell w 5 t j hj
  obtain ⟨W1, hW1⟩ : ∃ W1, W1 = Lib.bytesWorld w 5 t := ⟨_, rfl⟩
  rw [← hW1] at hcv hB ⊢
  clear hW1
  obtain ⟨bs, hL⟩ : ∃ bs, bs = t.data.toList := ⟨_, rfl⟩
  have hLn : bs.length = t.size := by rw [hL, Lib.size_eq]
  rw [← hL] at hB hd ⊢
  clear hL
  have HB := Lib.hid hB
  have HD := Lib.hid hd
  have HLn := Lib.hid hLn
  obtain ⟨R, hR⟩ : ∃ R, uint63 (Wh.dval bs) = R := ⟨_, rfl⟩
  have HR := Lib.hid hR
  rw [hR]
  clear hB hd hLn hR
  have hmv : IntKind.u64.wrap (9223372036854775808 - 1) = 9223372036854775807 := by rw [IntKind.wrap_u64]; decide
  go_enter Tryd.func142, Tryd.ntmps142
  go_wp2
  go_loopg [12, 13, 101] t.size (fun g vu vn vi wx => ∃ (k : Nat) (a : Int), k + g = t.size ∧ vu = .bool false ∧ vn = .int .u64 a ∧ vi = .int .i64 k ∧ wx = W1 ∧ Hid (a = ((Wh.dval (bs.take k) : Nat) : Int) ∧ Wh.dval (bs.take k) < 9223372036854775808))
  case atStart => exact ⟨0, 0, by omega, rfl, rfl, rfl, rfl, Lib.hid ⟨rfl, by simp [Wh.dval]⟩⟩
  case round =>
    obtain ⟨k, a, hk, rfl, rfl, rfl, hw, hh⟩ := hrel
    subst wr
    obtain ⟨ha, hacc⟩ := hh.out
    clear hh
    generalize hAcc : Wh.dval (bs.take k) = acc at *
    have a0 : 0 ≤ a := by omega
    have a1 : a < 9223372036854775808 := by omega
    by_cases hkn : k < t.size
    · obtain ⟨g, rfl⟩ : ∃ g, gk = g + 1 := ⟨gk - 1, by omega⟩
      have hc := HB.out k hkn
      have hgk : bs[k]? = some (bs.getD k 0) := by
        have : k < bs.length := by have := HLn.out; omega
        simp [List.getD, List.getElem?_eq_getElem this]
      generalize bs.getD k 0 = c at hc hgk
      have hdc : 48 ≤ c.toNat ∧ c.toNat ≤ 57 := by
        have := List.all_eq_true.1 HD.out c (List.mem_of_getElem? hgk)
        simpa [Wh.digit] using this
      obtain ⟨hd0, hd1⟩ := hdc
      have hnx : Wh.dval (bs.take (k + 1)) = 10 * acc + (c.toNat - 48) := by rw [List.take_add_one, hgk, Option.toList_some, Wh.dval_snoc, hAcc]; rfl
      have hmono := Wh.dval_mono (bs.take (k + 1)) (bs.drop (k + 1))
      rw [List.take_append_drop, hnx] at hmono
      have HNx := Lib.hid hnx
      clear hnx hgk hAcc
      by_cases hcut : 1844674407370955162 ≤ acc
      · have HF : Hid (R = .tuple #[.int .u64 9223372036854775807, .iface 225 (.int .i64 1)]) := Lib.hid (by rw [← HR.out, uint63_big (by omega)])
        have icut : 1844674407370955162 ≤ a := by omega
        clear hcut hacc ha hmono
        go_wp2
        go_ret2
        exact ⟨by rw [HF.out]; rfl, rfl⟩
      · by_cases hov : 9223372036854775808 ≤ 10 * acc + (c.toNat - 48)
        · have HF : Hid (R = .tuple #[.int .u64 9223372036854775807, .iface 225 (.int .i64 1)]) := Lib.hid (by rw [← HR.out, uint63_big (by omega)])
          have icut : a < 1844674407370955162 := by omega
          have iov : 9223372036854775808 ≤ a * 10 + ((c.toNat : Int) - 48) := by omega
          have iov2 : a * 10 + ((c.toNat : Int) - 48) < 18446744073709551630 := by omega
          clear hcut hacc hov ha hmono
          by_cases hw64 : a * 10 + ((c.toNat : Int) - 48) < 18446744073709551616
          · go_wp2
            go_ret2
            exact ⟨by rw [HF.out]; rfl, rfl⟩
          · have hwr : IntKind.u64.wrap (a * 10 + ((c.toNat : Int) - 48)) = a * 10 + ((c.toNat : Int) - 48) - 18446744073709551616 := by
              rw [IntKind.wrap_u64]
              omega
            go_wp2
            go_ret2
            exact ⟨by rw [HF.out]; rfl, rfl⟩
        · have HN : Hid (a * 10 + ((c.toNat : Int) - 48) = ((Wh.dval (bs.take (k + 1)) : Nat) : Int) ∧ Wh.dval (bs.take (k + 1)) < 9223372036854775808) := Lib.hid ⟨by rw [HNx.out]; omega, by rw [HNx.out]; omega⟩
          have icut : a < 1844674407370955162 := by omega
          have iov : a * 10 + ((c.toNat : Int) - 48) < 9223372036854775808 := by omega
          clear hcut hacc hov ha hmono
          go_wp2
          go_roundg g
          case measure => omega
          case rel => exact ⟨k + 1, a * 10 + ((c.toNat : Int) - 48), by omega, rfl, rfl, by go_num, rfl, HN⟩
    · have HF : Hid (R = .tuple #[.int .u64 a, .nilIface]) := Lib.hid (by
        have h1 : bs.take k = bs := List.take_of_length_le (by have := HLn.out; omega)
        rw [h1] at hAcc
        rw [← HR.out, hAcc, uint63_ok hacc, ha])
      clear hacc ha hAcc
      go_wp2
      go_ret2
      exact ⟨by rw [HF.out]; rfl, rfl⟩
end Go.Proofs.YtjfnkkpmmebnfaaDoor
