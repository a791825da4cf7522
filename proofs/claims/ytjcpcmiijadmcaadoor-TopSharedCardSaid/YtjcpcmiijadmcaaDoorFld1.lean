/-
  seal.times, seal.inverse.
-/
import Derived.Test.YtjcpcmiijadmcaaDoorPlainShare
namespace Wh.Fld
theorem gm_zero (n : Nat) : ∀ a : F, gm n a 0#8 = 0#8 := by
  induction n with
  | zero => intro a; rfl
  | succ n ih => intro a; simp [gm, ih]
theorem invGo_zero (k : Nat) : ∀ o a : F, invGo k o a 0 = o := by
  induction k with
  | zero => intro o a; rfl
  | succ k ih => intro o a; simp [invGo, ih]
end Wh.Fld
namespace Go.Proofs.YtjcpcmiijadmcaaDoor
open Go.RowKit Wh.Fld

/-- A number of the field, as a value. -/
abbrev vf (a : F) : Value := .int .u8 a.toNat

theorem ofInt_nat (a : F) : BitVec.ofInt 8 (a.toNat : Int) = a := by
  rw [BitVec.ofInt_natCast, BitVec.ofNat_toNat, BitVec.setWidth_eq]
theorem wrap_u8 (n : Nat) (h : n < 256) : IntKind.u8.wrap (n : Int) = (n : Int) := by
  unfold IntKind.wrap
  simp [IntKind.bits, IntKind.signed]
  omega
theorem bits_xor (a b : F) : bits BinOp.xor IntKind.u8 (a.toNat : Int) (b.toNat : Int) = ((a ^^^ b).toNat : Int) := by
  show IntKind.u8.wrap ((BitVec.ofInt 8 (a.toNat : Int) ^^^ BitVec.ofInt 8 (b.toNat : Int)).toNat : Int) = _
  rw [ofInt_nat, ofInt_nat]
  exact wrap_u8 _ (a ^^^ b).isLt
theorem bits_and (a b : F) : bits BinOp.and IntKind.u8 (a.toNat : Int) (b.toNat : Int) = ((a &&& b).toNat : Int) := by
  show IntKind.u8.wrap ((BitVec.ofInt 8 (a.toNat : Int) &&& BitVec.ofInt 8 (b.toNat : Int)).toNat : Int) = _
  rw [ofInt_nat, ofInt_nat]
  exact wrap_u8 _ (a &&& b).isLt
theorem low_bit : ∀ b : F, (b &&& 1#8).toNat = if b.getLsbD 0 then 1 else 0 := by decide +kernel
theorem high_bit : ∀ a : F, (a &&& 128#8).toNat = if a.msb then 128 else 0 := by decide +kernel
theorem twice : ∀ a : F, (a <<< 1).toNat = a.toNat * 2 % 256 := by decide +kernel
theorem half : ∀ b : F, (b >>> 1).toNat = b.toNat / 2 := by decide +kernel

theorem vf_eq {n : Int} {a : F} (h : n = (a.toNat : Int)) : Value.int .u8 n = vf a := by rw [h]

set_option maxHeartbeats 1000000 in
theorem times_any (A B : F) (w : World) : Calls Tryd.prog 42 #[vf A, vf B] w fun e w' => e = .returned (vf (mul A B)) ∧ w = w' := by
  go_enter Tryd.func42, Tryd.ntmps42
  go_wp2_with fail
  go_loopg [0, 1, 5] 8 (fun g s0 s1 s5 wx => ∃ a b o : F, s0 = vf a ∧ s1 = vf b ∧ s5 = vf o ∧ b.toNat < 2 ^ g ∧ w = wx ∧ Hid (o ^^^ gm g a b = mul A B))
  case atStart => exact ⟨A, B, 0#8, rfl, rfl, rfl, B.isLt, rfl, Lib.hid (by rw [BitVec.zero_xor]; rfl)⟩
  case round =>
    obtain ⟨a, b, o, rfl, rfl, rfl, hb, rfl, HG⟩ := hrel
    by_cases h0 : 0 < b.toNat
    · obtain ⟨g, rfl⟩ : ∃ g, gk = g + 1 := ⟨gk - 1, by cases gk with | zero => simp at hb; omega | succ n => rfl⟩
      have f1 : bits BinOp.and IntKind.u8 (b.toNat : Int) 1 = ((b &&& 1#8).toNat : Int) := bits_and b 1#8
      have f2 : bits BinOp.and IntKind.u8 (a.toNat : Int) 128 = ((a &&& 128#8).toNat : Int) := bits_and a 128#8
      have F3 := Lib.hid (bits_xor o a)
      have f5 : (a.toNat : Int) * (2 : Int) % (256 : Int) = ((a <<< 1).toNat : Int) := by rw [twice]; omega
      have F4 : Hid (bits BinOp.xor IntKind.u8 ((a.toNat : Int) * 2 % 256) 27 = ((a <<< 1 ^^^ 27#8).toNat : Int)) := Lib.hid (by rw [f5]; exact bits_xor (a <<< 1) 27#8)
      have F5 := Lib.hid f5
      have F6 : Hid ((b.toNat : Int) / (2 : Int) = ((b >>> 1).toNat : Int)) := Lib.hid (by rw [half]; omega)
      clear f5
      rw [low_bit] at f1
      rw [high_bit] at f2
      have k1 : b.getLsbD 0 = true → bits BinOp.and IntKind.u8 (b.toNat : Int) 1 = 1 := fun h => by rw [f1, h]; rfl
      have k2 : b.getLsbD 0 = false → bits BinOp.and IntKind.u8 (b.toNat : Int) 1 = 0 := fun h => by rw [f1, h]; rfl
      have k3 : a.msb = true → bits BinOp.and IntKind.u8 (a.toNat : Int) 128 = 128 := fun h => by rw [f2, h]; rfl
      have k4 : a.msb = false → bits BinOp.and IntKind.u8 (a.toNat : Int) 128 = 0 := fun h => by rw [f2, h]; rfl
      clear f1 f2
      have hb2 : (b >>> 1).toNat < 2 ^ g := by
        rw [half]
        have : (2 : Nat) ^ (g + 1) = 2 * 2 ^ g := Nat.pow_succ'
        omega
      have HG2 : Hid (o ^^^ ((bif b.getLsbD 0 then a else 0#8) ^^^ gm g ((a <<< 1) ^^^ (bif a.msb then 27#8 else 0#8)) (b >>> 1)) = mul A B) := HG
      clear HG hb
      generalize b.getLsbD 0 = lo at *
      generalize a.msb = hi at *
      cases lo
      case' true =>
        have q1 := k1 rfl
      case' false =>
        have q1 := k2 rfl
      all_goals
        clear k1 k2
        cases hi
      case' true.true => have q2 := k3 rfl
      case' false.true => have q2 := k3 rfl
      case' true.false => have q2 := k4 rfl
      case' false.false => have q2 := k4 rfl
      all_goals
        clear k3 k4
        go_wp2_with fail
        go_roundg g
        case measure => omega
        case rel =>
          first
            | exact ⟨a <<< 1, b >>> 1, o, vf_eq F5.out, vf_eq F6.out, rfl, hb2, rfl, Lib.hid (by have := HG2.out; simpa using this)⟩
            | exact ⟨a <<< 1 ^^^ 27#8, b >>> 1, o, vf_eq F4.out, vf_eq F6.out, rfl, hb2, rfl, Lib.hid (by have := HG2.out; simpa using this)⟩
            | exact ⟨a <<< 1, b >>> 1, o ^^^ a, vf_eq F5.out, vf_eq F6.out, vf_eq F3.out, hb2, rfl, Lib.hid (by have := HG2.out; rw [BitVec.xor_assoc]; simpa using this)⟩
            | exact ⟨a <<< 1 ^^^ 27#8, b >>> 1, o ^^^ a, vf_eq F4.out, vf_eq F6.out, vf_eq F3.out, hb2, rfl, Lib.hid (by have := HG2.out; rw [BitVec.xor_assoc]; simpa using this)⟩
    · have hz : b = 0#8 := by
        apply BitVec.eq_of_toNat_eq
        simp only [BitVec.toNat_ofNat]
        omega
      have HR : Hid (o = mul A B) := Lib.hid (by have := HG.out; rw [hz, gm_zero, BitVec.xor_zero] at this; exact this)
      have h1 : vf b = .int .u8 0 := by rw [hz]; rfl
      rw [h1]
      clear HG h0 hb hz h1
      go_wp2_with fail
      go_ret
      exact ⟨congrArg (fun x => Ending.returned (vf x)) HR.out, rfl⟩

theorem odd_i64 : ∀ n : Fin 256, bits BinOp.and IntKind.i64 ((n.1 : Nat) : Int) 1 = ((n.1 % 2 : Nat) : Int) := by decide +kernel

set_option maxHeartbeats 1000000 in
set_option maxRecDepth 100000 in
theorem inverse_any (A : F) (w : World) : Calls Tryd.prog 100 #[vf A] w fun e w' => e = .returned (vf (inv A)) ∧ w = w' := by
  go_enter Tryd.func100, Tryd.ntmps100
  go_wp2_with fail
  go_loopg [0, 3, 4] 8 (fun g s0 s3 s4 wx => ∃ (a o : F) (n : Nat), s0 = vf a ∧ s3 = vf o ∧ s4 = .int .i64 n ∧ n < 2 ^ g ∧ n < 256 ∧ w = wx ∧ Hid (invGo g o a n = inv A))
  case atStart => exact ⟨A, 1#8, 254, rfl, rfl, rfl, by decide, by decide, rfl, Lib.hid rfl⟩
  case round =>
    obtain ⟨a, o, n, rfl, rfl, rfl, hn, hn2, rfl, HG⟩ := hrel
    by_cases h0 : 0 < n
    · obtain ⟨g, rfl⟩ : ∃ g, gk = g + 1 := ⟨gk - 1, by cases gk with | zero => simp at hn; omega | succ n => rfl⟩
      have q1 := odd_i64 ⟨n, hn2⟩
      have hb2 : n / 2 < 2 ^ g := by
        have : (2 : Nat) ^ (g + 1) = 2 * 2 ^ g := Nat.pow_succ'
        omega
      have F6 : Hid ((n : Int) / (2 : Int) = ((n / 2 : Nat) : Int)) := Lib.hid (by omega)
      have HG2 : Hid (invGo g (if n % 2 = 1 then mul o a else o) (mul a a) (n / 2) = inv A) := HG
      simp only [] at q1
      clear HG hn
      rcases (by omega : n % 2 = 0 ∨ n % 2 = 1) with hm | hm
      · rw [hm] at q1 HG2
        clear hm
        go_wp2_with (go_at_call 42; refine (times_any a a _).mono ?_; rintro e w' ⟨rfl, rfl⟩)
        go_roundg g
        case measure => omega
        case rel => exact ⟨mul a a, o, n / 2, rfl, rfl, by rw [← F6.out], hb2, by omega, rfl, HG2⟩
      · rw [hm] at q1 HG2
        clear hm
        go_wp2_with (go_at_call 42; (with_reducible refine (times_any _ _ _).mono ?_); rintro e w' ⟨rfl, rfl⟩)
        go_roundg g
        case measure => omega
        case rel => exact ⟨mul a a, mul o a, n / 2, rfl, rfl, by rw [← F6.out], hb2, by omega, rfl, HG2⟩
    · obtain rfl : n = 0 := by omega
      have HR : Hid (o = inv A) := Lib.hid (by have := HG.out; rw [invGo_zero] at this; exact this)
      clear HG h0 hn hn2
      go_wp2_with fail
      go_ret
      exact ⟨congrArg (fun x => Ending.returned (vf x)) HR.out, rfl⟩
end Go.Proofs.YtjcpcmiijadmcaaDoor
