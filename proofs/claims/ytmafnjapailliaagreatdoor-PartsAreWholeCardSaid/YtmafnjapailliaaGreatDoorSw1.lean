/-
  Words of 32 bits as values; bits.RotateLeft32.
-/
import Derived.Test.YtmafnjapailliaaGreatDoorSha1
import Derived.Test.YtmafnjapailliaaGreatDoorBoxG
import Derived.Test.YtmafnjapailliaaGreatDoorOwn
import Derived.BigQuiet
namespace Go.Proofs.YtmafnjapailliaaGreatDoor
open Go.RowKit Wh.Sha

/-- A word, as a value. -/
abbrev vw (a : W) : Value := .int .u32 a.toNat

theorem ofInt_w (a : W) : BitVec.ofInt 32 (a.toNat : Int) = a := by
  rw [BitVec.ofInt_natCast, BitVec.ofNat_toNat, BitVec.setWidth_eq]
theorem wrap_u32 (n : Nat) (h : n < 4294967296) : IntKind.u32.wrap (n : Int) = (n : Int) := by
  unfold IntKind.wrap
  simp [IntKind.bits, IntKind.signed]
  omega
theorem w_xor (a b : W) : bits BinOp.xor IntKind.u32 (a.toNat : Int) (b.toNat : Int) = ((a ^^^ b).toNat : Int) := by
  show IntKind.u32.wrap ((BitVec.ofInt 32 (a.toNat : Int) ^^^ BitVec.ofInt 32 (b.toNat : Int)).toNat : Int) = _
  rw [ofInt_w, ofInt_w]
  exact wrap_u32 _ (a ^^^ b).isLt
theorem w_and (a b : W) : bits BinOp.and IntKind.u32 (a.toNat : Int) (b.toNat : Int) = ((a &&& b).toNat : Int) := by
  show IntKind.u32.wrap ((BitVec.ofInt 32 (a.toNat : Int) &&& BitVec.ofInt 32 (b.toNat : Int)).toNat : Int) = _
  rw [ofInt_w, ofInt_w]
  exact wrap_u32 _ (a &&& b).isLt
theorem w_or (a b : W) : bits BinOp.or IntKind.u32 (a.toNat : Int) (b.toNat : Int) = ((a ||| b).toNat : Int) := by
  show IntKind.u32.wrap ((BitVec.ofInt 32 (a.toNat : Int) ||| BitVec.ofInt 32 (b.toNat : Int)).toNat : Int) = _
  rw [ofInt_w, ofInt_w]
  exact wrap_u32 _ (a ||| b).isLt
theorem w_not (a : W) : bits BinOp.xor IntKind.u32 4294967295 (a.toNat : Int) = ((~~~a).toNat : Int) := by
  show IntKind.u32.wrap ((BitVec.ofInt 32 4294967295 ^^^ BitVec.ofInt 32 (a.toNat : Int)).toNat : Int) = _
  rw [ofInt_w, show BitVec.ofInt 32 4294967295 = BitVec.allOnes 32 from rfl, BitVec.allOnes_xor]
  exact wrap_u32 _ (~~~a).isLt
theorem w_add (a b : W) : ((a.toNat : Int) + (b.toNat : Int)) % 4294967296 = ((a + b).toNat : Int) := by
  rw [BitVec.toNat_add]
  omega
theorem w_shl (a : W) (n : Nat) : ((a.toNat : Int) * 2 ^ n) % 4294967296 = ((a <<< n).toNat : Int) := by
  have h : (((a.toNat * 2 ^ n : Nat)) : Int) = (a.toNat : Int) * 2 ^ n := by rw [Int.natCast_mul, Int.natCast_pow]; rfl
  rw [BitVec.toNat_shiftLeft, Nat.shiftLeft_eq, ← h]
  generalize a.toNat * 2 ^ n = m
  omega
theorem w_shr (a : W) (n : Nat) : ((a.toNat : Int)) / 2 ^ n = ((a >>> n).toNat : Int) := by
  have h : (((2 ^ n : Nat)) : Int) = (2 : Int) ^ n := by rw [Int.natCast_pow]; rfl
  rw [BitVec.toNat_ushiftRight, Nat.shiftRight_eq_div_pow, Int.natCast_ediv, h]
/-! Words' operations under names of their own: a walk's simp leaves them as they are. -/
def xW (a b : W) : W := a ^^^ b
def aW (a b : W) : W := a &&& b
def oW (a b : W) : W := a ||| b
def nW (a : W) : W := ~~~a
def pW (a b : W) : W := a + b
def lW (n : Nat) (a : W) : W := a <<< n
def rW (n : Nat) (a : W) : W := a >>> n
theorem n_xor (a b : W) : bits BinOp.xor IntKind.u32 (a.toNat : Int) (b.toNat : Int) = ((xW a b).toNat : Int) := w_xor a b
theorem n_and (a b : W) : bits BinOp.and IntKind.u32 (a.toNat : Int) (b.toNat : Int) = ((aW a b).toNat : Int) := w_and a b
theorem n_or (a b : W) : bits BinOp.or IntKind.u32 (a.toNat : Int) (b.toNat : Int) = ((oW a b).toNat : Int) := w_or a b
theorem n_not (a : W) : bits BinOp.xor IntKind.u32 4294967295 (a.toNat : Int) = ((nW a).toNat : Int) := w_not a
theorem n_notm (a : W) : bits BinOp.xor IntKind.u32 IntKind.u32.max (a.toNat : Int) = ((nW a).toNat : Int) := w_not a
theorem n_add (a b : W) : ((a.toNat : Int) + (b.toNat : Int)) % 4294967296 = ((pW a b).toNat : Int) := w_add a b
theorem n_addw (a b : W) : IntKind.u32.wrap ((a.toNat : Int) + (b.toNat : Int)) = ((pW a b).toNat : Int) := by rw [← n_add]; rfl
theorem n_l24 (a : W) : (a.toNat : Int) * 16777216 % 4294967296 = ((lW 24 a).toNat : Int) := w_shl a 24
theorem n_l16 (a : W) : (a.toNat : Int) * 65536 % 4294967296 = ((lW 16 a).toNat : Int) := w_shl a 16
theorem n_l8 (a : W) : (a.toNat : Int) * 256 % 4294967296 = ((lW 8 a).toNat : Int) := w_shl a 8
theorem n_l24w (a : W) : IntKind.u32.wrap ((a.toNat : Int) * 16777216) = ((lW 24 a).toNat : Int) := by rw [← n_l24]; rfl
theorem n_l16w (a : W) : IntKind.u32.wrap ((a.toNat : Int) * 65536) = ((lW 16 a).toNat : Int) := by rw [← n_l16]; rfl
theorem n_l8w (a : W) : IntKind.u32.wrap ((a.toNat : Int) * 256) = ((lW 8 a).toNat : Int) := by rw [← n_l8]; rfl
theorem n_r3 (a : W) : (a.toNat : Int) / 8 = ((rW 3 a).toNat : Int) := w_shr a 3
theorem n_r8 (a : W) : (a.toNat : Int) / 256 = ((rW 8 a).toNat : Int) := w_shr a 8
theorem n_r10 (a : W) : (a.toNat : Int) / 1024 = ((rW 10 a).toNat : Int) := w_shr a 10
theorem n_r16 (a : W) : (a.toNat : Int) / 65536 = ((rW 16 a).toNat : Int) := w_shr a 16
theorem n_r24 (a : W) : (a.toNat : Int) / 16777216 = ((rW 24 a).toNat : Int) := w_shr a 24
theorem vw_eq {n : Int} {a : W} (h : n = (a.toNat : Int)) : Value.int .u32 n = vw a := by rw [h]

/-- What bits.RotateLeft32 makes of a word, by any number. -/
def rotK (k : Int) (x : W) : W := let s := ((BitVec.ofInt 64 k) &&& 31#64).toNat; x <<< s ||| x >>> (32 - s)
theorem rotK_bound (k : Int) : ((BitVec.ofInt 64 k) &&& 31#64).toNat ≤ 31 := by
  rw [BitVec.toNat_and]
  exact Nat.le_trans Nat.and_le_right (by decide)
theorem wrap_u64 (n : Nat) (h : n < 18446744073709551616) : IntKind.u64.wrap (n : Int) = (n : Int) := by
  unfold IntKind.wrap
  simp [IntKind.bits, IntKind.signed]
  omega
theorem and31 (k : Int) : bits BinOp.and IntKind.u64 (IntKind.u64.wrap k) 31 = ((((BitVec.ofInt 64 k) &&& 31#64).toNat : Nat) : Int) := by
  have e : BitVec.ofInt 64 (IntKind.u64.wrap k) = BitVec.ofInt 64 k := by
    apply BitVec.eq_of_toInt_eq
    rw [BitVec.toInt_ofInt, BitVec.toInt_ofInt]
    unfold IntKind.wrap
    simp [IntKind.bits, IntKind.signed]
    first | exact Int.emod_bmod .. | (unfold Int.bmod; omega)
  show IntKind.u64.wrap ((BitVec.ofInt 64 (IntKind.u64.wrap k) &&& BitVec.ofInt 64 31).toNat : Int) = _
  rw [e]
  have h := rotK_bound k
  have h2 : (BitVec.ofInt 64 k &&& BitVec.ofInt 64 31).toNat = ((BitVec.ofInt 64 k) &&& 31#64).toNat := rfl
  rw [h2]
  exact wrap_u64 _ (by omega)

theorem rotate_any (x : W) (k : Int) (w : World) : Calls Tryz.prog 366 #[vw x, .int .i64 k] w fun e w' => e = .returned (vw (rotK k x)) ∧ w' = w := by
  have h1 := and31 k
  have h2 := rotK_bound k
  obtain ⟨s, hs⟩ : ∃ s, ((BitVec.ofInt 64 k) &&& 31#64).toNat = s := ⟨_, rfl⟩
  rw [hs] at h1 h2
  have HS := Lib.hid hs
  clear hs
  go_enter Tryz.func366, Tryz.ntmps366
  have E : Hid (bits BinOp.or IntKind.u32 ((x.toNat : Int) * 2 ^ s % 4294967296) ((x.toNat : Int) / 2 ^ (32 - s)) = ((rotK k x).toNat : Int)) := Lib.hid (by
    rw [w_shl, w_shr, w_or, ← HS.out]
    rfl)
  go_wp2_with fail
  go_ret
  exact ⟨congrArg (fun n => Ending.returned (.int .u32 n)) E.out, rfl⟩
end Go.Proofs.YtmafnjapailliaaGreatDoor
