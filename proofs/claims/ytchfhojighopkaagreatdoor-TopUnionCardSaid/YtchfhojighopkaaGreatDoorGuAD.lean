/-
  Parts of the proof: Clean, Own, Sw1.
-/
import Derived.Test.YtchfhojighopkaaGreatDoorGuAC
import Derived.Test.YtchfhojighopkaaGreatDoorGuAB
import Derived.Deep.RegionHeld3
import Derived.Deep.DeepCutAuto
import Derived.Deep.RegionLaw
import Derived.Deep.AppendLies
import Derived.BigQuiet
namespace Go.Proofs.YtchfhojighopkaaGreatDoor
open Go.RowKit

/-- A row of the call's own, as a slice's value. -/
theorem own_form {w : World} {base : Nat} {e : TypeId} {v : Value} {n : Nat} {xs : List Value} (h : w.ownsRow base e 1 v n xs) :
  ∃ a cap, v = .slice a n cap ∧ n ≤ cap ∧ (0 < n → ∃ g, a = some ⟨g, 0, none⟩) := by
 obtain ⟨h1, h2⟩ := h
 rcases h2 with ⟨rfl, rfl⟩ | ⟨g, cap, cur, rfl, _, _, hn, _⟩
 ·exact ⟨none, 0, rfl, Nat.le_refl _, fun h => absurd h (by omega)⟩
 ·exact ⟨_, _, rfl, hn, fun _ => ⟨g, rfl⟩⟩

theorem own_holds {w : World} {base : Nat} {e : TypeId} {a : Option Addr} {n c : Nat} {xs : List Value} (h : w.ownsRow base e 1 (.slice a n c) n xs) : Holds w a xs := by
 obtain ⟨h1, h2⟩ := h
 rcases h2 with ⟨_, rfl⟩ | ⟨g, cap, cur, hv, _, hg, hn, _, hsz, htk⟩
 ·simp at h1
  exact .inl h1
 ·injection hv with hv1
  subst hv1
  refine .inr ⟨g, 0, rfl, (Array.getElem?_eq_some_iff.1 hg).1, fun j u hu => ?_⟩
  rw [Nat.zero_add]
  have hjl : j < n := by have := (List.getElem?_eq_some_iff.1 hu).1; omega
  rw [← htk, List.getElem?_take_of_lt (by omega)] at hu
  simp only [World.cell?, hg]
  simpa using hu

end Go.Proofs.YtchfhojighopkaaGreatDoor
namespace Go.Proofs.YtchfhojighopkaaGreatDoor
open Go.RowKit

/-- The type of a slice's elements: one cell each. -/
def ElemOk (P : Program) (t e : TypeId) (z : Value) (bytes : Nat) : Prop :=
 ∃ i : TypeInfo, P.underlying t = some (.slice e) ∧ P.info? e = some i ∧ i.zero = some z ∧ i.size = 1 ∧ i.bytes = bytes ∧ z.cells.size = 1

/-- A row that was made since w0; nothing older has changed. -/
def Own (e : TypeId) (w0 wx : World) (a : Option Addr) (n cap : Nat) (xs : List Value) : Prop :=
 wx.ownsRow w0.heap.size e 1 (.slice a n cap) n xs ∧ Below w0.heap.size w0 wx

theorem Own.nil (e : TypeId) (w0 : World) : Own e w0 w0 none 0 0 [] := ⟨⟨rfl, .inl ⟨rfl, rfl⟩⟩, Below.refl _ _⟩
theorem Own.nil_at (e : TypeId) {w0 wx : World} (hb : Below w0.heap.size w0 wx) : Own e w0 wx none 0 0 [] := ⟨⟨rfl, .inl ⟨rfl, rfl⟩⟩, hb⟩
theorem Own.below {e : TypeId} {w0 wx : World} {a : Option Addr} {n cap : Nat} {xs : List Value} (h : Own e w0 wx a n cap xs) : Below w0.heap.size w0 wx := h.2
theorem Own.holds {e : TypeId} {w0 wx : World} {a : Option Addr} {n cap : Nat} {xs : List Value} (h : Own e w0 wx a n cap xs) : Holds wx a xs := own_holds h.1
theorem Own.cap {e : TypeId} {w0 wx : World} {a : Option Addr} {n cap : Nat} {xs : List Value} (h : Own e w0 wx a n cap xs) : n ≤ cap := by
 obtain ⟨a', cap', hv, hnc, _⟩ := own_form h.1
 injection hv with _ _ hv3
 omega
theorem Own.len {e : TypeId} {w0 wx : World} {a : Option Addr} {n cap : Nat} {xs : List Value} (h : Own e w0 wx a n cap xs) : xs.length = n := by
 have := h.1.1
 omega

/-- Behind calls that leave all that was there as it was. -/
theorem Own.under {e : TypeId} {w0 wx w' : World} {a : Option Addr} {n cap : Nat} {xs : List Value} (h : Own e w0 wx a n cap xs) (hb : Below wx.heap.size wx w') : Own e w0 w' a n cap xs := by
 refine ⟨⟨h.1.1, ?_⟩, bTrans h.2 hb⟩
 rcases h.1.2 with hn | ⟨g, c, cur, hv, h1, h2, h3⟩
 ·exact .inl hn
 ·refine .inr ⟨g, c, cur, hv, h1, ?_, h3⟩
  have hg := (Array.getElem?_eq_some_iff.1 h2).1
  rw [hb.block g hg]
  exact h2
theorem Own.drew {e : TypeId} {w0 wx : World} {a : Option Addr} {n cap : Nat} {xs : List Value} (h : Own e w0 wx a n cap xs) : Own e w0 wx.drew a n cap xs := h.under ⟨rfl, rfl, rfl, Nat.le_refl _, fun _ _ => rfl⟩

section
variable {P : Program}

end

/-- A byte, as a value. -/
abbrev vb (b : UInt8) : Value := .int .u8 b.toNat
theorem elem_byte : ElemOk Tryz.prog 125 5 (.int .u8 0) 1 := by
 obtain ⟨i0, hi, hz0, hz1, hz2⟩ := info_parts (show (Tryz.prog.info? 5).map (fun i => (i.zero, i.size, i.bytes)) = some (some (.int .u8 0), 1, 1) by kernel_rfl)
 exact ⟨i0, Tryz.underlying125, hi, hz0, hz1, hz2, rfl⟩
theorem one_bytes (news : List UInt8) : ∀ u ∈ news.map vb, u.oneCell' = true := by
 intro u hu
 obtain ⟨b, _, rfl⟩ := List.mem_map.1 hu
 rfl

/-- Bytes of the call's own. -/
def OwnB (w0 wx : World) (a : Option Addr) (cap : Nat) (out : List UInt8) : Prop := Own 5 w0 wx a out.length cap (out.map vb)
theorem OwnB.nil {w0 wx : World} (hb : Below w0.heap.size w0 wx) : OwnB w0 wx none 0 [] := Own.nil_at _ hb
theorem OwnB.under {w0 wx w' : World} {a : Option Addr} {cap : Nat} {out : List UInt8} (h : OwnB w0 wx a cap out) (hb : Below wx.heap.size wx w') : OwnB w0 w' a cap out := Own.under h hb
theorem OwnB.below {w0 wx : World} {a : Option Addr} {cap : Nat} {out : List UInt8} (h : OwnB w0 wx a cap out) : Below w0.heap.size w0 wx := h.2

/-- Texts of the call's own. -/
def OwnS (w0 wx : World) (a : Option Addr) (cap : Nat) (out : List ByteArray) : Prop := Own 9 w0 wx a out.length cap (out.map Value.string)
theorem OwnS.nil {w0 wx : World} (hb : Below w0.heap.size w0 wx) : OwnS w0 wx none 0 [] := Own.nil_at _ hb
theorem OwnS.under {w0 wx w' : World} {a : Option Addr} {cap : Nat} {out : List ByteArray} (h : OwnS w0 wx a cap out) (hb : Below wx.heap.size wx w') : OwnS w0 w' a cap out := Own.under h hb
theorem OwnS.below {w0 wx : World} {a : Option Addr} {cap : Nat} {out : List ByteArray} (h : OwnS w0 wx a cap out) : Below w0.heap.size w0 wx := h.2

end Go.Proofs.YtchfhojighopkaaGreatDoor
namespace Go.Proofs.YtchfhojighopkaaGreatDoor
open Go.RowKit Wh.Sha

/-- A word, as a value. -/
abbrev vw (a : W) : Value := .int .u32 a.toNat

theorem ofInt_w (a : W) : BitVec.ofInt 32 (a.toNat : Int) = a := by
 rw [BitVec.ofInt_natCast, BitVec.ofNat_toNat, BitVec.setWidth_eq]
theorem wrap_u32 (n : Nat) (h : n < 4294967296) : IntKind.u32.wrap (n : Int) = (n : Int) := by
 unfold IntKind.wrap
 simp [IntKind.bits, IntKind.signed]
 omega
theorem w_xor (a b : W) : bits BinOp.xor IntKind.u32 (a.toNat : Int) (b.toNat : Int) = ((a ^^^ b).toNat : Int) := by
 show IntKind.u32.wrap ((BitVec.ofInt 32 (a.toNat : Int) ^^^ BitVec.ofInt 32 (b.toNat : Int)).toNat : Int) = _
 rw [ofInt_w, ofInt_w]
 exact wrap_u32 _ (a ^^^ b).isLt
theorem w_and (a b : W) : bits BinOp.and IntKind.u32 (a.toNat : Int) (b.toNat : Int) = ((a &&& b).toNat : Int) := by
 show IntKind.u32.wrap ((BitVec.ofInt 32 (a.toNat : Int) &&& BitVec.ofInt 32 (b.toNat : Int)).toNat : Int) = _
 rw [ofInt_w, ofInt_w]
 exact wrap_u32 _ (a &&& b).isLt
theorem w_or (a b : W) : bits BinOp.or IntKind.u32 (a.toNat : Int) (b.toNat : Int) = ((a ||| b).toNat : Int) := by
 show IntKind.u32.wrap ((BitVec.ofInt 32 (a.toNat : Int) ||| BitVec.ofInt 32 (b.toNat : Int)).toNat : Int) = _
 rw [ofInt_w, ofInt_w]
 exact wrap_u32 _ (a ||| b).isLt
theorem w_not (a : W) : bits BinOp.xor IntKind.u32 4294967295 (a.toNat : Int) = ((~~~a).toNat : Int) := by
 show IntKind.u32.wrap ((BitVec.ofInt 32 4294967295 ^^^ BitVec.ofInt 32 (a.toNat : Int)).toNat : Int) = _
 rw [ofInt_w, show BitVec.ofInt 32 4294967295 = BitVec.allOnes 32 from rfl, BitVec.allOnes_xor]
 exact wrap_u32 _ (~~~a).isLt
theorem w_add (a b : W) : ((a.toNat : Int) + (b.toNat : Int)) % 4294967296 = ((a + b).toNat : Int) := by
 rw [BitVec.toNat_add]
 omega
theorem w_shl (a : W) (n : Nat) : ((a.toNat : Int) * 2 ^ n) % 4294967296 = ((a <<< n).toNat : Int) := by
 have h : (((a.toNat * 2 ^ n : Nat)) : Int) = (a.toNat : Int) * 2 ^ n := by rw [Int.natCast_mul, Int.natCast_pow]; rfl
 rw [BitVec.toNat_shiftLeft, Nat.shiftLeft_eq, ← h]
 generalize a.toNat * 2 ^ n = m
 omega
theorem w_shr (a : W) (n : Nat) : ((a.toNat : Int)) / 2 ^ n = ((a >>> n).toNat : Int) := by
 have h : (((2 ^ n : Nat)) : Int) = (2 : Int) ^ n := by rw [Int.natCast_pow]; rfl
 rw [BitVec.toNat_ushiftRight, Nat.shiftRight_eq_div_pow, Int.natCast_ediv, h]
/-! Words' operations under names of their own: a walk's simp leaves them as they are. -/
def xW (a b : W) : W := a ^^^ b
def aW (a b : W) : W := a &&& b
def oW (a b : W) : W := a ||| b
def nW (a : W) : W := ~~~a
def pW (a b : W) : W := a + b
def lW (n : Nat) (a : W) : W := a <<< n
def rW (n : Nat) (a : W) : W := a >>> n
theorem n_xor (a b : W) : bits BinOp.xor IntKind.u32 (a.toNat : Int) (b.toNat : Int) = ((xW a b).toNat : Int) := w_xor a b
theorem n_and (a b : W) : bits BinOp.and IntKind.u32 (a.toNat : Int) (b.toNat : Int) = ((aW a b).toNat : Int) := w_and a b
theorem n_or (a b : W) : bits BinOp.or IntKind.u32 (a.toNat : Int) (b.toNat : Int) = ((oW a b).toNat : Int) := w_or a b
theorem n_not (a : W) : bits BinOp.xor IntKind.u32 4294967295 (a.toNat : Int) = ((nW a).toNat : Int) := w_not a
theorem n_notm (a : W) : bits BinOp.xor IntKind.u32 IntKind.u32.max (a.toNat : Int) = ((nW a).toNat : Int) := w_not a
theorem n_add (a b : W) : ((a.toNat : Int) + (b.toNat : Int)) % 4294967296 = ((pW a b).toNat : Int) := w_add a b
theorem n_addw (a b : W) : IntKind.u32.wrap ((a.toNat : Int) + (b.toNat : Int)) = ((pW a b).toNat : Int) := by rw [← n_add]; rfl
theorem n_l24 (a : W) : (a.toNat : Int) * 16777216 % 4294967296 = ((lW 24 a).toNat : Int) := w_shl a 24
theorem n_l16 (a : W) : (a.toNat : Int) * 65536 % 4294967296 = ((lW 16 a).toNat : Int) := w_shl a 16
theorem n_l8 (a : W) : (a.toNat : Int) * 256 % 4294967296 = ((lW 8 a).toNat : Int) := w_shl a 8
theorem n_l24w (a : W) : IntKind.u32.wrap ((a.toNat : Int) * 16777216) = ((lW 24 a).toNat : Int) := by rw [← n_l24]; rfl
theorem n_l16w (a : W) : IntKind.u32.wrap ((a.toNat : Int) * 65536) = ((lW 16 a).toNat : Int) := by rw [← n_l16]; rfl
theorem n_l8w (a : W) : IntKind.u32.wrap ((a.toNat : Int) * 256) = ((lW 8 a).toNat : Int) := by rw [← n_l8]; rfl
theorem n_r3 (a : W) : (a.toNat : Int) / 8 = ((rW 3 a).toNat : Int) := w_shr a 3
theorem n_r8 (a : W) : (a.toNat : Int) / 256 = ((rW 8 a).toNat : Int) := w_shr a 8
theorem n_r10 (a : W) : (a.toNat : Int) / 1024 = ((rW 10 a).toNat : Int) := w_shr a 10
theorem n_r16 (a : W) : (a.toNat : Int) / 65536 = ((rW 16 a).toNat : Int) := w_shr a 16
/-- What bits.RotateLeft32 makes of a word, by any number. -/
def rotK (k : Int) (x : W) : W := let s := ((BitVec.ofInt 64 k) &&& 31#64).toNat; x <<< s ||| x >>> (32 - s)
theorem rotK_bound (k : Int) : ((BitVec.ofInt 64 k) &&& 31#64).toNat ≤ 31 := by
 rw [BitVec.toNat_and]
 exact Nat.le_trans Nat.and_le_right (by decide)
theorem wrap_u64 (n : Nat) (h : n < 18446744073709551616) : IntKind.u64.wrap (n : Int) = (n : Int) := by
 unfold IntKind.wrap
 simp [IntKind.bits, IntKind.signed]
 omega
theorem and31 (k : Int) : bits BinOp.and IntKind.u64 (IntKind.u64.wrap k) 31 = ((((BitVec.ofInt 64 k) &&& 31#64).toNat : Nat) : Int) := by
 have e : BitVec.ofInt 64 (IntKind.u64.wrap k) = BitVec.ofInt 64 k := by
  apply BitVec.eq_of_toInt_eq
  rw [BitVec.toInt_ofInt, BitVec.toInt_ofInt]
  unfold IntKind.wrap
  simp [IntKind.bits, IntKind.signed]
  first | exact Int.emod_bmod .. | (unfold Int.bmod; omega)
 show IntKind.u64.wrap ((BitVec.ofInt 64 (IntKind.u64.wrap k) &&& BitVec.ofInt 64 31).toNat : Int) = _
 rw [e]
 have h := rotK_bound k
 have h2 : (BitVec.ofInt 64 k &&& BitVec.ofInt 64 31).toNat = ((BitVec.ofInt 64 k) &&& 31#64).toNat := rfl
 rw [h2]
 exact wrap_u64 _ (by omega)

theorem rotate_any (x : W) (k : Int) (w : World) : Calls Tryz.prog 272 #[vw x, .int .i64 k] w fun e w' => e = .returned (vw (rotK k x)) ∧ w' = w := by
 have h1 := and31 k
 have h2 := rotK_bound k
 obtain ⟨s, hs⟩ : ∃ s, ((BitVec.ofInt 64 k) &&& 31#64).toNat = s := ⟨_, rfl⟩
 rw [hs] at h1 h2
 have HS := Lib.hid hs
 clear hs
 go_enter Tryz.func272, Tryz.ntmps272
 have E : Hid (bits BinOp.or IntKind.u32 ((x.toNat : Int) * 2 ^ s % 4294967296) ((x.toNat : Int) / 2 ^ (32 - s)) = ((rotK k x).toNat : Int)) := Lib.hid (by
  rw [w_shl, w_shr, w_or, ← HS.out]
  rfl)
 go_wp2_with fail
 go_ret
 exact ⟨congrArg (fun n => Ending.returned (.int .u32 n)) E.out, rfl⟩
end Go.Proofs.YtchfhojighopkaaGreatDoor
