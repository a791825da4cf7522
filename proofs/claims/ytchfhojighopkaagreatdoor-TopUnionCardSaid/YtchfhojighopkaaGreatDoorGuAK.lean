/-
  Parts of the proof: StoreForm, Num, Feat, SmlG.
-/
import Derived.Test.YtchfhojighopkaaGreatDoorGuAJ
import Derived.Lib.AppendIntMem
import Derived.Lib.ItoaLen
import Derived.Test.YtchfhojighopkaaGreatDoorGuAA
import Derived.Deep.DeepCutAuto
import Derived.Deep.RegionHeld3
import Derived.Test.YtchfhojighopkaaGreatDoorGuAC
namespace Go.Proofs.YtchfhojighopkaaGreatDoor
open Go.RowKit

theorem okF_bad {x : UInt8} (h : (47 ≤ x.toNat ∧ x.toNat ≤ 57) ∨ (65 ≤ x.toNat ∧ x.toNat ≤ 90) ∨ (97 ≤ x.toNat ∧ x.toNat ≤ 122) ∨ 128 ≤ x.toNat) : Wh.okF x = false := by
 have e : (x == 47) = decide (x.toNat = 47) := by
  rw [Bool.eq_iff_iff]
  simp
  exact ⟨fun h => by rw [h]; rfl, fun h => UInt8.toNat_inj.1 (by rw [h]; rfl)⟩
 simp only [Wh.okF, Wh.digit, Wh.letter, e]
 simp
 omega

theorem okF_good {x : UInt8} (h : x.toNat < 47 ∨ (57 < x.toNat ∧ x.toNat < 65) ∨ (90 < x.toNat ∧ x.toNat < 97) ∨ (122 < x.toNat ∧ x.toNat < 128)) : Wh.okF x = true := by
 have e : (x == 47) = decide (x.toNat = 47) := by
  rw [Bool.eq_iff_iff]
  simp
  exact ⟨fun h => by rw [h]; rfl, fun h => UInt8.toNat_inj.1 (by rw [h]; rfl)⟩
 simp only [Wh.okF, Wh.digit, Wh.letter, e]
 simp
 omega

set_option maxHeartbeats 2000000 in
theorem forbidForm_any (s : ByteArray) (w : World) (hs : s.size ≤ 9223372036854775807) :
  Calls Tryz.prog 67 #[.string s] w fun e w' => e = .returned (.bool (Wh.formP Wh.okF s.data.toList)) ∧ w' = w := by
 obtain ⟨R, hR⟩ : ∃ R, Wh.formP Wh.okF s.data.toList = R := ⟨_, rfl⟩
 have HR := Lib.hid hR
 rw [hR]
 clear hR
 go_enter Tryz.func67, Tryz.ntmps67
 go_wp2_with fail
 go_loopg [8] s.size (fun g s8 wx => ∃ k : Nat, k + g = s.size ∧ s8 = .int .i64 k ∧ wx = w ∧ Hid (Wh.formP Wh.okF (s.data.toList.take k) = true))
 case atStart => exact ⟨0, by omega, rfl, rfl, Lib.hid rfl⟩
 case round =>
  obtain ⟨k, hk, rfl, hw, HFm⟩ := hrel
  subst wr
  by_cases hlt : k < s.size
  ·obtain ⟨g, rfl⟩ : ∃ g, gk = g + 1 := ⟨gk - 1, by omega⟩
   obtain ⟨x, hx⟩ : ∃ x : UInt8, s[k]'hlt = x := ⟨_, rfl⟩
   have hxl : s.data.toList[k]? = some x := by rw [← hx]; exact Lib.data_getElem? s k hlt
   have hx8 := x.toNat_lt
   have ex : (s.extract 0 k).data.toList = s.data.toList.take k := by simp
   have hback : ((x.toNat : Int)).toNat.toUInt8 = x := by simp
   have hB := fun W => Tryz.strings_IndexByte (s.extract 0 k) x.toNat W
   rw [ex, hback] at hB
   have hcon := Lib.contains_iff_indexByte (s.data.toList.take k) x
   have HBad : Hid ((s.data.toList.take k).contains x = true ∨ Wh.okF x = false → R = false) := Lib.hid (fun h => by rw [← HR.out]; exact Wh.formP_bad hxl h)
   have HGood : Hid ((s.data.toList.take k).contains x = false → Wh.okF x = true → Wh.formP Wh.okF (s.data.toList.take (k + 1)) = true) := Lib.hid (fun h1 h2 => Wh.formP_step hxl HFm.out h1 h2)
   have HO1 := Lib.hid (@okF_bad x)
   have HO2 := Lib.hid (@okF_good x)
   clear ex hxl hback
   generalize Lib.indexByte (s.data.toList.take k) x = v at *
   generalize (s.data.toList.take k).contains x = bc at *
   generalize Wh.okF x = ok at *
   have HB2 := Lib.hid hB
   clear hB
   cases bc
   case true =>
    have hv : 0 ≤ v := of_decide_eq_true hcon.symm
    have HK := Lib.hid (HBad.out (.inl rfl))
    clear hcon
    rcases (by omega : x.toNat < 65 ∨ (65 ≤ x.toNat ∧ x.toNat ≤ 90) ∨ (90 < x.toNat ∧ x.toNat < 97) ∨ (97 ≤ x.toNat ∧ x.toNat ≤ 122) ∨ 122 < x.toNat) with h | h | h | h | h
    all_goals
     go_wp2_with (go_at_call 97; refine (HB2.out _).mono ?_; rintro e w' ⟨rfl, hw'⟩; subst w')
     go_ret
     exact ⟨ret_bool HK.out.symm, rfl⟩
   case false =>
    have hv : ¬ 0 ≤ v := of_decide_eq_false hcon.symm
    clear hcon
    rcases (by omega : x.toNat = 47 ∨ (48 ≤ x.toNat ∧ x.toNat ≤ 57) ∨ (65 ≤ x.toNat ∧ x.toNat ≤ 90) ∨ (97 ≤ x.toNat ∧ x.toNat ≤ 122) ∨ 128 ≤ x.toNat ∨ x.toNat < 47 ∨ (57 < x.toNat ∧ x.toNat < 65) ∨ (90 < x.toNat ∧ x.toNat < 97) ∨ (122 < x.toNat ∧ x.toNat < 128)) with h | h | h | h | h | h | h | h | h
    case' inl =>
     have q47 : ((x.toNat : Int) == 47) = true := by simp; omega
     have HK := Lib.hid (HBad.out (.inr (HO1.out (by omega))))
     replace h : (x.toNat : Int) ≤ 47 ∧ 47 ≤ (x.toNat : Int) := by omega
    case' inr.inl | inr.inr.inl | inr.inr.inr.inl | inr.inr.inr.inr.inl =>
     have q47 : ((x.toNat : Int) == 47) = false := by simp; omega
     have HK := Lib.hid (HBad.out (.inr (HO1.out (by omega))))
    case inl | inr.inl | inr.inr.inl | inr.inr.inr.inl | inr.inr.inr.inr.inl =>
     go_wp2_with (go_at_call 97; refine (HB2.out _).mono ?_; rintro e w' ⟨rfl, hw'⟩; subst w')
     go_ret
     exact ⟨ret_bool HK.out.symm, rfl⟩
    all_goals
     have q47 : ((x.toNat : Int) == 47) = false := by simp; omega
     have HK := Lib.hid (HGood.out rfl (HO2.out (by omega)))
     go_wp2_with (go_at_call 97; refine (HB2.out _).mono ?_; rintro e w' ⟨rfl, hw'⟩; subst w')
     go_roundg g
     case measure => omega
     case rel => exact ⟨k + 1, by omega, by go_num, rfl, HK⟩
  ·have HK : Hid (R = true) := Lib.hid (by
    rw [← HR.out]
    have h1 := HFm.out
    rw [List.take_of_length_le (by rw [← Lib.size_eq]; omega)] at h1
    exact h1)
   go_wp2_with fail
   go_ret
   exact ⟨ret_bool HK.out.symm, rfl⟩
end Go.Proofs.YtchfhojighopkaaGreatDoor
namespace Go.Proofs.YtchfhojighopkaaGreatDoor
open Go.RowKit

/-- The library's table of powers is as it is laid. -/
def EnvT (w : World) : Prop := Lib.TabIs Tryz.prog w "internal/strconv.uint64pow10" .u64 Lib.pow10Tab
theorem EnvT.under {w w' : World} (h : EnvT w) (hb : Below w.heap.size w w') : EnvT w' := Lib.tabBelow_of_tabIs h w' hb

/-- A number, written. -/
def numS (n : Int) : ByteArray := ⟨(Lib.itoa n).toArray⟩

theorem itoa_any (n : Int) (w : World) (hT : EnvT w) (h0 : -9223372036854775808 ≤ n) (h1 : n ≤ 9223372036854775807) :
  Calls Tryz.prog 25 #[.int .i64 n] w fun e w' => e = .returned (.string (numS n)) ∧ Below w.heap.size w w' := by
 refine (Tryz.strconv_Itoa n h0 h1 w hT).mono ?_
 rintro e w' ⟨rfl, k, os, rfl⟩
 exact ⟨rfl, Lib.below_grow _ _ (Nat.le_refl _) _ _⟩

theorem numS_size (n : Int) (h0 : -9223372036854775808 ≤ n) (h1 : n ≤ 9223372036854775807) : (numS n).size ≤ 21 := by
 rw [Lib.size_eq]
 exact Lib.itoa_length_le n h0 h1

end Go.Proofs.YtchfhojighopkaaGreatDoor
namespace Go.Proofs.YtchfhojighopkaaGreatDoor
open Go.RowKit

/-- Features as a value. -/
def featVal (f : Wh.Feat) : Value := .agg #[.int .i64 f.has, .int .i64 f.sums, .int .i64 f.prec, .int .i64 f.maxName, .int .i64 f.maxPath, .int .i64 f.maxSize, .int .i64 f.page, .int .i64 f.partSize, .string f.forbid]

/-- Features that came in: what is known of their parts. -/
structure FeatOk (f : Wh.Feat) : Prop where
 sums : -9223372036854775808 ≤ f.sums ∧ f.sums ≤ 9223372036854775807
 forbid : f.forbid.size ≤ 9223372036854775807

/-- A block that holds features. -/
def FeatBox (w : World) (b : Nat) (f : Wh.Feat) : Prop :=
 b < w.heap.size ∧ w.cell? ⟨b, 0, none⟩ = some (.int .i64 f.has) ∧ w.cell? ⟨b, 1, none⟩ = some (.int .i64 f.sums) ∧ w.cell? ⟨b, 2, none⟩ = some (.int .i64 f.prec) ∧ w.cell? ⟨b, 3, none⟩ = some (.int .i64 f.maxName) ∧
  w.cell? ⟨b, 4, none⟩ = some (.int .i64 f.maxPath) ∧ w.cell? ⟨b, 5, none⟩ = some (.int .i64 f.maxSize) ∧ w.cell? ⟨b, 6, none⟩ = some (.int .i64 f.page) ∧ w.cell? ⟨b, 7, none⟩ = some (.int .i64 f.partSize) ∧ w.cell? ⟨b, 8, none⟩ = some (.string f.forbid)

theorem FeatBox.under {w w' : World} {b : Nat} {f : Wh.Feat} (h : FeatBox w b f) (hb : Below w.heap.size w w') : FeatBox w' b f := by
 obtain ⟨h0, h1, h2, h3, h4, h5, h6, h7, h8, h9⟩ := h
 have hc := fun j => hb.cell (p := ⟨b, j, none⟩) h0
 exact ⟨Nat.lt_of_lt_of_le h0 hb.size, (hc 0).trans h1, (hc 1).trans h2, (hc 2).trans h3, (hc 3).trans h4, (hc 4).trans h5, (hc 5).trans h6, (hc 6).trans h7, (hc 7).trans h8, (hc 8).trans h9⟩

/-- The block itself. -/
abbrev featObj (f : Wh.Feat) : Obj := .cells #[.int .i64 f.has, .int .i64 f.sums, .int .i64 f.prec, .int .i64 f.maxName, .int .i64 f.maxPath, .int .i64 f.maxSize, .int .i64 f.page, .int .i64 f.partSize, .string f.forbid] 66

theorem featBox_new (w : World) (f : Wh.Feat) : FeatBox (w.alloc (featObj f)) w.heap.size f := by
 refine ⟨by simp, ?_, ?_, ?_, ?_, ?_, ?_, ?_, ?_, ?_⟩ <;> (rw [World.cell?_alloc_at _ _ _ _ rfl]; rfl)

end Go.Proofs.YtchfhojighopkaaGreatDoor
namespace Go.Proofs.YtchfhojighopkaaGreatDoor
open Go.RowKit

end Go.Proofs.YtchfhojighopkaaGreatDoor
namespace Go.Proofs.YtchfhojighopkaaGreatDoor
open Go.RowKit

end Go.Proofs.YtchfhojighopkaaGreatDoor
namespace Go.Proofs.YtchfhojighopkaaGreatDoor
open Go.RowKit

end Go.Proofs.YtchfhojighopkaaGreatDoor
namespace Go.Proofs.YtchfhojighopkaaGreatDoor
open Go.RowKit

/-- A name that does not fit. -/
def unfitN (f : Wh.Feat) (n : ByteArray) : Bool := decide (f.maxName < (n.size : Int)) || Lib.containsAny n.data.toList f.forbid.data.toList

/-- Does a path fit a store? -/
def fitsB (f : Wh.Feat) (s : ByteArray) : Bool := !decide (f.maxPath < (s.size : Int)) && !(Wh.namesOf s).any (unfitN f)

theorem unfit_eq (f : Wh.Feat) (n : ByteArray) : unfitN f n = (decide (f.maxName < (n.size : Int)) || Lib.containsAny n.data.toList f.forbid.data.toList) := rfl

theorem unfit_at {f : Wh.Feat} {s n : ByteArray} (hn : n ∈ Wh.namesOf s) (h : unfitN f n = true) : fitsB f s = false := by
 have : (Wh.namesOf s).any (unfitN f) = true := List.any_eq_true.2 ⟨n, hn, h⟩
 simp [fitsB, this]

set_option maxHeartbeats 2000000 in
set_option maxRecDepth 100000 in
theorem storefits_any (f : Wh.Feat) (s : ByteArray) (w : World) (hE : Env w) (hp : Wh.pathErr s.data.toList = 0) (hfl : f.forbid.size < 4294967281) (hfa : ∀ b ∈ f.forbid.data.toList, b.toNat < 128) :
  Calls Tryz.prog 41 #[featVal f, .string s] w fun e w' => e = .returned (.bool (fitsB f s)) ∧ Below w.heap.size w w' := by
 have hsz := Wh.path_size (Wh.pathErr_zero hp)
 have HP := Lib.hid (fun W (hb : Below w.heap.size w W) => parts_good s W (hE.under hb) hsz hp)
 have HCA := Lib.hid (fun n W hn => containsAny_any n f.forbid W hn hfl hfa)
 have HNm := Lib.hid (fun n (hn : n ∈ Wh.namesOf s) => show n.size ≤ 1024 by
  unfold Wh.namesOf at hn
  split at hn
  ·cases hn
  ·have := Wh.pieces_size hn; omega)
 have HU := Lib.hid (fun n (hn : n ∈ Wh.namesOf s) h => unfit_at (f := f) hn h)
 have hnl := Wh.namesOf_le s
 have hF : fitsB f s = (!decide (f.maxPath < (s.size : Int)) && !(Wh.namesOf s).any (unfitN f)) := rfl
 have HF := Lib.hid hF
 have HB := Lib.hid (featBox_new w f)
 have hb1 : Below w.heap.size w (w.alloc (featObj f)) := bAlloc (Below.refl _ _) _
 clear hE hp hfl hfa hF
 generalize fitsB f s = B at *
 unfold featVal featObj at *
 go_enter Tryz.func41, Tryz.ntmps41
 go_upto_region 1 with fail
 generalize w.alloc _ = w1 at *
 obtain ⟨k0, k1, k2, k3, k4, k5, k6, k7, k8, k9⟩ := HB.out
 cases hc : decide (f.maxPath < (s.size : Int))
 case true =>
  have hR : B = false := by rw [HF.out, hc]; rfl
  have HR := Lib.hid hR
  clear hR
  go_wp2_with fail
  go_ret
  exact ⟨ret_bool HR.out.symm, hb1⟩
 case false =>
  rw [hc] at HF
  go_wp2_with fail
  refine (HP.out _ hb1).mono ?_
  rintro e w2 ⟨a, c, rfl, hcap, hH, hb2⟩
  have HH := Lib.hid hH
  have HB2 := Lib.hid (HB.out.under hb2)
  have hb02 := bTrans hb1 hb2
  clear hH hc k0 k1 k2 k3 k4 k5 k6 k7 k8 k9 HB HP hb1 hb2
  generalize Wh.namesOf s = ns at *
  go_wp2_with fail
  go_loopg [21] ns.length (fun g s21 wx => ∃ k : Nat, k + g = ns.length ∧ s21 = .int .i64 k ∧ Below w2.heap.size w2 wx ∧ Hid (∀ (j : Nat) (n : ByteArray), j < k → ns[j]? = some n → unfitN f n = false))
  case atStart => exact ⟨0, by omega, rfl, Below.refl _ _, Lib.hid (fun j n hj => absurd hj (by omega))⟩
  case round =>
   obtain ⟨k, hk, rfl, hb, HL⟩ := hrel
   by_cases hlt : k < ns.length
   ·obtain ⟨g, rfl⟩ : ∃ g, gk = g + 1 := ⟨gk - 1, by omega⟩
    obtain ⟨n, hn⟩ : ∃ n, ns[k]? = some n := ⟨_, List.getElem?_eq_getElem hlt⟩
    obtain ⟨ba, off, ha, hba, hca⟩ := (HH.out.under hb).at (k := k) (u := .string n) (by simp [hn])
    have hns := HNm.out n (List.mem_of_getElem? hn)
    have HCn := Lib.hid (fun W => HCA.out n W (by omega))
    have HUx := Lib.hid (fun h => HU.out n (List.mem_of_getElem? hn) h)
    have hun := unfit_eq f n
    have Hn := Lib.hid hn
    clear hn
    subst ha
    obtain ⟨k0, k1, k2, k3, k4, k5, k6, k7, k8, k9⟩ := HB2.out.under hb
    clear k0 k1 k2 k3 k5 k6 k7 k8
    generalize hu2 : unfitN f n = U at *
    have HU2 := Lib.hid hu2
    clear hu2
    cases c1 : decide (f.maxName < (n.size : Int))
    case true =>
     have HR := Lib.hid (HUx.out (by rw [hun, c1]; rfl))
     clear hun
     go_wp2_with fail
     go_ret
     exact ⟨ret_bool HR.out.symm, bTrans hb02 hb⟩
    case false =>
     rw [c1, Bool.false_or] at hun
     cases c2 : Lib.containsAny n.data.toList f.forbid.data.toList
     case true =>
      have HR := Lib.hid (HUx.out (by rw [hun, c2]))
      rw [c2] at HCn
      clear hun c2
      go_wp2_with fail
      refine (HCn.out _).mono ?_
      rintro e w3 ⟨rfl, hb3⟩
      go_wp2_with fail
      go_ret
      exact ⟨ret_bool HR.out.symm, bTrans (bTrans hb02 hb) hb3⟩
     case false =>
      rw [c2] at HCn
      have HL2 : Hid (∀ (j : Nat) (m : ByteArray), j < k + 1 → ns[j]? = some m → unfitN f m = false) := Lib.hid (fun j m hj hm => by
       rcases Nat.lt_or_ge j k with h | h
       ·exact HL.out j m h hm
       ·obtain rfl : j = k := by omega
        rw [Hn.out] at hm
        cases hm
        rw [HU2.out, hun, c2])
      clear hun c2
      go_wp2_with fail
      refine (HCn.out _).mono ?_
      rintro e w3 ⟨rfl, hb3⟩
      go_wp2_with fail
      go_roundg g
      case measure => omega
      case rel => exact ⟨k + 1, by omega, by go_num, bTrans hb hb3, HL2⟩
   ·have hR : B = true := by
     rw [HF.out]
     have : ns.any (unfitN f) = false := by
      rw [List.any_eq_false]
      intro n hn
      obtain ⟨j, hj⟩ := List.mem_iff_getElem?.1 hn
      have := HL.out j n (by have := (List.getElem?_eq_some_iff.1 hj).1; omega) hj
      simp [this]
     rw [this]
     rfl
    have HR := Lib.hid hR
    clear hR
    go_wp2_with fail
    go_ret
    exact ⟨ret_bool HR.out.symm, bTrans hb02 hb⟩

set_option maxHeartbeats 1000000 in
set_option maxRecDepth 100000 in
theorem storeFits_any (f : Wh.Feat) (s : ByteArray) (w : World) (hE : Env w) (hp : Wh.pathErr s.data.toList = 0) (hfl : f.forbid.size < 4294967281) (hfa : ∀ b ∈ f.forbid.data.toList, b.toNat < 128) :
  Calls Tryz.prog 211 #[featVal f, .string s] w fun e w' => e = .returned (.bool (fitsB f s)) ∧ Below w.heap.size w w' := by
 have H := Lib.hid (fun W (hb : Below w.heap.size w W) => storefits_any f s W (hE.under hb) hp hfl hfa)
 have HB := Lib.hid (featBox_new w f)
 have hb1 : Below w.heap.size w (w.alloc (featObj f)) := bAlloc (Below.refl _ _) _
 clear hE hp hfl hfa
 unfold featVal featObj at *
 go_enter Tryz.func211, Tryz.ntmps211
 go_upto_region 1 with fail
 generalize w.alloc _ = w1 at *
 obtain ⟨k0, k1, k2, k3, k4, k5, k6, k7, k8, k9⟩ := HB.out
 go_wp2_with fail
 refine (H.out _ hb1).mono ?_
 rintro e w2 ⟨rfl, hb2⟩
 go_wp2_with fail
 go_ret
 exact ⟨rfl, bTrans hb1 hb2⟩

end Go.Proofs.YtchfhojighopkaaGreatDoor
namespace Go.Proofs.YtchfhojighopkaaGreatDoor
open Go.RowKit

def TruncPost (t p : Int) (w : World) (e : Ending) (w' : World) : Prop :=
 ∃ n : Int, e = .returned (.int .i64 n) ∧ w = w' ∧ (p < 1 → n = t) ∧ (1 ≤ p → -4611686018427387904 ≤ t → n = t - t % p)

theorem tmod_bounds {t p : Int} (hp : 1 ≤ p) : -p < t.tmod p ∧ t.tmod p < p ∧ (t.tmod p < 0 → t < 0) ∧ (0 < t.tmod p → 0 < t) := by
 rcases Int.lt_or_le t 0 with h | h
 ·have e : t.tmod p = -((-t).tmod p) := by rw [Int.neg_tmod, Int.neg_neg]
  have h1 := Int.tmod_nonneg p (a := -t) (by omega)
  have h2 := Int.tmod_lt_of_pos (-t) (b := p) (by omega)
  omega
 ·have h1 := Int.tmod_nonneg p h
  have h2 := Int.tmod_lt_of_pos t (b := p) (by omega)
  refine ⟨by omega, h2, by omega, fun h3 => ?_⟩
  rcases Int.lt_or_eq_of_le h with h4 | h4
  ·exact h4
  ·rw [← h4] at h3; simp at h3

theorem emod_of {t p q r : Int} (h : p * q + r = t) (h0 : 0 ≤ r) (h1 : r < p) : t % p = r := by
 rw [← h, Int.add_comm, Int.add_mul_emod_self_left, Int.emod_eq_of_lt h0 h1]

theorem trunc_low {t p : Int} (hp : 1 ≤ p) (h : t.tmod p < 0) (h1 : -4611686018427387904 ≤ t) (_h2 : t ≤ 9223372036854775807) (_h3 : p ≤ 9223372036854775807) : wrap64 (t - wrap64 (t.tmod p + p)) = t - t % p := by
 obtain ⟨b1, b2, b3, b4⟩ := tmod_bounds (t := t) hp
 have e := Int.mul_tdiv_add_tmod t p
 have e2 : t % p = t.tmod p + p := emod_of (q := t.tdiv p - 1) (by rw [Int.mul_sub]; omega) (by omega) (by omega)
 have hq : t.tdiv p ≤ 0 := by
  have := Int.tdiv_nonneg (a := -t) (b := p) (by omega) (by omega)
  rw [Int.neg_tdiv] at this
  omega
 have h4 : -9223372036854775808 < t - (t.tmod p + p) := by
  rcases Int.lt_or_le t (-p) with h5 | h5
  ·omega
  ·have h6 : t.tdiv p = 0 ∨ t.tmod p = 0 := by
    rcases Int.lt_or_le (t.tdiv p) 0 with h7 | h7
    ·have : p * t.tdiv p ≤ p * (-1) := Int.mul_le_mul_of_nonneg_left (by omega) (by omega)
     omega
    ·exact .inl (by omega)
   rcases h6 with h6 | h6
   ·rw [h6, Int.mul_zero] at e
    omega
   ·omega
 rw [IntWalk.wrap64_in (t.tmod p + p) ⟨by omega, by omega⟩, IntWalk.wrap64_in _ ⟨by omega, by omega⟩, e2]

theorem trunc_high {t p : Int} (hp : 1 ≤ p) (h : 0 ≤ t.tmod p) (h1 : -4611686018427387904 ≤ t) (_h2 : t ≤ 9223372036854775807) (_h3 : p ≤ 9223372036854775807) : wrap64 (t - t.tmod p) = t - t % p := by
 obtain ⟨b1, b2, b3, b4⟩ := tmod_bounds (t := t) hp
 have e := Int.mul_tdiv_add_tmod t p
 have e2 : t % p = t.tmod p := emod_of (q := t.tdiv p) e (by omega) (by omega)
 have h5 : -9223372036854775808 ≤ t - t.tmod p := by
  rcases Int.lt_or_eq_of_le h with h6 | h6
  ·have := b4 h6
   omega
  ·omega
 rw [IntWalk.wrap64_in (t - t.tmod p) ⟨by omega, by omega⟩, e2]

set_option maxHeartbeats 1000000 in
theorem truncate_any (t p : Int) (w : World) (ht : -9223372036854775808 ≤ t ∧ t ≤ 9223372036854775807) (hp : -9223372036854775808 ≤ p ∧ p ≤ 9223372036854775807) :
  Calls Tryz.prog 82 #[.int .i64 t, .int .i64 p] w (TruncPost t p w) := by
 obtain ⟨ht1, ht2⟩ := ht
 obtain ⟨hp1, hp2⟩ := hp
 by_cases h1 : p < 1
 ·go_enter Tryz.func82, Tryz.ntmps82
  go_wp2
  go_ret
  exact ⟨t, rfl, rfl, fun _ => rfl, fun h => by omega⟩
 have h1' : ¬ (p < 1) := h1
 have hpz : (p == 0) = false := beq_eq_false_iff_ne.2 (by omega)
 go_enter Tryz.func82, Tryz.ntmps82
 go_wp2
 ·go_ret
  exact ⟨_, rfl, rfl, fun h => by omega, fun _ h4 => trunc_low (by omega) (by assumption) h4 ht2 hp2⟩
 ·go_ret
  exact ⟨_, rfl, rfl, fun h => by omega, fun _ h4 => trunc_high (by omega) (by assumption) h4 ht2 hp2⟩

end Go.Proofs.YtchfhojighopkaaGreatDoor
namespace Go.Proofs.YtchfhojighopkaaGreatDoor
open Go.RowKit

end Go.Proofs.YtchfhojighopkaaGreatDoor
