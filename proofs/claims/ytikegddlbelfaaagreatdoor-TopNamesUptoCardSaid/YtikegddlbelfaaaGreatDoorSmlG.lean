/-
  The texts Small1, Small2, RefNames, Small3, Trunc, Small4, in one.
-/
import Derived.Test.YtikegddlbelfaaaGreatDoorFeat
import Derived.Test.YtikegddlbelfaaaGreatDoorFold
import Derived.Deep.RegionHeld3
import Derived.Test.YtikegddlbelfaaaGreatDoorParts
import Derived.Test.YtikegddlbelfaaaGreatDoorPlainClean2
import Derived.Test.YtikegddlbelfaaaGreatDoorPaths
namespace Go.Proofs.YtikegddlbelfaaaGreatDoor
open Go.RowKit

/-- The kinds that both stores tell. -/
def both2 (f h : Wh.Feat) : Nat := f.sums.toNat &&& h.sums.toNat

/-- Are two times the same, as far as both stores can tell? -/
def sameT (a b : Int) (f h : Wh.Feat) : Bool := decide ((if a < b then b - a else a - b) < max f.prec h.prec)

end Go.Proofs.YtikegddlbelfaaaGreatDoor
namespace Go.Proofs.YtikegddlbelfaaaGreatDoor
open Go.RowKit

/-- What same paths have in common. -/
def keyOf (f : Wh.Feat) (s : ByteArray) : ByteArray := if bits .and .i64 f.has 2 = 0 then ⟨(Wh.lower s.data.toList).toArray⟩ else s

/-- Are two paths the same in a store? -/
def sameP (f : Wh.Feat) (s t : ByteArray) : Bool := (keyOf f s).toList == (keyOf f t).toList

theorem bUndrew {w w' : World} {a : World} (h : Below a.heap.size a w) (h2 : w' = w.drew) : Below a.heap.size a w' := by
  subst h2
  exact ⟨h.os, h.tape, h.output, h.size, h.block⟩

end Go.Proofs.YtikegddlbelfaaaGreatDoor
namespace Go.Proofs.YtikegddlbelfaaaGreatDoor
open Go.RowKit

end Go.Proofs.YtikegddlbelfaaaGreatDoor
namespace Go.Proofs.YtikegddlbelfaaaGreatDoor
open Go.RowKit

/-- A name that does not fit. -/
def unfitN (f : Wh.Feat) (n : ByteArray) : Bool := decide (f.maxName < (n.size : Int)) || Lib.containsAny n.data.toList f.forbid.data.toList

/-- Does a path fit a store? -/
def fitsB (f : Wh.Feat) (s : ByteArray) : Bool := !decide (f.maxPath < (s.size : Int)) && !(Wh.namesOf s).any (unfitN f)

theorem unfit_eq (f : Wh.Feat) (n : ByteArray) : unfitN f n = (decide (f.maxName < (n.size : Int)) || Lib.containsAny n.data.toList f.forbid.data.toList) := rfl

theorem unfit_at {f : Wh.Feat} {s n : ByteArray} (hn : n ∈ Wh.namesOf s) (h : unfitN f n = true) : fitsB f s = false := by
  have : (Wh.namesOf s).any (unfitN f) = true := List.any_eq_true.2 ⟨n, hn, h⟩
  simp [fitsB, this]

set_option maxHeartbeats 2000000 in
set_option maxRecDepth 100000 in
theorem storefits_any (f : Wh.Feat) (s : ByteArray) (w : World) (hE : Env w) (hp : Wh.pathErr s.data.toList = 0) (hfl : f.forbid.size < 4294967281) (hfa : ∀ b ∈ f.forbid.data.toList, b.toNat < 128) :
    Calls Tryz.prog 60 #[featVal f, .string s] w fun e w' => e = .returned (.bool (fitsB f s)) ∧ Below w.heap.size w w' := by
  have hsz := Wh.path_size (Wh.pathErr_zero hp)
  have HP := Lib.hid (fun W (hb : Below w.heap.size w W) => parts_good s W (hE.under hb) hsz hp)
  have HCA := Lib.hid (fun n W hn => containsAny_any n f.forbid W hn hfl hfa)
  have HNm := Lib.hid (fun n (hn : n ∈ Wh.namesOf s) => show n.size ≤ 1024 by
    unfold Wh.namesOf at hn
    split at hn
    · cases hn
    · have := Wh.pieces_size hn; omega)
  have HU := Lib.hid (fun n (hn : n ∈ Wh.namesOf s) h => unfit_at (f := f) hn h)
  have hnl := Wh.namesOf_le s
  have hF : fitsB f s = (!decide (f.maxPath < (s.size : Int)) && !(Wh.namesOf s).any (unfitN f)) := rfl
  have HF := Lib.hid hF
  have HB := Lib.hid (featBox_new w f)
  have hb1 : Below w.heap.size w (w.alloc (featObj f)) := bAlloc (Below.refl _ _) _
  clear hE hp hfl hfa hF
  generalize fitsB f s = B at *
  unfold featVal featObj at *
  go_enter Tryz.func60, Tryz.ntmps60
  go_upto_region 1 with fail
  generalize w.alloc _ = w1 at *
  obtain ⟨k0, k1, k2, k3, k4, k5, k6, k7, k8, k9⟩ := HB.out
  cases hc : decide (f.maxPath < (s.size : Int))
  case true =>
    have hR : B = false := by rw [HF.out, hc]; rfl
    have HR := Lib.hid hR
    clear hR
    go_wp2_with fail
    go_ret
    exact ⟨ret_bool HR.out.symm, hb1⟩
  case false =>
    rw [hc] at HF
    go_wp2_with fail
    refine (HP.out _ hb1).mono ?_
    rintro e w2 ⟨a, c, rfl, hcap, hH, hb2⟩
    have HH := Lib.hid hH
    have HB2 := Lib.hid (HB.out.under hb2)
    have hb02 := bTrans hb1 hb2
    clear hH hc k0 k1 k2 k3 k4 k5 k6 k7 k8 k9 HB HP hb1 hb2
    generalize Wh.namesOf s = ns at *
    go_wp2_with fail
    go_loopg [21] ns.length (fun g s21 wx => ∃ k : Nat, k + g = ns.length ∧ s21 = .int .i64 k ∧ Below w2.heap.size w2 wx ∧ Hid (∀ (j : Nat) (n : ByteArray), j < k → ns[j]? = some n → unfitN f n = false))
    case atStart => exact ⟨0, by omega, rfl, Below.refl _ _, Lib.hid (fun j n hj => absurd hj (by omega))⟩
    case round =>
      obtain ⟨k, hk, rfl, hb, HL⟩ := hrel
      by_cases hlt : k < ns.length
      · obtain ⟨g, rfl⟩ : ∃ g, gk = g + 1 := ⟨gk - 1, by omega⟩
        obtain ⟨n, hn⟩ : ∃ n, ns[k]? = some n := ⟨_, List.getElem?_eq_getElem hlt⟩
        obtain ⟨ba, off, ha, hba, hca⟩ := (HH.out.under hb).at (k := k) (u := .string n) (by simp [hn])
        have hns := HNm.out n (List.mem_of_getElem? hn)
        have HCn := Lib.hid (fun W => HCA.out n W (by omega))
        have HUx := Lib.hid (fun h => HU.out n (List.mem_of_getElem? hn) h)
        have hun := unfit_eq f n
        have Hn := Lib.hid hn
        clear hn
        subst ha
        obtain ⟨k0, k1, k2, k3, k4, k5, k6, k7, k8, k9⟩ := HB2.out.under hb
        clear k0 k1 k2 k3 k5 k6 k7 k8
        generalize hu2 : unfitN f n = U at *
        have HU2 := Lib.hid hu2
        clear hu2
        cases c1 : decide (f.maxName < (n.size : Int))
        case true =>
          have HR := Lib.hid (HUx.out (by rw [hun, c1]; rfl))
          clear hun
          go_wp2_with fail
          go_ret
          exact ⟨ret_bool HR.out.symm, bTrans hb02 hb⟩
        case false =>
          rw [c1, Bool.false_or] at hun
          cases c2 : Lib.containsAny n.data.toList f.forbid.data.toList
          case true =>
            have HR := Lib.hid (HUx.out (by rw [hun, c2]))
            rw [c2] at HCn
            clear hun c2
            go_wp2_with fail
            refine (HCn.out _).mono ?_
            rintro e w3 ⟨rfl, hb3⟩
            go_wp2_with fail
            go_ret
            exact ⟨ret_bool HR.out.symm, bTrans (bTrans hb02 hb) hb3⟩
          case false =>
            rw [c2] at HCn
            have HL2 : Hid (∀ (j : Nat) (m : ByteArray), j < k + 1 → ns[j]? = some m → unfitN f m = false) := Lib.hid (fun j m hj hm => by
              rcases Nat.lt_or_ge j k with h | h
              · exact HL.out j m h hm
              · obtain rfl : j = k := by omega
                rw [Hn.out] at hm
                cases hm
                rw [HU2.out, hun, c2])
            clear hun c2
            go_wp2_with fail
            refine (HCn.out _).mono ?_
            rintro e w3 ⟨rfl, hb3⟩
            go_wp2_with fail
            go_roundg g
            case measure => omega
            case rel => exact ⟨k + 1, by omega, by go_num, bTrans hb hb3, HL2⟩
      · have hR : B = true := by
          rw [HF.out]
          have : ns.any (unfitN f) = false := by
            rw [List.any_eq_false]
            intro n hn
            obtain ⟨j, hj⟩ := List.mem_iff_getElem?.1 hn
            have := HL.out j n (by have := (List.getElem?_eq_some_iff.1 hj).1; omega) hj
            simp [this]
          rw [this]
          rfl
        have HR := Lib.hid hR
        clear hR
        go_wp2_with fail
        go_ret
        exact ⟨ret_bool HR.out.symm, bTrans hb02 hb⟩

theorem containsAny_nil : ∀ l : List UInt8, Lib.containsAny l [] = false := by
  intro l
  rw [Wh.containsAny_eq]
  simp

end Go.Proofs.YtikegddlbelfaaaGreatDoor
namespace Go.Proofs.YtikegddlbelfaaaGreatDoor
open Go.RowKit

def TruncPost (t p : Int) (w : World) (e : Ending) (w' : World) : Prop :=
  ∃ n : Int, e = .returned (.int .i64 n) ∧ w = w' ∧ (p < 1 → n = t) ∧ (1 ≤ p → -4611686018427387904 ≤ t → n = t - t % p)

theorem tmod_bounds {t p : Int} (hp : 1 ≤ p) : -p < t.tmod p ∧ t.tmod p < p ∧ (t.tmod p < 0 → t < 0) ∧ (0 < t.tmod p → 0 < t) := by
  rcases Int.lt_or_le t 0 with h | h
  · have e : t.tmod p = -((-t).tmod p) := by rw [Int.neg_tmod, Int.neg_neg]
    have h1 := Int.tmod_nonneg p (a := -t) (by omega)
    have h2 := Int.tmod_lt_of_pos (-t) (b := p) (by omega)
    omega
  · have h1 := Int.tmod_nonneg p h
    have h2 := Int.tmod_lt_of_pos t (b := p) (by omega)
    refine ⟨by omega, h2, by omega, fun h3 => ?_⟩
    rcases Int.lt_or_eq_of_le h with h4 | h4
    · exact h4
    · rw [← h4] at h3; simp at h3

theorem emod_of {t p q r : Int} (h : p * q + r = t) (h0 : 0 ≤ r) (h1 : r < p) : t % p = r := by
  rw [← h, Int.add_comm, Int.add_mul_emod_self_left, Int.emod_eq_of_lt h0 h1]

theorem trunc_low {t p : Int} (hp : 1 ≤ p) (h : t.tmod p < 0) (h1 : -4611686018427387904 ≤ t) (_h2 : t ≤ 9223372036854775807) (_h3 : p ≤ 9223372036854775807) : wrap64 (t - wrap64 (t.tmod p + p)) = t - t % p := by
  obtain ⟨b1, b2, b3, b4⟩ := tmod_bounds (t := t) hp
  have e := Int.mul_tdiv_add_tmod t p
  have e2 : t % p = t.tmod p + p := emod_of (q := t.tdiv p - 1) (by rw [Int.mul_sub]; omega) (by omega) (by omega)
  have hq : t.tdiv p ≤ 0 := by
    have := Int.tdiv_nonneg (a := -t) (b := p) (by omega) (by omega)
    rw [Int.neg_tdiv] at this
    omega
  have h4 : -9223372036854775808 < t - (t.tmod p + p) := by
    rcases Int.lt_or_le t (-p) with h5 | h5
    · omega
    · have h6 : t.tdiv p = 0 ∨ t.tmod p = 0 := by
        rcases Int.lt_or_le (t.tdiv p) 0 with h7 | h7
        · have : p * t.tdiv p ≤ p * (-1) := Int.mul_le_mul_of_nonneg_left (by omega) (by omega)
          omega
        · exact .inl (by omega)
      rcases h6 with h6 | h6
      · rw [h6, Int.mul_zero] at e
        omega
      · omega
  rw [IntWalk.wrap64_in (t.tmod p + p) ⟨by omega, by omega⟩, IntWalk.wrap64_in _ ⟨by omega, by omega⟩, e2]

theorem trunc_high {t p : Int} (hp : 1 ≤ p) (h : 0 ≤ t.tmod p) (h1 : -4611686018427387904 ≤ t) (_h2 : t ≤ 9223372036854775807) (_h3 : p ≤ 9223372036854775807) : wrap64 (t - t.tmod p) = t - t % p := by
  obtain ⟨b1, b2, b3, b4⟩ := tmod_bounds (t := t) hp
  have e := Int.mul_tdiv_add_tmod t p
  have e2 : t % p = t.tmod p := emod_of (q := t.tdiv p) e (by omega) (by omega)
  have h5 : -9223372036854775808 ≤ t - t.tmod p := by
    rcases Int.lt_or_eq_of_le h with h6 | h6
    · have := b4 h6
      omega
    · omega
  rw [IntWalk.wrap64_in (t - t.tmod p) ⟨by omega, by omega⟩, e2]

set_option maxHeartbeats 1000000 in
theorem truncate_any (t p : Int) (w : World) (ht : -9223372036854775808 ≤ t ∧ t ≤ 9223372036854775807) (hp : -9223372036854775808 ≤ p ∧ p ≤ 9223372036854775807) :
    Calls Tryz.prog 93 #[.int .i64 t, .int .i64 p] w (TruncPost t p w) := by
  obtain ⟨ht1, ht2⟩ := ht
  obtain ⟨hp1, hp2⟩ := hp
  by_cases h1 : p < 1
  · go_enter Tryz.func93, Tryz.ntmps93
    go_wp2
    go_ret
    exact ⟨t, rfl, rfl, fun _ => rfl, fun h => by omega⟩
  have h1' : ¬ (p < 1) := h1
  have hpz : (p == 0) = false := beq_eq_false_iff_ne.2 (by omega)
  go_enter Tryz.func93, Tryz.ntmps93
  go_wp2
  · go_ret
    exact ⟨_, rfl, rfl, fun h => by omega, fun _ h4 => trunc_low (by omega) (by assumption) h4 ht2 hp2⟩
  · go_ret
    exact ⟨_, rfl, rfl, fun h => by omega, fun _ h4 => trunc_high (by omega) (by assumption) h4 ht2 hp2⟩

end Go.Proofs.YtikegddlbelfaaaGreatDoor
namespace Go.Proofs.YtikegddlbelfaaaGreatDoor
open Go.RowKit

/-- A predicate with one captured variable. -/
def PredC (F : FuncId) (cp : Value) (p : ByteArray → Bool) (xs : List ByteArray) (w : World) : Prop :=
  ∀ x ∈ xs, ∀ W, Below w.heap.size w W → Calls Tryz.prog F #[.string x, cp] W fun e w' => e = .returned (.bool (p x)) ∧ Below W.heap.size W w'

theorem sameP_eq (f : Wh.Feat) (s t : ByteArray) (h : s = t) : sameP f s t = true := by subst h; simp [sameP]
theorem sameP_case (f : Wh.Feat) (s t : ByteArray) (hne : ¬ s = t) (h : ¬ bits .and .i64 f.has 2 = 0) : sameP f s t = false := by
  simp only [sameP, keyOf, if_neg h]
  exact Wh.toList_ne hne
theorem sameP_fold (f : Wh.Feat) (s t : ByteArray) (h : bits .and .i64 f.has 2 = 0) : sameP f s t = ((⟨(Wh.lower s.data.toList).toArray⟩ : ByteArray).toList == (⟨(Wh.lower t.data.toList).toArray⟩ : ByteArray).toList) := by
  simp only [sameP, keyOf, if_pos h]

end Go.Proofs.YtikegddlbelfaaaGreatDoor
