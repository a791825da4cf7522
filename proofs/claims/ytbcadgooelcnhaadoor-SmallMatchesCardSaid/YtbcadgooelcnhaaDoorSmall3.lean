/-
  plan.Fits, store.Fits and the reference's Fits; plan.Partial, IsPartial; rightFeatures: walked.
-/
import Derived.Test.YtbcadgooelcnhaaDoorSmall2
import Derived.Test.YtbcadgooelcnhaaDoorParts
import Derived.Test.YtbcadgooelcnhaaDoorRefNames
import Derived.Test.YtbcadgooelcnhaaDoorPlainClean2
namespace Go.Proofs.YtbcadgooelcnhaaDoor
open Go.RowKit

/-- A name that does not fit. -/
def unfitN (f : Wh.Feat) (n : ByteArray) : Bool := decide (f.maxName < (n.size : Int)) || Lib.containsAny n.data.toList f.forbid.data.toList

/-- Does a path fit a store? -/
def fitsB (f : Wh.Feat) (s : ByteArray) : Bool := !decide (f.maxPath < (s.size : Int)) && !(Wh.namesOf s).any (unfitN f)

theorem unfit_eq (f : Wh.Feat) (n : ByteArray) : unfitN f n = (decide (f.maxName < (n.size : Int)) || Lib.containsAny n.data.toList f.forbid.data.toList) := rfl

theorem unfit_at {f : Wh.Feat} {s n : ByteArray} (hn : n ∈ Wh.namesOf s) (h : unfitN f n = true) : fitsB f s = false := by
  have : (Wh.namesOf s).any (unfitN f) = true := List.any_eq_true.2 ⟨n, hn, h⟩
  simp [fitsB, this]

set_option maxHeartbeats 2000000 in
set_option maxRecDepth 100000 in
theorem storefits_any (f : Wh.Feat) (s : ByteArray) (w : World) (hE : Env w) (hp : Wh.pathErr s.data.toList = 0) (hfl : f.forbid.size < 4294967281) (hfa : ∀ b ∈ f.forbid.data.toList, b.toNat < 128) :
    Calls Tryd.prog 102 #[featVal f, .string s] w fun e w' => e = .returned (.bool (fitsB f s)) ∧ Below w.heap.size w w' := by
  have hsz := Wh.path_size (Wh.pathErr_zero hp)
  have HP := Lib.hid (fun W (hb : Below w.heap.size w W) => parts_good s W (hE.under hb) hsz hp)
  have HCA := Lib.hid (fun n W hn => containsAny_any n f.forbid W hn hfl hfa)
  have HNm := Lib.hid (fun n (hn : n ∈ Wh.namesOf s) => show n.size ≤ 1024 by
    unfold Wh.namesOf at hn
    split at hn
    · cases hn
    · have := Wh.pieces_size hn; omega)
  have HU := Lib.hid (fun n (hn : n ∈ Wh.namesOf s) h => unfit_at (f := f) hn h)
  have hnl := Wh.namesOf_le s
  have hF : fitsB f s = (!decide (f.maxPath < (s.size : Int)) && !(Wh.namesOf s).any (unfitN f)) := rfl
  have HF := Lib.hid hF
  have HB := Lib.hid (featBox_new w f)
  have hb1 : Below w.heap.size w (w.alloc (featObj f)) := bAlloc (Below.refl _ _) _
  clear hE hp hfl hfa hF
  generalize fitsB f s = B at *
  unfold featVal featObj at *
  go_enter Tryd.func102, Tryd.ntmps102
  go_upto_region 1 with fail
  generalize w.alloc _ = w1 at *
  obtain ⟨k0, k1, k2, k3, k4, k5, k6, k7, k8, k9⟩ := HB.out
  cases hc : decide (f.maxPath < (s.size : Int))
  case true =>
    have hR : B = false := by rw [HF.out, hc]; rfl
    have HR := Lib.hid hR
    clear hR
    go_wp2_with fail
    go_ret
    exact ⟨ret_bool HR.out.symm, hb1⟩
  case false =>
    rw [hc] at HF
    go_wp2_with fail
    refine (HP.out _ hb1).mono ?_
    rintro e w2 ⟨a, c, rfl, hcap, hH, hb2⟩
    have HH := Lib.hid hH
    have HB2 := Lib.hid (HB.out.under hb2)
    have hb02 := bTrans hb1 hb2
    clear hH hc k0 k1 k2 k3 k4 k5 k6 k7 k8 k9 HB HP hb1 hb2
    generalize Wh.namesOf s = ns at *
    go_wp2_with fail
    go_loopg [21] ns.length (fun g s21 wx => ∃ k : Nat, k + g = ns.length ∧ s21 = .int .i64 k ∧ Below w2.heap.size w2 wx ∧ Hid (∀ (j : Nat) (n : ByteArray), j < k → ns[j]? = some n → unfitN f n = false))
    case atStart => exact ⟨0, by omega, rfl, Below.refl _ _, Lib.hid (fun j n hj => absurd hj (by omega))⟩
    case round =>
      obtain ⟨k, hk, rfl, hb, HL⟩ := hrel
      by_cases hlt : k < ns.length
      · obtain ⟨g, rfl⟩ : ∃ g, gk = g + 1 := ⟨gk - 1, by omega⟩
        obtain ⟨n, hn⟩ : ∃ n, ns[k]? = some n := ⟨_, List.getElem?_eq_getElem hlt⟩
        obtain ⟨ba, off, ha, hba, hca⟩ := (HH.out.under hb).at (k := k) (u := .string n) (by simp [hn])
        have hns := HNm.out n (List.mem_of_getElem? hn)
        have HCn := Lib.hid (fun W => HCA.out n W (by omega))
        have HUx := Lib.hid (fun h => HU.out n (List.mem_of_getElem? hn) h)
        have hun := unfit_eq f n
        have Hn := Lib.hid hn
        clear hn
        subst ha
        obtain ⟨k0, k1, k2, k3, k4, k5, k6, k7, k8, k9⟩ := HB2.out.under hb
        clear k0 k1 k2 k3 k5 k6 k7 k8
        generalize hu2 : unfitN f n = U at *
        have HU2 := Lib.hid hu2
        clear hu2
        cases c1 : decide (f.maxName < (n.size : Int))
        case true =>
          have HR := Lib.hid (HUx.out (by rw [hun, c1]; rfl))
          clear hun
          go_wp2_with fail
          go_ret
          exact ⟨ret_bool HR.out.symm, bTrans hb02 hb⟩
        case false =>
          rw [c1, Bool.false_or] at hun
          cases c2 : Lib.containsAny n.data.toList f.forbid.data.toList
          case true =>
            have HR := Lib.hid (HUx.out (by rw [hun, c2]))
            rw [c2] at HCn
            clear hun c2
            go_wp2_with fail
            refine (HCn.out _).mono ?_
            rintro e w3 ⟨rfl, hb3⟩
            go_wp2_with fail
            go_ret
            exact ⟨ret_bool HR.out.symm, bTrans (bTrans hb02 hb) hb3⟩
          case false =>
            rw [c2] at HCn
            have HL2 : Hid (∀ (j : Nat) (m : ByteArray), j < k + 1 → ns[j]? = some m → unfitN f m = false) := Lib.hid (fun j m hj hm => by
              rcases Nat.lt_or_ge j k with h | h
              · exact HL.out j m h hm
              · obtain rfl : j = k := by omega
                rw [Hn.out] at hm
                cases hm
                rw [HU2.out, hun, c2])
            clear hun c2
            go_wp2_with fail
            refine (HCn.out _).mono ?_
            rintro e w3 ⟨rfl, hb3⟩
            go_wp2_with fail
            go_roundg g
            case measure => omega
            case rel => exact ⟨k + 1, by omega, by go_num, bTrans hb hb3, HL2⟩
      · have hR : B = true := by
          rw [HF.out]
          have : ns.any (unfitN f) = false := by
            rw [List.any_eq_false]
            intro n hn
            obtain ⟨j, hj⟩ := List.mem_iff_getElem?.1 hn
            have := HL.out j n (by have := (List.getElem?_eq_some_iff.1 hj).1; omega) hj
            simp [this]
          rw [this]
          rfl
        have HR := Lib.hid hR
        clear hR
        go_wp2_with fail
        go_ret
        exact ⟨ret_bool HR.out.symm, bTrans hb02 hb⟩

set_option maxHeartbeats 1000000 in
set_option maxRecDepth 100000 in
theorem storeFits_any (f : Wh.Feat) (s : ByteArray) (w : World) (hE : Env w) (hp : Wh.pathErr s.data.toList = 0) (hfl : f.forbid.size < 4294967281) (hfa : ∀ b ∈ f.forbid.data.toList, b.toNat < 128) :
    Calls Tryd.prog 75 #[featVal f, .string s] w fun e w' => e = .returned (.bool (fitsB f s)) ∧ Below w.heap.size w w' := by
  have H := Lib.hid (fun W (hb : Below w.heap.size w W) => storefits_any f s W (hE.under hb) hp hfl hfa)
  have HB := Lib.hid (featBox_new w f)
  have hb1 : Below w.heap.size w (w.alloc (featObj f)) := bAlloc (Below.refl _ _) _
  clear hE hp hfl hfa
  unfold featVal featObj at *
  go_enter Tryd.func75, Tryd.ntmps75
  go_upto_region 1 with fail
  generalize w.alloc _ = w1 at *
  obtain ⟨k0, k1, k2, k3, k4, k5, k6, k7, k8, k9⟩ := HB.out
  go_wp2_with fail
  refine (H.out _ hb1).mono ?_
  rintro e w2 ⟨rfl, hb2⟩
  go_wp2_with fail
  go_ret
  exact ⟨rfl, bTrans hb1 hb2⟩

set_option maxHeartbeats 1000000 in
set_option maxRecDepth 100000 in
theorem planFits_any (f : Wh.Feat) (s : ByteArray) (w : World) (hE : Env w) (hp : Wh.pathErr s.data.toList = 0) (hfl : f.forbid.size < 4294967281) (hfa : ∀ b ∈ f.forbid.data.toList, b.toNat < 128) :
    Calls Tryd.prog 36 #[featVal f, .string s] w fun e w' => e = .returned (.bool (fitsB f s)) ∧ Below w.heap.size w w' := by
  have hsz := Wh.path_size (Wh.pathErr_zero hp)
  have H := Lib.hid (fun W (hb : Below w.heap.size w W) => storeFits_any f s W (hE.under hb) hp hfl hfa)
  have HC := Lib.hid (fun W (hb : Below w.heap.size w W) => check_any s W (hE.under hb) (by omega))
  rw [hp] at HC
  have HB := Lib.hid (featBox_new w f)
  have hb1 : Below w.heap.size w (w.alloc (featObj f)) := bAlloc (Below.refl _ _) _
  clear hE hp hfl hfa
  generalize fitsB f s = B at *
  unfold featVal featObj at *
  go_enter Tryd.func36, Tryd.ntmps36
  go_upto_region 1 with fail
  generalize w.alloc _ = w1 at *
  go_wp2_with fail
  refine (HC.out _ hb1).mono ?_
  rintro e w2 ⟨rfl, hb2⟩
  obtain ⟨k0, k1, k2, k3, k4, k5, k6, k7, k8, k9⟩ := HB.out.under hb2
  go_wp2_with fail
  refine (H.out _ (bTrans hb1 hb2)).mono ?_
  rintro e w3 ⟨rfl, hb3⟩
  go_wp2_with fail
  go_ret
  exact ⟨rfl, bTrans (bTrans hb1 hb2) hb3⟩

theorem containsAny_nil : ∀ l : List UInt8, Lib.containsAny l [] = false := by
  intro l
  rw [Wh.containsAny_eq]
  simp

theorem enters_refFits1 : ∀ args w, (callFunc 77 args).run Tryd.prog w = .ok (.enter 77 args) w := enters_of Tryd.func77 (by kernel_rfl) rfl

set_option maxHeartbeats 1000000 in
set_option maxRecDepth 100000 in
theorem refFits1_any (f : Wh.Feat) (n : ByteArray) (b : Nat) (w : World) (hB : FeatBox w b f) (hn : n.size < 4294967281) (hfl : f.forbid.size < 4294967281) (hfa : ∀ b ∈ f.forbid.data.toList, b.toNat < 128) :
    Calls Tryd.prog 77 #[.string n, .pointer (some ⟨b, 0, none⟩)] w fun e w' => e = .returned (.bool (unfitN f n)) ∧ Below w.heap.size w w' := by
  have HCA := Lib.hid (fun W => containsAny_any n f.forbid W hn hfl hfa)
  have hun := unfit_eq f n
  have HZ : Hid (f.forbid.toList.isEmpty = true → Lib.containsAny n.data.toList f.forbid.data.toList = false) := Lib.hid (fun h => by
    rw [Lib.toList_data] at h
    have : f.forbid.data.toList = [] := by simpa using h
    rw [this]
    exact containsAny_nil _)
  have HB := Lib.hid hB
  clear hn hfl hfa hB
  generalize unfitN f n = U at *
  obtain ⟨k0, k1, k2, k3, k4, k5, k6, k7, k8, k9⟩ := HB.out
  clear k1 k2 k3 k5 k6 k7 k8
  cases c1 : decide (f.maxName < (n.size : Int))
  · rw [c1, Bool.false_or] at hun
    cases c2 : Lib.containsAny n.data.toList f.forbid.data.toList
    · rw [c2] at HCA hun
      have HU := Lib.hid hun
      clear hun c2
      go_enter Tryd.func77, Tryd.ntmps77
      go_wp2_with fail
      refine (HCA.out _).mono ?_
      rintro e w2 ⟨rfl, hb2⟩
      go_wp2_with fail
      go_ret
      exact ⟨ret_bool HU.out.symm, hb2⟩
    · rw [c2] at HCA hun HZ
      have HU := Lib.hid hun
      have q : f.forbid.toList.isEmpty = false := by
        cases hq : f.forbid.toList.isEmpty with
        | false => rfl
        | true => have := HZ.out hq; cases this
      have q2 : ¬ f.forbid.toList = [] := by simpa using q
      clear hun c2
      go_enter Tryd.func77, Tryd.ntmps77
      go_wp2_with fail
      refine (HCA.out _).mono ?_
      rintro e w2 ⟨rfl, hb2⟩
      obtain ⟨k0, k1, k2, k3, k4, k5, k6, k7, k8, k9⟩ := HB.out.under hb2
      go_wp2_with fail
      go_ret
      exact ⟨ret_bool HU.out.symm, hb2⟩
  · rw [c1, Bool.true_or] at hun
    have HU := Lib.hid hun
    clear hun
    go_enter Tryd.func77, Tryd.ntmps77
    go_wp2_with fail
    go_ret
    exact ⟨ret_bool HU.out.symm, Below.refl _ _⟩
end Go.Proofs.YtbcadgooelcnhaaDoor
