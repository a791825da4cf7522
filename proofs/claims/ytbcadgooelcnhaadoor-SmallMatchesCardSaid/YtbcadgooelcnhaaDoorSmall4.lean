/-
  The reference's Fits and SamePath; plan.Partial, IsPartial; rightFeatures: walked.
-/
import Derived.Test.YtbcadgooelcnhaaDoorSmall3
namespace Go.Proofs.YtbcadgooelcnhaaDoor
open Go.RowKit

/-- A predicate with one captured variable. -/
def PredC (F : FuncId) (cp : Value) (p : ByteArray → Bool) (xs : List ByteArray) (w : World) : Prop :=
  ∀ x ∈ xs, ∀ W, Below w.heap.size w W → Calls Tryd.prog F #[.string x, cp] W fun e w' => e = .returned (.bool (p x)) ∧ Below W.heap.size W w'

set_option maxHeartbeats 1000000 in
theorem indexFunc_cap (F : FuncId) (cp : Value) (p : ByteArray → Bool) (a : Option Addr) (c : Nat) (xs : List ByteArray) (w : World) (hen : ∀ args w, (callFunc F args).run Tryd.prog w = .ok (.enter F args) w)
    (hl : xs.length ≤ 9223372036854775807) (hH : Holds w a (xs.map Value.string)) (hp : PredC F cp p xs w) :
    Calls Tryd.prog 82 #[.slice a xs.length c, .func (.func F) #[] #[cp]] w fun e w' => e = .returned (.int .i64 (idxBy p xs)) ∧ Below w.heap.size w w' := by
  have HH := Lib.hid hH
  have HP := Lib.hid hp
  clear hH hp
  go_enter Tryd.func82, Tryd.ntmps82
  go_wp2_with fail
  go_loopg [8] xs.length (fun g i wx => ∃ k : Nat, k + g = xs.length ∧ i = .int .i64 k ∧ Below w.heap.size w wx ∧ Hid (∀ (j : Nat) x, j < k → xs[j]? = some x → p x = false))
  case atStart => exact ⟨0, by omega, rfl, Below.refl _ _, Lib.hid (fun j x h => absurd h (Nat.not_lt_zero _))⟩
  case round =>
    obtain ⟨k, hk, rfl, hb, HN⟩ := hrel
    by_cases hlt : k < xs.length
    · obtain ⟨g, rfl⟩ : ∃ g, gk = g + 1 := ⟨gk - 1, by omega⟩
      obtain ⟨x, hx⟩ : ∃ x, xs[k]? = some x := ⟨_, List.getElem?_eq_getElem hlt⟩
      obtain ⟨ba, off, ha, hba, hca⟩ := (HH.out.under hb).at (k := k) (u := .string x) (by simp [hx])
      have Hx := Lib.hid hx
      clear hx
      subst ha
      have HC := Lib.hid (HP.out x (List.mem_of_getElem? Hx.out) wr hb)
      cases hpx : p x
      · rw [hpx] at HC
        go_wp2_with fail
        refine HC.out.mono ?_
        rintro e w' ⟨rfl, hb2⟩
        go_wp2_with fail
        go_roundg g
        case measure => omega
        case rel =>
          refine ⟨k + 1, by omega, by go_num, bTrans hb hb2, Lib.hid (fun j y hj hy => ?_)⟩
          rcases Nat.lt_or_ge j k with h | h
          · exact HN.out j y h hy
          · obtain rfl : j = k := by omega
            rw [Hx.out] at hy
            cases hy
            exact hpx
      · rw [hpx] at HC
        go_wp2_with fail
        refine HC.out.mono ?_
        rintro e w' ⟨rfl, hb2⟩
        go_wp2_with fail
        go_ret
        refine ⟨ret_int ?_, bTrans hb hb2⟩
        have : xs.findIdx? p = some k := by
          rw [List.findIdx?_eq_some_iff_getElem]
          refine ⟨hlt, ?_, fun j hj => ?_⟩
          · have := (List.getElem?_eq_some_iff.1 Hx.out).2
            rw [this]; exact hpx
          · have := HN.out j (xs[j]'(by omega)) hj (List.getElem?_eq_getElem _)
            simp [this]
        simp [idxBy, this]
    · go_wp2_with fail
      go_ret
      refine ⟨ret_int ?_, hb⟩
      have : xs.findIdx? p = none := by
        rw [List.findIdx?_eq_none_iff]
        intro x hx
        obtain ⟨j, hj⟩ := List.getElem?_of_mem hx
        have hjl := (List.getElem?_eq_some_iff.1 hj).1
        exact HN.out j x (by omega) hj
      simp [idxBy, this]

set_option maxHeartbeats 1000000 in
theorem containsFunc_cap (F : FuncId) (cp : Value) (p : ByteArray → Bool) (a : Option Addr) (c : Nat) (xs : List ByteArray) (w : World) (hen : ∀ args w, (callFunc F args).run Tryd.prog w = .ok (.enter F args) w)
    (hl : xs.length ≤ 9223372036854775807) (hH : Holds w a (xs.map Value.string)) (hp : PredC F cp p xs w) :
    Calls Tryd.prog 39 #[.slice a xs.length c, .func (.func F) #[] #[cp]] w fun e w' => e = .returned (.bool (xs.any p)) ∧ Below w.heap.size w w' := by
  have H := Lib.hid (indexFunc_cap F cp p a c xs w hen hl hH hp)
  clear hH hp
  go_enter Tryd.func39, Tryd.ntmps39
  go_wp2_with (go_at_call 82; refine H.out.mono ?_; rintro e w' ⟨rfl, hb⟩)
  go_ret
  exact ⟨ret_bool (idxBy_pos p xs), hb⟩


set_option maxHeartbeats 2000000 in
set_option maxRecDepth 100000 in
theorem refFits_any (f : Wh.Feat) (s : ByteArray) (w : World) (hE : Env w) (hp : Wh.pathErr s.data.toList = 0) (hfl : f.forbid.size < 4294967281) (hfa : ∀ b ∈ f.forbid.data.toList, b.toNat < 128) :
    Calls Tryd.prog 37 #[featVal f, .string s] w fun e w' => e = .returned (.bool (fitsB f s)) ∧ Below w.heap.size w w' := by
  have hsz := Wh.path_size (Wh.pathErr_zero hp)
  have HN := Lib.hid (fun W (hb : Below w.heap.size w W) => refNamesOf_any s W (hE.under hb) (by omega))
  have H1 := Lib.hid (fun n W hB hn => refFits1_any f n w.heap.size W hB hn hfl hfa)
  have HNm := Lib.hid (fun n (hn : n ∈ Wh.namesOf s) => show n.size ≤ 1024 by
    unfold Wh.namesOf at hn
    split at hn
    · cases hn
    · have := Wh.pieces_size hn; omega)
  have hnl := Wh.namesOf_le s
  have hF : fitsB f s = (!decide (f.maxPath < (s.size : Int)) && !(Wh.namesOf s).any (unfitN f)) := rfl
  have HF := Lib.hid hF
  have HB := Lib.hid (featBox_new w f)
  have hb1 : Below w.heap.size w (w.alloc (featObj f)) := bAlloc (Below.refl _ _) _
  clear hE hp hfl hfa hF
  generalize fitsB f s = B at *
  unfold featVal featObj at *
  go_enter Tryd.func37, Tryd.ntmps37
  go_upto_region 1 with fail
  generalize w.alloc _ = w1 at *
  obtain ⟨k0, k1, k2, k3, k4, k5, k6, k7, k8, k9⟩ := HB.out
  by_cases hc : f.maxPath < (s.size : Int)
  · have hR : B = false := by rw [HF.out, decide_eq_true hc]; rfl
    have HR := Lib.hid hR
    clear hR
    go_wp2_with fail
    go_ret
    exact ⟨ret_bool HR.out.symm, hb1⟩
  · rw [decide_eq_false hc] at HF
    go_wp2_with fail
    refine (HN.out _ hb1).mono ?_
    rintro e w2 ⟨a, c, rfl, hcap, hH, hb2⟩
    have HB2 := Lib.hid (HB.out.under hb2)
    have hb02 := bTrans hb1 hb2
    clear k0 k1 k2 k3 k4 k5 k6 k7 k8 k9
    generalize Wh.namesOf s = ns at *
    have HCF := Lib.hid (containsFunc_cap 77 (.pointer (some ⟨w.heap.size, 0, none⟩)) (unfitN f) a c ns w2 enters_refFits1 (by omega) hH (fun n hn W hb => H1.out n W (HB2.out.under hb) (by have := HNm.out n hn; omega)))
    clear hH
    go_wp2_with fail
    refine HCF.out.mono ?_
    rintro e w3 ⟨rfl, hb3⟩
    go_wp2_with fail
    go_ret
    exact ⟨ret_bool (by rw [HF.out]; rfl), bTrans hb02 hb3⟩

set_option maxHeartbeats 1000000 in
theorem partial_any (s : ByteArray) (w : World) (hs : s.size ≤ 140737488351232) :
    Calls Tryd.prog 32 #[.string s] w fun e w' => e = .returned (.string (s ++ ⟨#[46, 119, 104, 126, 112, 97, 114, 116]⟩)) ∧ w' = w := by
  go_enter Tryd.func32, Tryd.ntmps32
  go_wp2_with fail
  go_ret
  exact ⟨rfl, rfl⟩

set_option maxHeartbeats 1000000 in
theorem isPartial_any (s : ByteArray) (w : World) (hs : s.size ≤ 9223372036854775807) :
    Calls Tryd.prog 33 #[.string s] w fun e w' => e = .returned (.bool (Lib.hasSuffix s.data.toList [46, 119, 104, 126, 112, 97, 114, 116])) ∧ w' = w := by
  have H := Lib.hid (fun W => Tryd.strings_HasSuffix s ⟨#[46, 119, 104, 126, 112, 97, 114, 116]⟩ W hs)
  go_enter Tryd.func33, Tryd.ntmps33
  go_wp2_with (go_at_call 73; refine (H.out _).mono ?_; rintro e w' ⟨rfl, rfl⟩)
  go_ret
  exact ⟨rfl, rfl⟩

set_option maxHeartbeats 1000000 in
theorem refIsPartial_any (s : ByteArray) (w : World) (hs : s.size ≤ 9223372036854775807) :
    Calls Tryd.prog 34 #[.string s] w fun e w' => e = .returned (.bool (Lib.hasSuffix s.data.toList [46, 119, 104, 126, 112, 97, 114, 116])) ∧ w' = w := by
  have H := Lib.hid (fun W => Tryd.strings_HasSuffix s ⟨#[46, 119, 104, 126, 112, 97, 114, 116]⟩ W hs)
  go_enter Tryd.func34, Tryd.ntmps34
  go_wp2_with (go_at_call 73; refine (H.out _).mono ?_; rintro e w' ⟨rfl, rfl⟩)
  go_ret
  exact ⟨rfl, rfl⟩

theorem sameP_eq (f : Wh.Feat) (s t : ByteArray) (h : s = t) : sameP f s t = true := by subst h; simp [sameP]
theorem sameP_case (f : Wh.Feat) (s t : ByteArray) (hne : ¬ s = t) (h : ¬ bits .and .i64 f.has 2 = 0) : sameP f s t = false := by
  simp only [sameP, keyOf, if_neg h]
  exact Wh.toList_ne hne
theorem sameP_fold (f : Wh.Feat) (s t : ByteArray) (h : bits .and .i64 f.has 2 = 0) : sameP f s t = ((⟨(Wh.lower s.data.toList).toArray⟩ : ByteArray).toList == (⟨(Wh.lower t.data.toList).toArray⟩ : ByteArray).toList) := by
  simp only [sameP, keyOf, if_pos h]

set_option maxHeartbeats 2000000 in
set_option maxRecDepth 100000 in
theorem refSamePath_any (f : Wh.Feat) (s t : ByteArray) (w : World) (hs : s.size ≤ 9223372036854775807) (ht : t.size ≤ 9223372036854775807) :
    Calls Tryd.prog 31 #[featVal f, .string s, .string t] w fun e w' => e = .returned (.bool (sameP f s t)) ∧ Below w.heap.size w w' := by
  have H1 := Lib.hid (fun W => lower_any s W hs)
  have H2 := Lib.hid (fun W => lower_any t W ht)
  have HB := Lib.hid (featBox_new w f)
  have hb1 : Below w.heap.size w (w.alloc (featObj f)) := bAlloc (Below.refl _ _) _
  have HE := Lib.hid (sameP_eq f s t)
  have HCs := Lib.hid (sameP_case f s t)
  have HFo := Lib.hid (sameP_fold f s t)
  generalize sameP f s t = B at *
  by_cases he : s = t
  · have HR := Lib.hid (HE.out he)
    have q : (s.toList == t.toList) = true := by rw [he]; simp
    clear he
    unfold featVal featObj at *
    go_enter Tryd.func31, Tryd.ntmps31
    go_upto_region 1 with fail
    generalize w.alloc _ = w1 at *
    go_wp2_with fail
    go_ret
    exact ⟨ret_bool HR.out.symm, hb1⟩
  · have q := Wh.toList_ne he
    by_cases hc : bits .and .i64 f.has 2 = 0
    · have HR := Lib.hid (HFo.out hc)
      have q2 : (bits BinOp.and IntKind.i64 f.has 2 == 0) = true := by simp [hc]
      clear he hc HFo HCs HE
      generalize (⟨(Wh.lower s.data.toList).toArray⟩ : ByteArray) = L1 at *
      generalize (⟨(Wh.lower t.data.toList).toArray⟩ : ByteArray) = L2 at *
      unfold featVal featObj at *
      go_enter Tryd.func31, Tryd.ntmps31
      go_upto_region 1 with fail
      generalize w.alloc _ = w1 at *
      obtain ⟨k0, k1, _⟩ := HB.out
      go_wp2_with fail
      refine (H1.out _).mono ?_
      rintro e w2 ⟨rfl, hb2⟩
      go_wp2_with fail
      refine (H2.out _).mono ?_
      rintro e w3 ⟨rfl, hb3⟩
      go_wp2_with fail
      go_ret
      exact ⟨ret_bool HR.out.symm, bTrans (bTrans hb1 hb2) hb3⟩
    · have HR := Lib.hid (HCs.out he hc)
      have q2 : (bits BinOp.and IntKind.i64 f.has 2 == 0) = false := by simp [hc]
      clear he hc HFo HCs HE
      unfold featVal featObj at *
      go_enter Tryd.func31, Tryd.ntmps31
      go_upto_region 1 with fail
      generalize w.alloc _ = w1 at *
      obtain ⟨k0, k1, _⟩ := HB.out
      go_wp2_with fail
      go_ret
      exact ⟨ret_bool HR.out.symm, hb1⟩
end Go.Proofs.YtbcadgooelcnhaaDoor
