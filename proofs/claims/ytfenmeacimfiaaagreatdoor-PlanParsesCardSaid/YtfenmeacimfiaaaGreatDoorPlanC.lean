/-
  The texts Pl6, Pw11, Pl7, Pw12, Pl8, Pw13, in one.
-/
import Derived.Test.YtfenmeacimfiaaaGreatDoorPl4
import Derived.Test.YtfenmeacimfiaaaGreatDoorPw6
import Derived.Test.YtfenmeacimfiaaaGreatDoorPlanA
namespace Wh
open Go

def UnqInv (I : List UInt8) (k : Nat) (out : List UInt8) : Prop := ∀ u, I = escL u → ∃ u2, u = out ++ u2 ∧ I.drop k = escL u2
theorem UnqInv.start (I : List UInt8) : UnqInv I 0 [] := fun u h => ⟨u, rfl, by rw [List.drop_zero]; exact h⟩
theorem drop_cons' {I : List UInt8} {k : Nat} {c : UInt8} (hc : I[k]? = some c) : I.drop k = c :: I.drop (k + 1) := by
  obtain ⟨h2, h3⟩ := List.getElem?_eq_some_iff.1 hc
  rw [List.drop_eq_getElem_cons h2, h3]
theorem UnqInv.plain {I out : List UInt8} {k : Nat} {c : UInt8} (h : UnqInv I k out) (hc : I[k]? = some c) (h92 : c ≠ 92) : UnqInv I (k + 1) (out ++ [c]) := by
  intro u hu
  obtain ⟨u2, h2, h3⟩ := h u hu
  rw [drop_cons' hc] at h3
  obtain ⟨v, l', h4, h5⟩ := escL_first h3.symm
  rcases h5 with ⟨_, _, h7, h8⟩ | ⟨h6, _⟩
  · subst h7
    exact ⟨l', by rw [h2, h4]; simp, h8⟩
  · exact absurd h6 h92
/-- The three bytes behind place k. -/
def three' (I : List UInt8) (k : Nat) : List UInt8 := (I.drop (k + 1)).take 3
theorem three'_split (I : List UInt8) (k : Nat) : I.drop (k + 1) = three' I k ++ I.drop (k + 4) := by
  have := List.take_append_drop 3 (I.drop (k + 1))
  rw [List.drop_drop] at this
  exact this.symm
theorem UnqInv.oct {I out : List UInt8} {k n : Nat} (h : UnqInv I k out) (hc : I[k]? = some 92) (hn : octVal (three' I k) = some n) : UnqInv I (k + 4) (out ++ [UInt8.ofNat n]) := by
  intro u hu
  obtain ⟨u2, h2, h5⟩ := h u hu
  rw [drop_cons' hc] at h5
  obtain ⟨v, l', h6, h7⟩ := escL_first h5.symm
  rcases h7 with ⟨h8, _⟩ | ⟨_, _, h9⟩
  · exact absurd rfl h8
  · have hl := congrArg List.length h9
    have h3 : (oct3 v).length = 3 := rfl
    rw [List.length_append, h3] at hl
    rw [three'_split] at h9
    have hl3 : (three' I k).length = 3 := by
      unfold three'
      rw [List.length_take]
      omega
    have h10 : three' I k = oct3 v := List.append_inj_left h9 (by rw [hl3, h3])
    have h11 : I.drop (k + 4) = escL l' := List.append_inj_right h9 (by rw [hl3, h3])
    rw [h10, octVal_oct3] at hn
    injection hn with hn
    refine ⟨l', ?_, h11⟩
    rw [← hn]
    simp only [UInt8.ofNat_toNat]
    rw [h2, h6]
    simp
theorem UnqInv.odd {I out : List UInt8} {k : Nat} (h : UnqInv I k out) (hc : I[k]? = some 92) (ho : I.length ≤ k + 3 ∨ octVal (three' I k) = none) : ∀ u, I ≠ escL u := by
  intro u hu
  obtain ⟨u2, _, h5⟩ := h u hu
  rw [drop_cons' hc] at h5
  obtain ⟨v, l', _, h7⟩ := escL_first h5.symm
  rcases h7 with ⟨h8, _⟩ | ⟨_, _, h9⟩
  · exact absurd rfl h8
  · have hl := congrArg List.length h9
    have h3 : (oct3 v).length = 3 := rfl
    rw [List.length_append, h3, List.length_drop] at hl
    rw [three'_split] at h9
    have hl3 : (three' I k).length = 3 := by
      unfold three'
      rw [List.length_take, List.length_drop]
      omega
    have h10 : three' I k = oct3 v := List.append_inj_left h9 (by rw [hl3, h3])
    rcases ho with ho | ho
    · omega
    · rw [h10, octVal_oct3] at ho
      cases ho
theorem UnqInv.finish {I out : List UInt8} (h : UnqInv I I.length out) : ∀ u, I = escL u → u = out := by
  intro u hu
  obtain ⟨u2, h2, h3⟩ := h u hu
  rw [List.drop_length] at h3
  rw [escL_nil h3.symm, List.append_nil] at h2
  exact h2
/-- A text in quotes, and what stands between them. -/
theorem quoted_inside {s I : List UInt8} (h : s = 34 :: (I ++ [34])) (u : List UInt8) : s = quotedL u ↔ I = escL u := by
  rw [h]
  unfold quotedL
  constructor
  · intro e
    injection e with _ e
    exact List.append_cancel_right e
  · intro e
    rw [e]
theorem quoted_ends {s u : List UInt8} (h : s = quotedL u) : 2 ≤ s.length ∧ s[0]? = some 34 ∧ s[s.length - 1]? = some 34 := by
  subst h
  unfold quotedL
  refine ⟨by simp, rfl, ?_⟩
  simp
theorem ends_inside {s : List UInt8} (h2 : 2 ≤ s.length) (h0 : s[0]? = some 34) (h1 : s[s.length - 1]? = some 34) : s = 34 :: ((s.take (s.length - 1)).drop 1 ++ [34]) := by
  have e1 : s = s.take 1 ++ (s.drop 1).take (s.length - 2) ++ s.drop (s.length - 1) := by
    rw [List.append_assoc]
    have : (s.drop 1).take (s.length - 2) ++ s.drop (s.length - 1) = s.drop 1 := by
      have := List.take_append_drop (s.length - 2) (s.drop 1)
      rw [List.drop_drop, show 1 + (s.length - 2) = s.length - 1 by omega] at this
      exact this
    rw [this, List.take_append_drop]
  have e2 : s.take 1 = [34] := by
    obtain ⟨h3, h4⟩ := List.getElem?_eq_some_iff.1 h0
    have := List.take_add_one (l := s) (i := 0)
    rw [h0] at this
    simpa using this
  have e3 : s.drop (s.length - 1) = [34] := by
    rw [drop_cons' h1, List.drop_of_length_le (by omega)]
  have e4 : (s.take (s.length - 1)).drop 1 = (s.drop 1).take (s.length - 2) := by
    rw [List.drop_take]
    congr 1
  rw [e4]
  conv => lhs; rw [e1, e2, e3]
  simp
end Wh
namespace Go.Proofs.YtfenmeacimfiaaaGreatDoor
open Go.RowKit

/-- What wholeNumber returns. -/
def WholePost (s : ByteArray) (w : World) (e : Ending) (w' : World) : Prop :=
  ∃ (v : Int) (ok : Bool), e = .returned (.tuple #[.int .i64 v, .bool ok]) ∧ Below w.heap.size w w' ∧ (ok = true → numOf s.data.toList v) ∧ (∀ u, numOf s.data.toList u → ok = true)

set_option maxHeartbeats 2000000 in
theorem whole_any (s : ByteArray) (w : World) (hX : EnvX w) (hT : EnvT w) (hs : s.size ≤ 2000000) : Calls Tryz.prog 78 #[.string s] w (WholePost s w) := by
  have HAt := Lib.hid (atoi_any s w hX hs)
  have HT := Lib.hid hT
  clear hX hT
  go_enter Tryz.func78, Tryz.ntmps78
  go_upto_region 2 with (go_at_call 72; refine HAt.out.mono ?_; rintro e w2 ⟨hp, hb2⟩; have HB2 := Lib.hid hb2; clear hb2; rcases hp with ⟨v, rfl, v0, v1, hu⟩ | ⟨v, ad, rfl, hu⟩)
  · have HU := Lib.hid hu
    clear hu
    have HI := Lib.hid (itoa_any v w2 (HT.out.under HB2.out) v0 v1)
    have HV : Hid ((numS v).data.toList = Lib.itoa v) := Lib.hid (numS_list v)
    generalize numS v = nv at *
    cases hq : (nv.toList == s.toList)
    · have HQ : Hid (s.data.toList ≠ Lib.itoa v) := Lib.hid (fun e => by
        rw [← HV.out] at e
        rw [Lib.toList_data, Lib.toList_data, e] at hq
        simp at hq)
      go_wp2_with (go_at_call 73; refine HI.out.mono ?_; rintro e w3 ⟨rfl, hb3⟩; have HB3 := Lib.hid hb3; clear hb3)
      go_ret2
      exact ⟨_, _, rfl, bTrans HB2.out HB3.out, fun h => (by cases h), fun u hu => absurd (by rw [hu.1, HU.out u hu]) HQ.out⟩
    · have HQ : Hid (s.data.toList = Lib.itoa v) := Lib.hid (by
        rw [Lib.toList_data, Lib.toList_data] at hq
        rw [← HV.out]
        exact (beq_iff_eq.1 hq).symm)
      go_wp2_with (go_at_call 73; refine HI.out.mono ?_; rintro e w3 ⟨rfl, hb3⟩; have HB3 := Lib.hid hb3; clear hb3)
      go_ret2
      exact ⟨_, _, rfl, bTrans HB2.out HB3.out, fun _ => ⟨HQ.out, v0, v1⟩, fun u hu => rfl⟩
  · have HU := Lib.hid hu
    clear hu
    go_wp2_with fail
    go_ret2
    exact ⟨_, _, rfl, HB2.out, fun h => (by cases h), fun u hu => absurd hu (HU.out u)⟩

/-- What unquote returns. -/
def UnqPost (s : ByteArray) (w : World) (e : Ending) (w' : World) : Prop :=
  ∃ (out : ByteArray) (ok : Bool), e = .returned (.tuple #[.string out, .bool ok]) ∧ Below w.heap.size w w' ∧ out.size ≤ s.size ∧ (ok = true → s.data.toList = Wh.quotedL out.data.toList) ∧ (∀ u, s.data.toList = Wh.quotedL u → ok = true)

theorem quotedP (out : List UInt8) (w : World) (h : out.length ≤ 100000000) : Calls Tryz.prog 147 #[.string ⟨out.toArray⟩] w fun e w' => e = .returned (.string ⟨(Wh.quotedL out).toArray⟩) ∧ Below w.heap.size w w' := by
  have := quotePath_any ⟨out.toArray⟩ w (by rw [Lib.size_eq]; simpa using h)
  rwa [show (⟨out.toArray⟩ : ByteArray).data.toList = out by simp, Wh.quoteL_is] at this

set_option maxHeartbeats 4000000 in
set_option maxRecDepth 100000 in
theorem unquote_any (s : ByteArray) (w : World) (hX : EnvX w) (hs : s.size ≤ 2000000) : Calls Tryz.prog 79 #[.string s] w (UnqPost s w) := by
  have hsz := Lib.size_eq s
  have HX := Lib.hid hX
  clear hX
  by_cases h2 : s.size < 2
  · have HN : Hid (∀ u, s.data.toList ≠ Wh.quotedL u) := Lib.hid (fun u e => by have := (Wh.quoted_ends e).1; omega)
    clear hsz
    go_enter Tryz.func79, Tryz.ntmps79
    go_wp2_with fail
    go_ret2
    exact ⟨_, _, rfl, Below.refl _ _, Nat.zero_le _, fun h => (by cases h), fun u hu => absurd hu (HN.out u)⟩
  have hn2 : ¬ (s.size : Int) < 2 := by omega
  have hp0 : 0 < s.size := by omega
  have hp1 : s.size - 1 < s.size := by omega
  obtain ⟨ca, hca⟩ : ∃ ca : UInt8, s[0]'hp0 = ca := ⟨_, rfl⟩
  obtain ⟨cz, hcz⟩ : ∃ cz : UInt8, s[s.size - 1]'hp1 = cz := ⟨_, rfl⟩
  have hla : s.data.toList[0]? = some ca := by rw [← hca]; exact Lib.data_getElem? s 0 hp0
  have hlz : s.data.toList[s.data.toList.length - 1]? = some cz := by rw [← hcz, ← hsz]; exact Lib.data_getElem? s (s.size - 1) hp1
  have hi0 : (0 : Int) ≤ (s.size : Int) - 1 := by omega
  have hi1 : (s.size : Int) - 1 < (s.size : Int) := by omega
  have htn : ((s.size : Int) - 1).toNat = s.size - 1 := by omega
  obtain ⟨xa, _⟩ := byte_facts ca
  obtain ⟨xz, _⟩ := byte_facts cz
  by_cases hgood : ca = 34 ∧ cz = 34
  case neg =>
    have HN : Hid (∀ u, s.data.toList ≠ Wh.quotedL u) := Lib.hid (fun u e => by
      obtain ⟨_, q1, q2⟩ := Wh.quoted_ends e
      rw [hla] at q1
      rw [hlz] at q2
      injection q1 with q1
      injection q2 with q2
      exact hgood ⟨q1, q2⟩)
    have hq : ca ≠ 34 ∨ ca = 34 ∧ cz ≠ 34 := by
      by_cases h : ca = 34
      · exact .inr ⟨h, fun h' => hgood ⟨h, h'⟩⟩
      · exact .inl h
    clear hgood hla hlz hsz
    rcases hq with hq | ⟨hq, hr⟩
    · have xa2 : ((ca.toNat : Int) == 34) = false := by rw [xa]; simpa using hq
      have xa3 : ((ca.toNat : Int) != 34) = true := by simp only [bne, xa2, Bool.not_false]
      clear xa hq
      go_enter Tryz.func79, Tryz.ntmps79
      go_wp2_with fail
      all_goals
        go_ret2
        exact ⟨_, _, rfl, Below.refl _ _, Nat.zero_le _, fun h => (by cases h), fun u hu => absurd hu (HN.out u)⟩
    · have xa2 : ((ca.toNat : Int) == 34) = true := by rw [xa]; simpa using hq
      have xz2 : ((cz.toNat : Int) == 34) = false := by rw [xz]; simpa using hr
      have xz3 : ((cz.toNat : Int) != 34) = true := by simp only [bne, xz2, Bool.not_false]
      clear xa hq xz hr
      go_enter Tryz.func79, Tryz.ntmps79
      go_wp2_with fail
      all_goals
        go_ret2
        exact ⟨_, _, rfl, Below.refl _ _, Nat.zero_le _, fun h => (by cases h), fun u hu => absurd hu (HN.out u)⟩
  case pos =>
    obtain ⟨rfl, rfl⟩ := hgood
    have HIn := Lib.hid (Wh.ends_inside (by omega) hla hlz)
    have xa2 : (((34 : UInt8).toNat : Int) == 34) = true := rfl
    have hj1 : (1 : Int) ≤ (s.size : Int) - 1 := by omega
    have hj2 : (s.size : Int) - 1 ≤ (s.size : Int) := by omega
    have HI : Hid ((s.extract 1 (s.size - 1)).data.toList = (s.data.toList.take (s.data.toList.length - 1)).drop 1 ∧ (s.extract 1 (s.size - 1)).size = s.size - 2) := Lib.hid (by
      have e : (s.extract 1 (s.size - 1)).data.toList = (s.data.toList.take (s.data.toList.length - 1)).drop 1 := by
        simp only [ByteArray.data_extract, Array.toList_extract, List.extract_eq_take_drop]
        rw [← hsz, List.drop_take]
      refine ⟨e, ?_⟩
      rw [Lib.size_eq, e, List.length_drop, List.length_take]
      omega)
    clear hla hlz xa xz hsz
    go_enter Tryz.func79, Tryz.ntmps79
    go_upto_region 5 with fail
    have HIs : Hid (s.data.toList = 34 :: ((s.extract 1 (s.size - 1)).data.toList ++ [34])) := Lib.hid (by rw [HI.out.1]; exact HIn.out)
    have hts : (s.extract 1 (s.size - 1)).size = s.size - 2 := HI.out.2
    clear HI HIn
    generalize s.extract 1 (s.size - 1) = t at *
    have HtL := Lib.hid (Lib.size_eq t)
    go_wp2_with fail
    go_loopg [4, 6] t.size (fun g s4 s6 wx => ∃ (k : Nat) (out : List UInt8) (a : Option Addr) (cap : Nat), k ≤ t.size ∧ k + g = t.size ∧ s6 = .int .i64 k ∧ s4 = .slice a out.length cap ∧ out.length ≤ k ∧ Hid (OwnB w wx a cap out) ∧ Hid (Wh.UnqInv t.data.toList k out))
    case atStart => exact ⟨0, [], none, 0, by omega, by omega, rfl, rfl, by decide, Lib.hid (OwnB.nil (Below.refl _ _)), Lib.hid (Wh.UnqInv.start _)⟩
    case round =>
      obtain ⟨k, out, a, cap, hkt, hk, rfl, rfl, hlen, HW, HU⟩ := hrel
      by_cases hlt : k < t.size
      · have hki : (k : Int) < (t.size : Int) := by omega
        obtain ⟨ch, hch⟩ : ∃ ch : UInt8, t[k]'hlt = ch := ⟨_, rfl⟩
        have Hcl : Hid (t.data.toList[k]? = some ch) := Lib.hid (by rw [← hch]; exact Lib.data_getElem? t k hlt)
        obtain ⟨_, xc⟩ := byte_facts ch
        by_cases h92 : ch = 92
        · subst h92
          by_cases hsh : t.size ≤ k + 3
          · have hsi : (t.size : Int) ≤ (k : Int) + 3 := by omega
            have HN : Hid (∀ u, s.data.toList ≠ Wh.quotedL u) := Lib.hid (fun u hu => HU.out.odd Hcl.out (.inl (by rw [← HtL.out]; exact hsh)) u ((Wh.quoted_inside HIs.out u).1 hu))
            have HB := Lib.hid HW.out.below
            go_wp2_with fail
            go_ret2
            exact ⟨_, _, rfl, HB.out, Nat.zero_le _, fun h => (by cases h), fun u hu => absurd hu (HN.out u)⟩
          · have hsi : ¬ (t.size : Int) ≤ (k : Int) + 3 := by omega
            have e1 : ((k : Int) + 1).toNat = k + 1 := by omega
            have e4 : ((k : Int) + 4).toNat = k + 4 := by omega
            have hl4 : (k : Int) + 4 ≤ (t.size : Int) := by omega
            have HTh : Hid ((t.extract (k + 1) (k + 4)).data.toList = Wh.three' t.data.toList k ∧ (t.extract (k + 1) (k + 4)).size ≤ 3) := Lib.hid (by
              have e : (t.extract (k + 1) (k + 4)).data.toList = Wh.three' t.data.toList k := by
                simp only [ByteArray.data_extract, Array.toList_extract, List.extract_eq_take_drop]
                unfold Wh.three'
                rw [show k + 4 - (k + 1) = 3 by omega]
              refine ⟨e, ?_⟩
              rw [Lib.size_eq, e]
              unfold Wh.three'
              rw [List.length_take]
              exact Nat.min_le_left _ _)
            have HPu := Lib.hid (parseU8_any (t.extract (k + 1) (k + 4)) wr (HX.out.under HW.out.below) HTh.out.2)
            rw [HTh.out.1] at HPu
            clear HTh
            obtain ⟨th, hth⟩ : ∃ th, t.extract (k + 1) (k + 4) = th := ⟨_, rfl⟩
            rw [hth] at HPu
            go_upto_region 13 with (go_at_call 142; refine HPu.out.mono ?_; rintro e w5 ⟨hp, hb5⟩; have HB5 := Lib.hid hb5; clear hb5; rcases hp with ⟨n, hn, rfl⟩ | ⟨hn, x, ad, rfl⟩)
            · have hn8 := Wh.octVal_le hn
              have HU2 := Lib.hid (HU.out.oct Hcl.out hn)
              have HW2 := Lib.hid (HW.out.under HB5.out)
              clear hn HW HU
              obtain ⟨y, hy⟩ : ∃ y : UInt8, UInt8.ofNat n = y := ⟨_, rfl⟩
              have hyw : IntKind.u8.wrap (n : Int) = ((y.toNat : Nat) : Int) := by
                rw [← hy, IntKind.wrap_u8]
                simp
              rw [hy] at HU2
              obtain ⟨g, rfl⟩ : ∃ g, gk = g + 4 := ⟨gk - 4, by omega⟩
              go_wp2_with (at_builtin; refine wp_app1B HW2.out y (by omega) rfl (.tmp 63) (.tmp 66) rfl rfl rfl ?_)
              intro a2 cap2 w6 hO6
              have HO6 := Lib.hid hO6
              clear hO6
              go_wp2_with fail
              go_roundg g
              case measure => omega
              case rel => exact ⟨k + 4, out ++ [y], a2, cap2, by omega, by omega, by go_num, by simp, by simp; omega, HO6, HU2⟩
            · have HN : Hid (∀ u, s.data.toList ≠ Wh.quotedL u) := Lib.hid (fun u hu => HU.out.odd Hcl.out (.inr hn) u ((Wh.quoted_inside HIs.out u).1 hu))
              have HB := Lib.hid (bTrans HW.out.below HB5.out)
              clear hn
              go_wp2_with fail
              go_ret2
              exact ⟨_, _, rfl, HB.out, Nat.zero_le _, fun h => (by cases h), fun u hu => absurd hu (HN.out u)⟩
        · have xc2 : ((ch.toNat : Int) == 92) = false := by rw [xc]; simpa using h92
          have HU2 := Lib.hid (HU.out.plain Hcl.out h92)
          clear xc h92
          obtain ⟨g, rfl⟩ : ∃ g, gk = g + 1 := ⟨gk - 1, by omega⟩
          go_wp2_with (at_builtin; refine wp_app1B HW.out ch (by omega) rfl (.tmp 40) (.tmp 44) rfl rfl rfl ?_)
          intro a2 cap2 w6 hO6
          have HO6 := Lib.hid hO6
          clear hO6
          go_wp2_with fail
          go_roundg g
          case measure => omega
          case rel => exact ⟨k + 1, out ++ [ch], a2, cap2, by omega, by omega, by go_num, by simp, by simp; omega, HO6, HU2⟩
      · obtain rfl : k = t.size := by omega
        have HFin : Hid (∀ u, s.data.toList = Wh.quotedL u → u = out) := Lib.hid (fun u hu => by
          have := HU.out
          rw [HtL.out] at this
          exact this.finish u ((Wh.quoted_inside HIs.out u).1 hu))
        have HCv : Hid (∀ W, Below wr.heap.size wr W → (convert 137 9 (.slice a out.length cap)).run Tryz.prog W = .ok (.string ⟨out.toArray⟩) W) := Lib.hid (fun W hW => convB (HW.out.under hW))
        have HQp := Lib.hid (fun W => quotedP out W (by omega))
        have HB := Lib.hid HW.out.below
        have HL : Hid (out.length ≤ s.size) := Lib.hid (by omega)
        clear HU HW
        go_upto_region 17 with fail
        refine wp_region_seq (fun W => Below wr.heap.size wr W) [(0, true), (1, true), (2, true), (3, true), (5, true), (4, false), (6, true), (7, true), (8, true)] (by as_aux_lemma => kernel_rfl) (by as_aux_lemma => kernel_rfl) (by decide) (by as_aux_lemma => kernel_rfl) (drB0 (Below.refl _ _)) ?_
        intro OPS HO
        refine seq_take (o := ⟨_, _, _, _, _, _⟩) (v := ?_) (by rw [HO.out]; rfl) (by rfl) ?_ ?_
        rotate_left 1
        · first | ((intro W _; go_simp) <;> with_reducible rfl) | (intro W hW; have hcv := HCv.out W hW; (go_simp <;> with_reducible rfl))
        try simp only [Act.put, List.setIfInBounds_toArray, List.set_cons_zero, List.set_cons_succ]
        refine seq_take (o := ⟨_, _, _, _, _, _⟩) (v := ?_) (by rw [HO.out]; rfl) (by rfl) ?_ ?_
        rotate_left 1
        · first | ((intro W _; go_simp) <;> with_reducible rfl) | (intro W hW; have hcv := HCv.out W hW; (go_simp <;> with_reducible rfl))
        try simp only [Act.put, List.setIfInBounds_toArray, List.set_cons_zero, List.set_cons_succ]
        refine seq_take (o := ⟨_, _, _, _, _, _⟩) (v := ?_) (by rw [HO.out]; rfl) (by rfl) ?_ ?_
        rotate_left 1
        · first | ((intro W _; go_simp) <;> with_reducible rfl) | (intro W hW; have hcv := HCv.out W hW; (go_simp <;> with_reducible rfl))
        try simp only [Act.put, List.setIfInBounds_toArray, List.set_cons_zero, List.set_cons_succ]
        refine seq_take (o := ⟨_, _, _, _, _, _⟩) (v := ?_) (by rw [HO.out]; rfl) (by rfl) ?_ ?_
        rotate_left 1
        · first | ((intro W _; go_simp) <;> with_reducible rfl) | (intro W hW; have hcv := HCv.out W hW; (go_simp <;> with_reducible rfl))
        try simp only [Act.put, List.setIfInBounds_toArray, List.set_cons_zero, List.set_cons_succ]
        refine seq_take (o := ⟨_, _, _, _, _, _⟩) (v := ?_) (by rw [HO.out]; rfl) (by rfl) ?_ ?_
        rotate_left 1
        · first | ((intro W _; go_simp) <;> with_reducible rfl) | (intro W hW; have hcv := HCv.out W hW; (go_simp <;> with_reducible rfl))
        try simp only [Act.put, List.setIfInBounds_toArray, List.set_cons_zero, List.set_cons_succ]
        refine seq_do (o := ⟨_, _, _, _, _, _⟩) (by rw [HO.out]; rfl) (by rfl) (fun K hK => ?_)
        go_wp2_with (go_at_call 147; go_loud (with_reducible refine (HQp.out _).mono ?_; rintro e w5 ⟨rfl, hb5⟩; have hS : Below wr.heap.size wr w5 := bTrans (drB0 (Below.refl wr.heap.size wr)) hb5; clear hb5))
        refine hK.out _ _ hS (fun _ => ?_)
        clear hK K
        try simp only [Act.put, List.setIfInBounds_toArray, List.set_cons_zero, List.set_cons_succ]
        refine seq_take (o := ⟨_, _, _, _, _, _⟩) (v := ?_) (by rw [HO.out]; rfl) (by rfl) ?_ ?_
        rotate_left 1
        · first | ((intro W _; go_simp) <;> with_reducible rfl) | (intro W hW; have hcv := HCv.out W hW; (go_simp <;> with_reducible rfl))
        try simp only [Act.put, List.setIfInBounds_toArray, List.set_cons_zero, List.set_cons_succ]
        refine seq_take (o := ⟨_, _, _, _, _, _⟩) (v := ?_) (by rw [HO.out]; rfl) (by rfl) ?_ ?_
        rotate_left 1
        · first | ((intro W _; go_simp) <;> with_reducible rfl) | (intro W hW; have hcv := HCv.out W hW; (go_simp <;> with_reducible rfl))
        try simp only [Act.put, List.setIfInBounds_toArray, List.set_cons_zero, List.set_cons_succ]
        refine seq_take (o := ⟨_, _, _, _, _, _⟩) (v := ?_) (by rw [HO.out]; rfl) (by rfl) ?_ ?_
        rotate_left 1
        · first | ((intro W _; go_simp) <;> with_reducible rfl) | (intro W hW; have hcv := HCv.out W hW; (go_simp <;> with_reducible rfl))
        try simp only [Act.put, List.setIfInBounds_toArray, List.set_cons_zero, List.set_cons_succ]
        refine seq_done ?_
        cases hq : (Wh.quotedL out == s.toList)
        · have HN : Hid (s.data.toList ≠ Wh.quotedL out) := Lib.hid (fun e => by
            rw [Lib.toList_data, e] at hq
            simp at hq)
          go_wp2_with fail
          go_ret2
          exact ⟨_, _, rfl, bTrans HB.out hS, by rw [Lib.size_eq]; simpa using HL.out, fun h => (by cases h), fun u hu => absurd (by rw [hu, HFin.out u hu]) HN.out⟩
        · have HN : Hid (s.data.toList = Wh.quotedL out) := Lib.hid (by
            rw [Lib.toList_data] at hq
            exact (beq_iff_eq.1 hq).symm)
          go_wp2_with fail
          go_ret2
          exact ⟨_, _, rfl, bTrans HB.out hS, by rw [Lib.size_eq]; simpa using HL.out, fun _ => by simpa using HN.out, fun u hu => rfl⟩
end Go.Proofs.YtfenmeacimfiaaaGreatDoor
namespace Wh
open Go

theorem idx_cases (c : UInt8) : ∀ l : List UInt8, (Lib.indexByte l c = -1 ∧ c ∉ l ∧ l.takeWhile (· != c) = l) ∨ ∃ i : Nat, Lib.indexByte l c = (i : Int) ∧ i < l.length ∧ l.takeWhile (· != c) = l.take i ∧ c ∈ l
  | [] => .inl ⟨rfl, by simp, rfl⟩
  | b :: l => by
    unfold Lib.indexByte
    by_cases hb : b = c
    · subst hb
      refine .inr ⟨0, by simp, by simp, by simp, by simp⟩
    · have hb2 : (b != c) = true := by simpa using hb
      have hb3 : c ≠ b := fun h => hb h.symm
      rw [if_neg (by simpa using hb)]
      rcases idx_cases c l with ⟨h1, h2, h3⟩ | ⟨i, h1, h2, h3, h4⟩
      · refine .inl ⟨by rw [h1]; rfl, by simp [hb3, h2], by rw [List.takeWhile_cons, if_pos hb2, h3]⟩
      · refine .inr ⟨i + 1, ?_, by simp; omega, by rw [List.takeWhile_cons, if_pos hb2, h3]; rfl, by simp [h4]⟩
        rw [h1]
        have : ¬ ((i : Int) = -1) := by omega
        simp [this]
theorem cut_case (R : List UInt8) :
    (Lib.hasPrefix R [34] = true ∧ 1 ≤ R.length ∧ ((Lib.indexByte (R.drop 1) 34 = -1 ∧ wordQ R = none) ∨ ∃ m : Nat, Lib.indexByte (R.drop 1) 34 = (m : Int) ∧ m + 2 ≤ R.length ∧ wordQ R = some (R.take (m + 2)))) ∨
    (Lib.hasPrefix R [34] = false ∧ ((Lib.indexByte R 32 = -1 ∧ ((R = [] ∧ wordQ R = none) ∨ (R ≠ [] ∧ wordQ R = some R))) ∨ ∃ m : Nat, Lib.indexByte R 32 = (m : Int) ∧ m < R.length ∧ ((m = 0 ∧ wordQ R = none) ∨ (m ≠ 0 ∧ wordQ R = some (R.take m))))) := by
  by_cases hh : R.head? = some 34
  · obtain ⟨r, rfl⟩ : ∃ r, R = 34 :: r := by
      cases R with
      | nil => cases hh
      | cons x r => injection hh with hh; exact ⟨r, by rw [hh]⟩
    refine .inl ⟨by simp [Lib.hasPrefix], by simp, ?_⟩
    have hd : (34 :: r : List UInt8).drop 1 = r := rfl
    unfold wordQ
    rw [hd, if_pos hh]
    rcases idx_cases 34 r with ⟨h1, h2, h3⟩ | ⟨i, h1, h2, h3, h4⟩
    · exact .inl ⟨h1, if_neg h2⟩
    · refine .inr ⟨i, h1, by simp; omega, ?_⟩
      rw [if_pos h4, h3]
      have h5 : r[i]? = some 34 := by
        obtain ⟨a, e1, e2⟩ := takeW_rest (c := 34) r
        rw [h3] at e1
        rcases e2 with e2 | ⟨q, e2⟩
        · subst e2
          have := congrArg List.length e1
          simp at this
          omega
        · rw [e1, e2, List.getElem?_append_right (by simp; omega)]
          simp
          have : i - min i r.length = 0 := by omega
          rw [this]
          rfl
      have h6 := List.take_add_one (l := r) (i := i)
      rw [h5] at h6
      show some (34 :: (r.take i ++ [34])) = some ((34 :: r).take (i + 1 + 1))
      rw [List.take_succ_cons, h6]
      rfl
  · have hp : Lib.hasPrefix R [34] = false := by
      cases R with
      | nil => rfl
      | cons x r =>
        simp only [Lib.hasPrefix, List.isPrefixOf, Bool.and_true]
        simpa using fun e : (34 : UInt8) = x => hh (by rw [← e]; rfl)
    refine .inr ⟨hp, ?_⟩
    unfold wordQ
    rw [if_neg hh]
    rcases idx_cases 32 R with ⟨h1, h2, h3⟩ | ⟨i, h1, h2, h3, h4⟩
    · refine .inl ⟨h1, ?_⟩
      rw [h3]
      by_cases hR : R = []
      · exact .inl ⟨hR, if_pos hR⟩
      · exact .inr ⟨hR, if_neg hR⟩
    · refine .inr ⟨i, h1, h2, ?_⟩
      rw [h3]
      by_cases hi : i = 0
      · subst hi
        exact .inl ⟨rfl, if_pos rfl⟩
      · refine .inr ⟨hi, if_neg fun h => ?_⟩
        have := congrArg List.length h
        rw [List.length_take, List.length_nil] at this
        omega
end Wh
namespace Go.Proofs.YtfenmeacimfiaaaGreatDoor
open Go.RowKit

theorem byte32 (c : UInt8) : ((c.toNat : Int) == 32) = (c == 32) := by
  have h : ∀ c : UInt8, ((c.toNat : Int) == 32) = (c == 32) := by
    intro c
    have h : ∀ n : Fin 256, (((UInt8.ofNat n.1).toNat : Int) == 32) = (UInt8.ofNat n.1 == 32) := by decide +kernel
    have := h ⟨c.toNat, c.toNat_lt⟩
    simpa using this
  exact h c

/-- What pWords returns. -/
def PWPost (s : ByteArray) (w : World) (e : Ending) (w' : World) : Prop :=
  (e = .returned (.tuple #[.slice none 0 0, .bool false]) ∧ Below w.heap.size w w' ∧ ¬ ∃ ws, ws ≠ [] ∧ (∀ x ∈ ws, Wh.isW x) ∧ s.data.toList = Wh.lineW ws) ∨
  (∃ (ws : List ByteArray) (a : Option Addr) (cap : Nat), e = .returned (.tuple #[.slice a ws.length cap, .bool true]) ∧ OwnS w w' a cap ws ∧ ws ≠ [] ∧ (∀ x ∈ ws.map (·.data.toList), Wh.isW x) ∧ s.data.toList = Wh.lineW (ws.map (·.data.toList)))

set_option maxHeartbeats 4000000 in
set_option maxRecDepth 100000 in
theorem pWords_any (s : ByteArray) (w : World) (hs : s.size ≤ 2000000) : Calls Tryz.prog 77 #[.string s] w (PWPost s w) := by
  have HsL := Lib.hid (Lib.size_eq s)
  go_enter Tryz.func77, Tryz.ntmps77
  go_wp2_with fail
  go_loopg [4, 5] s.size (fun g s4 s5 wx => ∃ (k : Nat) (out : List ByteArray) (a : Option Addr) (cap : Nat), k ≤ s.size ∧ k + g = s.size ∧ s5 = .int .i64 k ∧ s4 = .slice a out.length cap ∧ out.length ≤ k ∧ Hid (OwnS w wx a cap out) ∧ Hid (Wh.CutAt s.data.toList (out.map (·.data.toList)) k))
  case atStart => exact ⟨0, [], none, 0, by omega, by omega, rfl, rfl, by decide, Lib.hid (OwnS.nil (Below.refl _ _)), Lib.hid (Wh.CutAt.start _)⟩
  case round =>
    obtain ⟨k, out, a, cap, hks, hk, rfl, rfl, hlen, HO, HC⟩ := hrel
    have hki : (k : Int) ≤ (s.size : Int) := by omega
    have e1 : ((k : Int) + 1).toNat = k + 1 := by omega
    have HX0 : Hid ((s.extract k s.size).data.toList = s.data.toList.drop k) := Lib.hid (by
      simp only [ByteArray.data_extract, Array.toList_extract, List.extract_eq_take_drop]
      rw [Lib.size_eq, List.take_of_length_le (by simp)])
    have HX1 : Hid ((s.extract (k + 1) s.size).data.toList = (s.data.toList.drop k).drop 1) := Lib.hid (by
      simp only [ByteArray.data_extract, Array.toList_extract, List.extract_eq_take_drop]
      rw [Lib.size_eq, List.take_of_length_le (by simp), List.drop_drop])
    have HI0 := Lib.hid (fun W => Tryz.strings_IndexByte (s.extract k s.size) 32 W)
    have HI1 := Lib.hid (fun W => Tryz.strings_IndexByte (s.extract (k + 1) s.size) 34 W)
    have HPf := Lib.hid (fun W => Tryz.strings_HasPrefix (s.extract k s.size) ⟨#[34]⟩ W)
    rw [HX0.out] at HI0 HPf
    rw [HX1.out] at HI1
    change Hid (∀ W, Calls _ _ _ _ fun e w' => e = .returned (.int .i64 (Lib.indexByte (s.data.toList.drop k) 32)) ∧ _) at HI0
    change Hid (∀ W, Calls _ _ _ _ fun e w' => e = .returned (.int .i64 (Lib.indexByte ((s.data.toList.drop k).drop 1) 34)) ∧ _) at HI1
    change Hid (∀ W, Calls _ _ _ _ fun e w' => e = .returned (.bool (Lib.hasPrefix (s.data.toList.drop k) [34])) ∧ _) at HPf
    have hcase := Wh.cut_case (s.data.toList.drop k)
    have hRl : (s.data.toList.drop k).length = s.size - k := by rw [List.length_drop, ← HsL.out]
    generalize Lib.indexByte (s.data.toList.drop k) 32 = J0 at *
    generalize Lib.indexByte ((s.data.toList.drop k).drop 1) 34 = J1 at *
    generalize Lib.hasPrefix (s.data.toList.drop k) [34] = B at *
    rw [hRl] at hcase
    rcases hcase with ⟨rfl, hp1, ⟨rfl, hword⟩ | ⟨m, rfl, hm, hword⟩⟩ | ⟨rfl, ⟨rfl, ⟨hn, hword⟩ | ⟨hn, hword⟩⟩ | ⟨m, rfl, hm, ⟨rfl, hword⟩ | ⟨hn, hword⟩⟩⟩
    · have hk1 : (k : Int) + 1 ≤ (s.size : Int) := by omega
      clear hRl
      have HNo := Lib.hid (HC.out.none hword)
      have HB := Lib.hid HO.out.below
      clear hword
      go_wp2_with (first | (go_at_call 113; first | (with_reducible refine (HI0.out _).mono ?_; rintro e w4 ⟨rfl, hw4⟩; subst w4) | (with_reducible refine (HI1.out _).mono ?_; rintro e w4 ⟨rfl, hw4⟩; subst w4)) | (go_at_call 117; with_reducible refine (HPf.out _).mono ?_; rintro e w4 ⟨rfl, hw4⟩; subst w4))
      go_ret2
      exact .inl ⟨rfl, HB.out, HNo.out⟩
    · have hk1 : (k : Int) + 1 ≤ (s.size : Int) := by omega
      obtain ⟨K, hK⟩ : ∃ K, K = k + (m + 2) := ⟨_, rfl⟩
      have hKk : k < K := by omega
      have hsum : (k : Int) + ((m : Int) + 2) = (K : Int) := by omega
      have hng : ¬ (m : Int) + 2 < 0 := by omega
      have hnz : ¬ (m : Int) + 2 = 0 := by omega
      rw [show m + 2 = K - k by omega] at hword
      clear hRl
      have hKs : K ≤ s.size := by omega
      clear hK
      have hK1 : (k : Int) ≤ (K : Int) := by omega
      have hK2 : (K : Int) ≤ (s.size : Int) := by omega
      have HY : Hid ((s.extract k K).data.toList = (s.data.toList.drop k).take (K - k)) := Lib.hid (by simp only [ByteArray.data_extract, Array.toList_extract, List.extract_eq_take_drop])
      have HYl : Hid ((s.extract k K).data.toList.length = K - k) := Lib.hid (by rw [HY.out, List.length_take, List.length_drop, ← HsL.out]; omega)
      obtain ⟨y, hy⟩ : ∃ y, s.extract k K = y := ⟨_, rfl⟩
      rw [hy] at HY HYl
      rw [← HY.out] at hword
      have HWd := Lib.hid hword
      clear hword
      go_upto_region 14 with (first | (go_at_call 113; first | (with_reducible refine (HI0.out _).mono ?_; rintro e w4 ⟨rfl, hw4⟩; subst w4) | (with_reducible refine (HI1.out _).mono ?_; rintro e w4 ⟨rfl, hw4⟩; subst w4)) | (go_at_call 117; with_reducible refine (HPf.out _).mono ?_; rintro e w4 ⟨rfl, hw4⟩; subst w4) | (at_builtin; refine wp_appS HO.out y (by omega) rfl (.tmp 32) (.tmp 39) rfl rfl rfl ?_))
      intro ga cap2 w6 hO6
      have HO6 := Lib.hid hO6
      clear hO6 HO
      rw [show out.length + 1 = (out ++ [y]).length by simp]
      have HR : Hid (s.data.toList.drop k = y.data.toList ++ s.data.toList.drop K) := Lib.hid (by
        rw [HY.out]
        have := List.take_append_drop (K - k) (s.data.toList.drop k)
        rw [List.drop_drop, show k + (K - k) = K by omega] at this
        exact this.symm)
      have hmap : (out ++ [y]).map (·.data.toList) = out.map (·.data.toList) ++ [y.data.toList] := by simp
      by_cases hend : K = s.size
      · have he : (K : Int) = (s.size : Int) := by omega
        have HFin := Lib.hid (HC.out.last HWd.out (by rw [HR.out, hend, HsL.out, List.drop_length, List.append_nil]))
        rw [← hmap] at HFin
        have hne : out ++ [y] ≠ [] := by simp
        clear hmap
        generalize out ++ [y] = outZ at *
        go_wp2_with fail
        go_ret2
        exact .inr ⟨outZ, _, cap2, rfl, HO6.out, hne, HFin.out⟩
      · have he : ¬ (K : Int) = (s.size : Int) := by omega
        have hKl : K < s.size := by omega
        have hKi : (K : Int) < (s.size : Int) := by omega
        obtain ⟨ch, hch⟩ : ∃ ch : UInt8, s[K]'hKl = ch := ⟨_, rfl⟩
        have Hcl : Hid (s.data.toList.drop K = ch :: s.data.toList.drop (K + 1)) := Lib.hid (Wh.drop_cons' (by rw [← hch]; exact Lib.data_getElem? s K hKl))
        have xc := byte32 ch
        by_cases h32 : ch = 32
        · subst h32
          have HN := Lib.hid (HC.out.next HWd.out (by rw [HR.out, Hcl.out]))
          rw [HYl.out, show k + (K - k) + 1 = K + 1 by omega, ← hmap] at HN
          have hlz : (out ++ [y]).length ≤ K := by simp; omega
          clear hmap
          obtain ⟨g, rfl⟩ : ∃ g, gk = g + (K + 1 - k) := ⟨gk - (K + 1 - k), by omega⟩
          generalize out ++ [y] = outZ at *
          go_wp2_with fail
          go_roundg g
          case measure => omega
          case rel => exact ⟨K + 1, outZ, _, _, by omega, by omega, rfl, rfl, by omega, HO6, HN⟩
        · have HNo := Lib.hid (HC.out.odd HWd.out (by rw [HR.out, Hcl.out]) h32)
          have xc2 : ((ch.toNat : Int) == 32) = false := by rw [xc]; simpa using h32
          have xc3 : ((ch.toNat : Int) != 32) = true := by simp only [bne, xc2, Bool.not_false]
          have HB := Lib.hid HO6.out.below
          clear xc h32 hmap
          generalize out ++ [y] = outZ at *
          go_wp2_with fail
          go_ret2
          exact .inl ⟨rfl, HB.out, HNo.out⟩
    · have hk2 : s.size = k := by rw [hn] at hRl; simp at hRl; omega
      have hz : (s.size : Int) - (k : Int) = 0 := by omega
      clear hRl hk2
      have HNo := Lib.hid (HC.out.none hword)
      have HB := Lib.hid HO.out.below
      clear hword
      go_wp2_with (first | (go_at_call 113; first | (with_reducible refine (HI0.out _).mono ?_; rintro e w4 ⟨rfl, hw4⟩; subst w4) | (with_reducible refine (HI1.out _).mono ?_; rintro e w4 ⟨rfl, hw4⟩; subst w4)) | (go_at_call 117; with_reducible refine (HPf.out _).mono ?_; rintro e w4 ⟨rfl, hw4⟩; subst w4))
      go_ret2
      exact .inl ⟨rfl, HB.out, HNo.out⟩
    · have hk2 : k < s.size := by
        rcases Nat.lt_or_ge k s.size with h | h
        · exact h
        · exact absurd (List.eq_nil_of_length_eq_zero (by omega)) hn
      obtain ⟨K, hK⟩ : ∃ K, K = s.size := ⟨_, rfl⟩
      have hKk : k < K := by omega
      have hsum : (k : Int) + ((s.size : Int) - (k : Int)) = (K : Int) := by omega
      have hnz : ¬ (s.size : Int) - (k : Int) = 0 := by omega
      have hword : Wh.wordQ (s.data.toList.drop k) = some ((s.data.toList.drop k).take (K - k)) := by rw [hword, List.take_of_length_le (by omega)]
      clear hRl hn hk2
      have hKs : K ≤ s.size := by omega
      have hend : K = s.size := hK
      clear hK
      have HEnd := Lib.hid hend
      clear hend
      have hK1 : (k : Int) ≤ (K : Int) := by omega
      have hK2 : (K : Int) ≤ (s.size : Int) := by omega
      have HY : Hid ((s.extract k K).data.toList = (s.data.toList.drop k).take (K - k)) := Lib.hid (by simp only [ByteArray.data_extract, Array.toList_extract, List.extract_eq_take_drop])
      have HYl : Hid ((s.extract k K).data.toList.length = K - k) := Lib.hid (by rw [HY.out, List.length_take, List.length_drop, ← HsL.out]; omega)
      obtain ⟨y, hy⟩ : ∃ y, s.extract k K = y := ⟨_, rfl⟩
      rw [hy] at HY HYl
      rw [← HY.out] at hword
      have HWd := Lib.hid hword
      clear hword
      go_upto_region 14 with (first | (go_at_call 113; first | (with_reducible refine (HI0.out _).mono ?_; rintro e w4 ⟨rfl, hw4⟩; subst w4) | (with_reducible refine (HI1.out _).mono ?_; rintro e w4 ⟨rfl, hw4⟩; subst w4)) | (go_at_call 117; with_reducible refine (HPf.out _).mono ?_; rintro e w4 ⟨rfl, hw4⟩; subst w4) | (at_builtin; refine wp_appS HO.out y (by omega) rfl (.tmp 32) (.tmp 39) rfl rfl rfl ?_))
      intro ga cap2 w6 hO6
      have HO6 := Lib.hid hO6
      clear hO6 HO
      rw [show out.length + 1 = (out ++ [y]).length by simp]
      have HR : Hid (s.data.toList.drop k = y.data.toList ++ s.data.toList.drop K) := Lib.hid (by
        rw [HY.out]
        have := List.take_append_drop (K - k) (s.data.toList.drop k)
        rw [List.drop_drop, show k + (K - k) = K by omega] at this
        exact this.symm)
      have hmap : (out ++ [y]).map (·.data.toList) = out.map (·.data.toList) ++ [y.data.toList] := by simp
      have hend := HEnd.out
      have he : (K : Int) = (s.size : Int) := by omega
      have HFin := Lib.hid (HC.out.last HWd.out (by rw [HR.out, hend, HsL.out, List.drop_length, List.append_nil]))
      rw [← hmap] at HFin
      have hne : out ++ [y] ≠ [] := by simp
      clear hmap
      generalize out ++ [y] = outZ at *
      go_wp2_with fail
      go_ret2
      exact .inr ⟨outZ, _, cap2, rfl, HO6.out, hne, HFin.out⟩
    · clear hRl
      have HNo := Lib.hid (HC.out.none hword)
      have HB := Lib.hid HO.out.below
      clear hword
      go_wp2_with (first | (go_at_call 113; first | (with_reducible refine (HI0.out _).mono ?_; rintro e w4 ⟨rfl, hw4⟩; subst w4) | (with_reducible refine (HI1.out _).mono ?_; rintro e w4 ⟨rfl, hw4⟩; subst w4)) | (go_at_call 117; with_reducible refine (HPf.out _).mono ?_; rintro e w4 ⟨rfl, hw4⟩; subst w4))
      go_ret2
      exact .inl ⟨rfl, HB.out, HNo.out⟩
    · obtain ⟨K, hK⟩ : ∃ K, K = k + m := ⟨_, rfl⟩
      have hKk : k < K := by omega
      have hsum : (k : Int) + (m : Int) = (K : Int) := by omega
      have hnz : ¬ (m : Int) = 0 := by omega
      rw [show m = K - k by omega] at hword
      clear hRl
      have hKs : K ≤ s.size := by omega
      clear hK
      have hK1 : (k : Int) ≤ (K : Int) := by omega
      have hK2 : (K : Int) ≤ (s.size : Int) := by omega
      have HY : Hid ((s.extract k K).data.toList = (s.data.toList.drop k).take (K - k)) := Lib.hid (by simp only [ByteArray.data_extract, Array.toList_extract, List.extract_eq_take_drop])
      have HYl : Hid ((s.extract k K).data.toList.length = K - k) := Lib.hid (by rw [HY.out, List.length_take, List.length_drop, ← HsL.out]; omega)
      obtain ⟨y, hy⟩ : ∃ y, s.extract k K = y := ⟨_, rfl⟩
      rw [hy] at HY HYl
      rw [← HY.out] at hword
      have HWd := Lib.hid hword
      clear hword
      go_upto_region 14 with (first | (go_at_call 113; first | (with_reducible refine (HI0.out _).mono ?_; rintro e w4 ⟨rfl, hw4⟩; subst w4) | (with_reducible refine (HI1.out _).mono ?_; rintro e w4 ⟨rfl, hw4⟩; subst w4)) | (go_at_call 117; with_reducible refine (HPf.out _).mono ?_; rintro e w4 ⟨rfl, hw4⟩; subst w4) | (at_builtin; refine wp_appS HO.out y (by omega) rfl (.tmp 32) (.tmp 39) rfl rfl rfl ?_))
      intro ga cap2 w6 hO6
      have HO6 := Lib.hid hO6
      clear hO6 HO
      rw [show out.length + 1 = (out ++ [y]).length by simp]
      have HR : Hid (s.data.toList.drop k = y.data.toList ++ s.data.toList.drop K) := Lib.hid (by
        rw [HY.out]
        have := List.take_append_drop (K - k) (s.data.toList.drop k)
        rw [List.drop_drop, show k + (K - k) = K by omega] at this
        exact this.symm)
      have hmap : (out ++ [y]).map (·.data.toList) = out.map (·.data.toList) ++ [y.data.toList] := by simp
      by_cases hend : K = s.size
      · have he : (K : Int) = (s.size : Int) := by omega
        have HFin := Lib.hid (HC.out.last HWd.out (by rw [HR.out, hend, HsL.out, List.drop_length, List.append_nil]))
        rw [← hmap] at HFin
        have hne : out ++ [y] ≠ [] := by simp
        clear hmap
        generalize out ++ [y] = outZ at *
        go_wp2_with fail
        go_ret2
        exact .inr ⟨outZ, _, cap2, rfl, HO6.out, hne, HFin.out⟩
      · have he : ¬ (K : Int) = (s.size : Int) := by omega
        have hKl : K < s.size := by omega
        have hKi : (K : Int) < (s.size : Int) := by omega
        obtain ⟨ch, hch⟩ : ∃ ch : UInt8, s[K]'hKl = ch := ⟨_, rfl⟩
        have Hcl : Hid (s.data.toList.drop K = ch :: s.data.toList.drop (K + 1)) := Lib.hid (Wh.drop_cons' (by rw [← hch]; exact Lib.data_getElem? s K hKl))
        have xc := byte32 ch
        by_cases h32 : ch = 32
        · subst h32
          have HN := Lib.hid (HC.out.next HWd.out (by rw [HR.out, Hcl.out]))
          rw [HYl.out, show k + (K - k) + 1 = K + 1 by omega, ← hmap] at HN
          have hlz : (out ++ [y]).length ≤ K := by simp; omega
          clear hmap
          obtain ⟨g, rfl⟩ : ∃ g, gk = g + (K + 1 - k) := ⟨gk - (K + 1 - k), by omega⟩
          generalize out ++ [y] = outZ at *
          go_wp2_with fail
          go_roundg g
          case measure => omega
          case rel => exact ⟨K + 1, outZ, _, _, by omega, by omega, rfl, rfl, by omega, HO6, HN⟩
        · have HNo := Lib.hid (HC.out.odd HWd.out (by rw [HR.out, Hcl.out]) h32)
          have xc2 : ((ch.toNat : Int) == 32) = false := by rw [xc]; simpa using h32
          have xc3 : ((ch.toNat : Int) != 32) = true := by simp only [bne, xc2, Bool.not_false]
          have HB := Lib.hid HO6.out.below
          clear xc h32 hmap
          generalize out ++ [y] = outZ at *
          go_wp2_with fail
          go_ret2
          exact .inl ⟨rfl, HB.out, HNo.out⟩
end Go.Proofs.YtfenmeacimfiaaaGreatDoor
namespace Wh
open Go

theorem stepWordsL_ne (s : StepL) : stepWordsL s ≠ [] := by unfold stepWordsL; simp
theorem stepLine_words {line : List UInt8} {L : List (List UInt8)} {t : StepL} (hw : ∀ x ∈ L, isW x) (hl : line = lineW L) (h : StepLineL line t) : L = stepWordsL t := lineW_inj hw (stepWordsL_isW h.1) (hl.symm.trans h.2.2.2)
theorem refLine_words {line : List UInt8} {L : List (List UInt8)} {u : Int} {q : List UInt8} (hw : ∀ x ∈ L, isW x) (hl : line = lineW L) (h : RefLineL line u q) : L = refWordsL u q := lineW_inj hw (refWordsL_isW u q) (hl.symm.trans h.2)
theorem noWords_step {line : List UInt8} (hno : ¬ ∃ ws, ws ≠ [] ∧ (∀ x ∈ ws, isW x) ∧ line = lineW ws) (t : StepL) : ¬ StepLineL line t := fun h => hno ⟨_, stepWordsL_ne t, stepWordsL_isW h.1, h.2.2.2⟩
theorem noWords_ref {line : List UInt8} (hno : ¬ ∃ ws, ws ≠ [] ∧ (∀ x ∈ ws, isW x) ∧ line = lineW ws) (u : Int) (q : List UInt8) : ¬ RefLineL line u q := fun h => hno ⟨_, by simp [refWordsL], refWordsL_isW u q, h.2⟩
/-- A line whose first word is 'refused'. -/
theorem refused_step {line : List UInt8} {r : List (List UInt8)} (hw : ∀ x ∈ refusedW :: r, isW x) (hl : line = lineW (refusedW :: r)) (t : StepL) : ¬ StepLineL line t := fun h => by
  have h1 := stepLine_words hw hl h
  unfold stepWordsL at h1
  injection h1 with h1 _
  exact stepW_ref t.kind h.1.2.1 h1.symm
/-- A line whose first word is not 'refused'. -/
theorem other_ref {line x : List UInt8} {r : List (List UInt8)} (hx : x ≠ refusedW) (hw : ∀ y ∈ x :: r, isW y) (hl : line = lineW (x :: r)) (u : Int) (q : List UInt8) : ¬ RefLineL line u q := fun h => by
  have h1 := refLine_words hw hl h
  injection h1 with h1 _
  exact hx h1
/-- A line whose first word is that of kind k. -/
theorem kind_of {line x : List UInt8} {r : List (List UInt8)} {t : StepL} (hw : ∀ y ∈ x :: r, isW y) (hl : line = lineW (x :: r)) (h : StepLineL line t) : x = stepW.getD t.kind [] := by
  have h1 := stepLine_words hw hl h
  unfold stepWordsL at h1
  injection h1
theorem words_two {s : StepL} (h1 : (s.kind == 2 || s.kind == 3) = false) (h2 : (s.kind == 4 || s.kind == 5) = true) : stepWordsL s = [stepW.getD s.kind [], Lib.itoa s.size, Lib.itoa s.time, quotedL s.path] := by
  simp [stepWordsL, StepL.has, h1, h2]
theorem words_one {s : StepL} (h1 : (s.kind == 2 || s.kind == 3) = false) (h2 : (s.kind == 4 || s.kind == 5) = false) (h3 : (s.kind == 6) = true) : stepWordsL s = [stepW.getD s.kind [], Lib.itoa s.time, quotedL s.path] := by
  simp [stepWordsL, StepL.has, h1, h2, h3]
theorem words_none {s : StepL} (h1 : (s.kind == 2 || s.kind == 3) = false) (h2 : (s.kind == 4 || s.kind == 5) = false) (h3 : (s.kind == 6) = false) : stepWordsL s = [stepW.getD s.kind [], quotedL s.path] := by
  simp [stepWordsL, StepL.has, h1, h2, h3]
theorem words_to {s : StepL} (h1 : (s.kind == 2 || s.kind == 3) = true) (h2 : (s.kind == 4 || s.kind == 5) = false) (h3 : (s.kind == 6) = false) : stepWordsL s = [stepW.getD s.kind [], quotedL s.path, quotedL s.to] := by
  simp [stepWordsL, StepL.has, h1, h2, h3]
end Wh
namespace Go.Proofs.YtfenmeacimfiaaaGreatDoor
open Go.RowKit

theorem ownS_at {w0 wx : World} {a : Option Addr} {cap : Nat} {ws : List ByteArray} (h : OwnS w0 wx a cap ws) (hne : ws ≠ []) : ∃ g, a = some ⟨g, 0, none⟩ ∧ w0.heap.size ≤ g ∧ g < wx.heap.size ∧ ∀ i y, ws[i]? = some y → wx.cell? ⟨g, i, none⟩ = some (.string y) := by
  have hh := own_holds h.1
  rcases h.1.2 with ⟨hv, h0⟩ | ⟨g, c, cur, hv, hz, hg, _⟩
  · exact absurd (List.eq_nil_of_length_eq_zero (by simpa using h0)) hne
  · injection hv with e1 e2 e3
    subst e1
    refine ⟨g, rfl, hz, (Array.getElem?_eq_some_iff.1 hg).1, fun i y hy => ?_⟩
    rcases hh with hh | ⟨g', o, hg', _, hc⟩
    · rw [List.map_eq_nil_iff] at hh
      exact absurd hh hne
    · injection hg' with hg'
      injection hg' with q1 q2
      have := hc i (.string y) (by simp [hy])
      rw [← q1, ← q2, Nat.zero_add] at this
      exact this

set_option maxRecDepth 100000 in
theorem wp_appRfL {ops : Array Oper} {rest : List Oper} {o : Oper} {act : Act} {Q : Exit → Act → World → Prop} {te : TypeId} {z : Nat} {wx : World} {a : Option Addr} {cap : Nat} {xs : List PRef}
    (hz : z ≤ wx.heap.size) (hO : OwnR refTy 2 refCells z wx a cap xs) (hby : xs.length ≤ 2000000) (u : PRef) (hgd : o.guard = none) (s x : Operand)
    (ho : o.op = .call { callee := .builtin .append, args := #[s, x], argTypes := #[24, 24] }) (hs : act.eval s = .slice a xs.length cap) (hx : act.eval x = .slice (some ⟨wx.heap.size, 0, none⟩) 1 1)
    (h : ∀ g cap' w', OwnR refTy 2 refCells z w' (some ⟨g, 0, none⟩) cap' (xs ++ [u]) → (wx.alloc (.cells #[.string u.path, .int .i64 u.err] te)).grownBy w' (Value.slice a xs.length cap).ownBlock → wpList Tryz.prog ops Q rest (act.put o.dst (.slice (some ⟨g, 0, none⟩) (xs.length + 1) cap')) w') :
    wpList Tryz.prog ops Q (o :: rest) act (wx.alloc (.cells #[.string u.path, .int .i64 u.err] te)) := by
  obtain ⟨i, ht, hi, hz0, hz1, hz2⟩ := elemRf
  have hba : z ≤ (wx.alloc (.cells #[.string u.path, .int .i64 u.err] te)).heap.size := by simp; omega
  refine wpList_append_lies _ hgd s x 24 ho z refTy i _ 2 24 ht hi hz0 hz1 hz2 rfl (by decide) _ xs.length (xs.map refCells).flatten hs (World.ownsRow.alloc hO _) ⟨wx.heap.size, 0, none⟩ 1 1 (refCells u) hx rfl (World.news_of_block (heap_alloc_new wx (.cells #[.string u.path, .int .i64 u.err] te))) (by simp [refCells, Value.oneCell']) (by decide) (by unfold maxLen; omega) (by omega) hba _ rfl ?_
  intro g cap' w' hown hgrow hat hlt
  refine h g cap' w' ?_ hgrow
  unfold OwnR
  rw [List.map_append, List.flatten_append, List.length_append]
  simpa using hown

/-- The words of steps, in a row. -/
def stepZs : List ByteArray := [stepB 0, stepB 1, stepB 2, stepB 3, stepB 4, stepB 5, stepB 6, stepB 7, stepB 8, stepB 9, stepB 10]
theorem stepZs_getD (k : Nat) (hk : k ≤ 10) : stepZs.getD k ByteArray.empty = stepB k := by
  match k, hk with
  | 0, _ | 1, _ | 2, _ | 3, _ | 4, _ | 5, _ | 6, _ | 7, _ | 8, _ | 9, _ | 10, _ => rfl
  | n + 11, h => omega
theorem stepNames_any (w : World) : Calls Tryz.prog 81 #[] w fun e w' => e = .returned (.slice (some ⟨w.heap.size, 0, none⟩) 11 11) ∧ w' = w.alloc (.cells (stepZs.map Value.string).toArray 9) := by
  go_enter Tryz.func81, Tryz.ntmps81
  go_wp2_with fail
  go_ret
  exact ⟨rfl, rfl⟩
theorem idx_step (x : ByteArray) : (∃ k, k ≤ 10 ∧ x.data.toList = Wh.stepW.getD k [] ∧ Lib.idxOfS (stepZs.take 11) x = (k : Int)) ∨ ((∀ k, k ≤ 10 → x.data.toList ≠ Wh.stepW.getD k []) ∧ Lib.idxOfS (stepZs.take 11) x = -1) := by
  by_cases h : ∃ k, k ≤ 10 ∧ x.data.toList = Wh.stepW.getD k []
  · obtain ⟨k, h1, h2⟩ := h
    refine .inl ⟨k, h1, h2, Lib.idxOfS_hit _ _ _ _ (by omega) (by decide) ?_ fun j hj e => ?_⟩
    · rw [stepZs_getD k h1]
      exact ByteArray.ext (Array.toList_inj.1 (by rw [stepB_list, h2]))
    · rw [stepZs_getD j (by omega)] at e
      rw [← e, stepB_list] at h2
      exact absurd (Wh.stepW_inj j (by omega) k (by omega) h2) (by omega)
  · refine .inr ⟨fun k hk e => h ⟨k, hk, e⟩, Lib.idxOfS_miss _ _ _ fun j hj e => ?_⟩
    rw [stepZs_getD j (by omega)] at e
    exact h ⟨j, by omega, by rw [← e, stepB_list]⟩
theorem sliceIndex_any (W : World) (b : Nat) (x : ByteArray) (h : BoxIs W b (stepZs.map Value.string).toArray 9) : Calls Tryz.prog 80 #[.slice (some ⟨b, 0, none⟩) 11 11, .string x] W fun e w' => e = .returned (.int .i64 (Lib.idxOfS (stepZs.take 11) x)) ∧ w' = W :=
  Tryz.slices_Index_string b 0 11 11 stepZs x W (by decide) (by decide) fun j hj => by
    have hj2 : j ≤ 10 := by have : stepZs.length = 11 := rfl; omega
    rw [Nat.zero_add]
    refine h.cell ?_
    rw [stepZs_getD j hj2]
    match j, hj2 with
    | 0, _ | 1, _ | 2, _ | 3, _ | 4, _ | 5, _ | 6, _ | 7, _ | 8, _ | 9, _ | 10, _ => rfl
    | n + 11, h => omega

theorem LineStep.bad {S : List PStep} {R : List PRef} {line : List UInt8} {S' : List PStep} {R' : List PRef} (h1 : ∀ t, Wh.StepLineL line t → R ≠ []) (h2 : ∀ u q, ¬ Wh.RefLineL line u q) : LineStep S R line false S' R' := ⟨fun h => (by cases h), fun _ => ⟨h1, h2⟩⟩

set_option maxHeartbeats 2000000 in
set_option maxRecDepth 100000 in
/-- No words. -/
theorem planLine_none (w0 : World) (p : Nat) (S : List PStep) (R : List PRef) (sm by' : Int) (line : ByteArray) (w : World) (hX : EnvX w0) (hT : EnvT w0) (hB : Below w0.heap.size w0 w) (hP : PlanAt w0.heap.size w p S R sm by') (hl : line.size ≤ 2000000) (hn : S.length + R.length ≤ 1500000) (hno : ¬ ∃ ws, ws ≠ [] ∧ (∀ x ∈ ws, Wh.isW x) ∧ line.data.toList = Wh.lineW ws) : Calls Tryz.prog 27 #[.pointer (some ⟨p, 0, none⟩), .string line, .bool false] w (LinePost w0.heap.size p S R sm by' line.data.toList w) := by
  have HPW := Lib.hid (pWords_any line w hl)
  have HNo := Lib.hid hno
  have HP0 := Lib.hid hP
  have hzz := hB.size
  clear hno hP hB hX hT hn
  go_enter Tryz.func27, Tryz.ntmps27
  go_upto_region 2 with (go_at_call 77; refine HPW.out.mono ?_; rintro e w2 hpw; rcases hpw with ⟨rfl, hb1, hno⟩ | ⟨ws, a, cap, rfl, hO, hne1, hws, hlw1⟩)
  · have HB2 := Lib.hid hb1
    clear hb1 hno
    go_wp2_with fail
    go_ret
    exact ⟨false, S, R, rfl, HP0.out.under HB2.out, PKept.of HB2.out hzz, by omega, LineStep.bad (fun t ht => absurd ht (Wh.noWords_step HNo.out _)) (Wh.noWords_ref HNo.out)⟩
  · exact absurd ⟨ws.map (·.data.toList), by simpa using hne1, hws, hlw1⟩ HNo.out

set_option maxHeartbeats 2000000 in
set_option maxRecDepth 100000 in
/-- The first word is 'refused', and not two more come. -/
theorem planLine_short (w0 : World) (p : Nat) (S : List PStep) (R : List PRef) (sm by' : Int) (line : ByteArray) (w : World) (hX : EnvX w0) (hT : EnvT w0) (hB : Below w0.heap.size w0 w) (hP : PlanAt w0.heap.size w p S R sm by') (hl : line.size ≤ 2000000) (hn : S.length + R.length ≤ 1500000) (L : List (List UInt8)) (hw : ∀ x ∈ L, Wh.isW x) (hne : L ≠ []) (hlw : line.data.toList = Wh.lineW L) (r : List (List UInt8)) (hr : L = Wh.refusedW :: r) (h3 : r.length ≠ 2) : Calls Tryz.prog 27 #[.pointer (some ⟨p, 0, none⟩), .string line, .bool false] w (LinePost w0.heap.size p S R sm by' line.data.toList w) := by
  have HPW := Lib.hid (pWords_any line w hl)
  have HL := Lib.hid (And.intro hw (And.intro hne hlw))
  have HR := Lib.hid hr
  have HP0 := Lib.hid hP
  have hzz := hB.size
  clear hw hne hlw hr hP hB hX hT hn
  go_enter Tryz.func27, Tryz.ntmps27
  go_upto_region 2 with (go_at_call 77; refine HPW.out.mono ?_; rintro e w2 hpw; rcases hpw with ⟨rfl, hb1, hno⟩ | ⟨ws, a, cap, rfl, hO, hne1, hws, hlw1⟩)
  · exact absurd ⟨L, HL.out.2.1, HL.out.1, HL.out.2.2⟩ hno
  obtain ⟨g0, rfl, hg0, hg1, hcells⟩ := ownS_at hO hne1
  have HM : Hid (ws.map (·.data.toList) = L) := Lib.hid (Wh.lineW_inj hws HL.out.1 (hlw1.symm.trans HL.out.2.2))
  have HB2 := Lib.hid hO.below
  have HCl := Lib.hid hcells
  clear hO hws hlw1 hcells hne1
  obtain ⟨y0, ys, rfl⟩ : ∃ y0 ys, ws = y0 :: ys := by
    cases ws with
    | nil => exact absurd HM.out.symm HL.out.2.1
    | cons y0 ys => exact ⟨y0, ys, rfl⟩
  have x0 := HCl.out 0 y0 rfl
  have hlen : (y0 :: ys).length ≠ 3 ∧ 0 < (y0 :: ys).length := by
    have := congrArg List.length (HM.out.trans HR.out)
    simp at this
    simp
    omega
  obtain ⟨hl3, hl0⟩ := hlen
  have hq : (y0.toList == [114, 101, 102, 117, 115, 101, 100]) = true := by
    have h0 : y0.data.toList = Wh.refusedW := by
      have := HM.out.trans HR.out
      injection this
    rw [Lib.toList_data, h0]
    decide
  have HFin : Hid (LineStep S R line.data.toList false S R) := Lib.hid (LineStep.bad (fun t ht => absurd ht (Wh.refused_step (HR.out ▸ HL.out.1) (HR.out ▸ HL.out.2.2) _)) (fun u q hu => by
    have := Wh.refLine_words HL.out.1 HL.out.2.2 hu
    rw [HR.out] at this
    have := congrArg List.length this
    simp [Wh.refWordsL] at this
    exact h3 this))
  generalize (y0 :: ys).length = nl at *
  have hl3' : ¬ (nl : Int) = 3 := by omega
  have hl0' : (0 : Int) < (nl : Int) := by omega
  go_wp2_with fail
  go_ret
  exact ⟨false, S, R, rfl, HP0.out.under HB2.out, PKept.of HB2.out hzz, by omega, HFin.out⟩

set_option maxHeartbeats 4000000 in
set_option maxRecDepth 100000 in
/-- A refusal. -/
theorem planLine_ref (w0 : World) (p : Nat) (S : List PStep) (R : List PRef) (sm by' : Int) (line : ByteArray) (w : World) (hX : EnvX w0) (hT : EnvT w0) (hB : Below w0.heap.size w0 w) (hP : PlanAt w0.heap.size w p S R sm by') (hl : line.size ≤ 2000000) (hn : S.length + R.length ≤ 1500000) (L : List (List UInt8)) (hw : ∀ x ∈ L, Wh.isW x) (hne : L ≠ []) (hlw : line.data.toList = Wh.lineW L) (u v : List UInt8) (hr : L = [Wh.refusedW, u, v]) : Calls Tryz.prog 27 #[.pointer (some ⟨p, 0, none⟩), .string line, .bool false] w (LinePost w0.heap.size p S R sm by' line.data.toList w) := by
  have HPW := Lib.hid (pWords_any line w hl)
  have HL := Lib.hid (And.intro hw (And.intro hne hlw))
  have HR := Lib.hid hr
  have HP0 := Lib.hid hP
  have hzz := hB.size
  have hzp := hP.1
  have hpl : p < w.heap.size := by
    obtain ⟨_, sa, sc, ra, rc, h1, _⟩ := hP
    exact h1.lt
  have HXX := Lib.hid (hX.under hB)
  have HTT := Lib.hid (hT.under hB)
  clear hw hne hlw hr hP hB hX hT
  go_enter Tryz.func27, Tryz.ntmps27
  go_upto_region 2 with (go_at_call 77; refine HPW.out.mono ?_; rintro e w2 hpw; rcases hpw with ⟨rfl, hb1, hno⟩ | ⟨ws, a, cap, rfl, hO, hne1, hws, hlw1⟩)
  · exact absurd ⟨L, HL.out.2.1, HL.out.1, HL.out.2.2⟩ hno
  obtain ⟨g0, rfl, hg0, hg1, hcells⟩ := ownS_at hO hne1
  have HM : Hid (ws.map (·.data.toList) = L) := Lib.hid (Wh.lineW_inj hws HL.out.1 (hlw1.symm.trans HL.out.2.2))
  have HB2 := Lib.hid hO.below
  have HCl := Lib.hid hcells
  clear hO hws hlw1 hcells hne1
  have hml : ws.length = 3 := by
    have := congrArg List.length (HM.out.trans HR.out)
    simpa using this
  obtain ⟨y0, y1, y2, rfl⟩ : ∃ y0 y1 y2, ws = [y0, y1, y2] := by
    match ws, hml with
    | [y0, y1, y2], _ => exact ⟨y0, y1, y2, rfl⟩
  have x0 := HCl.out 0 y0 rfl
  have x1 := HCl.out 1 y1 rfl
  have HM3 : Hid (y0.data.toList = Wh.refusedW ∧ y1.data.toList = u ∧ y2.data.toList = v) := Lib.hid (by
    have := HM.out.trans HR.out
    simpa using this)
  have hq : (y0.toList == [114, 101, 102, 117, 115, 101, 100]) = true := by
    rw [Lib.toList_data, HM3.out.1]
    decide
  have HLL : Hid (line.data.toList = Wh.lineW [Wh.refusedW, y1.data.toList, y2.data.toList] ∧ (∀ x ∈ [Wh.refusedW, y1.data.toList, y2.data.toList], Wh.isW x) ∧ y1.size ≤ line.size ∧ y2.size ≤ line.size) := Lib.hid (by
    rw [HM3.out.2.1, HM3.out.2.2, ← HR.out]
    refine ⟨HL.out.2.2, HL.out.1, ?_⟩
    have := HL.out.2.2
    rw [HR.out, ← HM3.out.2.1, ← HM3.out.2.2] at this
    have h2 := congrArg List.length this
    rw [Lib.size_eq, Lib.size_eq, Lib.size_eq, h2]
    simp [Wh.lineW, Wh.behindW]
    omega)
  have hs1 := HLL.out.2.2.1
  have hs2 := HLL.out.2.2.2
  have HWh := Lib.hid (whole_any y1 w2 (HXX.out.under HB2.out) (HTT.out.under HB2.out) (by omega))
  go_upto_region 15 with (go_at_call 78; refine HWh.out.mono ?_; rintro e w3 ⟨v1, ok1, rfl, hb3, hn1, hn2⟩; have HB3 := Lib.hid hb3; have HN := Lib.hid (And.intro hn1 hn2); clear hb3 hn1 hn2)
  have x2 : w3.cell? ⟨g0, 2, none⟩ = some (.string y2) := by
    have := HCl.out 2 y2 rfl
    exact (HB3.out.cell (cell_lt this)).trans this
  have HUn := Lib.hid (unquote_any y2 w3 (HXX.out.under (bTrans HB2.out HB3.out)) (by omega))
  clear x0 x1
  go_upto_region 16 with (go_at_call 79; refine HUn.out.mono ?_; rintro e w4 ⟨out, ok2, rfl, hb4, hos, hn1, hn2⟩; have HB4 : Hid (Below w.heap.size w w4) := Lib.hid (bTrans (bTrans HB2.out HB3.out) hb4); have HU := Lib.hid (And.intro hn1 hn2); clear hb4 hn1 hn2)
  obtain ⟨_, sa, sc, ra, rc, hx⟩ := HP0.out.under HB4.out
  have HX4 : Hid (PlanX w0.heap.size w4 p S R sm by' sa sc ra rc) := Lib.hid hx
  clear hx x2
  have hz4 : w0.heap.size ≤ w4.heap.size := by
    have := HB4.out.size
    omega
  have HFin : Hid (∀ ok, ok = (ok1 && ok2) → LineStep S R line.data.toList ok S (R ++ [⟨out, v1⟩])) := Lib.hid (by
    rintro ok rfl
    refine ⟨fun h => .inr ⟨⟨out, v1⟩, ?_, rfl, rfl⟩, fun h => ⟨fun t ht => absurd ht (Wh.refused_step HLL.out.2.1 HLL.out.1 t), fun q1 q2 hq => ?_⟩⟩
    · rw [Bool.and_eq_true] at h
      obtain ⟨k1, k2, k3⟩ := HN.out.1 h.1
      have k4 := HU.out.1 h.2
      refine ⟨⟨k2, k3⟩, ?_⟩
      rw [HLL.out.1, k1, k4]
      rfl
    · have k := Wh.refLine_words HLL.out.2.1 HLL.out.1 hq
      unfold Wh.refWordsL at k
      injection k with _ k
      injection k with k1 k
      injection k with k2 _
      have e1 := HN.out.2 q1 ⟨k1, hq.1⟩
      have e2 := HU.out.2 q2 k2
      rw [e1, e2] at h
      cases h)
  have c1 := HX4.out.1.cell (j := 1) rfl
  go_upto_region 17 with (at_builtin; refine wp_appRfL hz4 HX4.out.2.2 (by omega) ⟨out, v1⟩ rfl (.tmp 87) (.tmp 91) rfl rfl rfl ?_)
  intro g cap' w' hown' hg
  obtain ⟨q1, q2, q3⟩ := planAt_ref hzp hz4 HX4.out.1 HX4.out.2.1 HX4.out.2.2 hown' hg
  have d1 := q1.cell (j := 1) rfl
  have df := Lib.frozen_of_heap q1 1
  have HQF := Lib.hid (And.intro q2 q3)
  clear q1 q2 q3 hown' hg c1
  go_upto_region 17 with fail
  generalize w'.setCell _ _ = wf at *
  clear d1 df
  cases ok1 <;> cases ok2
  all_goals
    go_wp2_with fail
    go_ret
    refine ⟨_, S, R ++ [⟨out, v1⟩], rfl, HQF.out.1, (PKept.of HB4.out hzz).trans HQF.out.2, by simp; omega, ?_⟩
    exact HFin.out _ rfl

set_option maxHeartbeats 2000000 in
set_option maxRecDepth 100000 in
/-- The first word is not 'refused', and a refusal came before. -/
theorem planLine_late (w0 : World) (p : Nat) (S : List PStep) (R : List PRef) (sm by' : Int) (line : ByteArray) (w : World) (hX : EnvX w0) (hT : EnvT w0) (hB : Below w0.heap.size w0 w) (hP : PlanAt w0.heap.size w p S R sm by') (hl : line.size ≤ 2000000) (hn : S.length + R.length ≤ 1500000) (L : List (List UInt8)) (hw : ∀ x ∈ L, Wh.isW x) (hne : L ≠ []) (hlw : line.data.toList = Wh.lineW L) (x : List UInt8) (r : List (List UInt8)) (hr : L = x :: r) (hx : x ≠ Wh.refusedW) (hR : R ≠ []) : Calls Tryz.prog 27 #[.pointer (some ⟨p, 0, none⟩), .string line, .bool false] w (LinePost w0.heap.size p S R sm by' line.data.toList w) := by
  have HPW := Lib.hid (pWords_any line w hl)
  have HL := Lib.hid (And.intro hw (And.intro hne hlw))
  have HR := Lib.hid hr
  have HXr := Lib.hid hx
  have HRn := Lib.hid hR
  have HP0 := Lib.hid hP
  have hzz := hB.size
  have hR0 : (0 : Int) < (R.length : Int) := by
    have := List.length_pos_iff.2 hR
    omega
  clear hw hne hlw hr hP hB hX hT hn hx hR
  go_enter Tryz.func27, Tryz.ntmps27
  go_upto_region 2 with (go_at_call 77; refine HPW.out.mono ?_; rintro e w2 hpw; rcases hpw with ⟨rfl, hb1, hno⟩ | ⟨ws, a, cap, rfl, hO, hne1, hws, hlw1⟩)
  · exact absurd ⟨L, HL.out.2.1, HL.out.1, HL.out.2.2⟩ hno
  obtain ⟨g0, rfl, hg0, hg1, hcells⟩ := ownS_at hO hne1
  have HM : Hid (ws.map (·.data.toList) = L) := Lib.hid (Wh.lineW_inj hws HL.out.1 (hlw1.symm.trans HL.out.2.2))
  have HB2 := Lib.hid hO.below
  have HCl := Lib.hid hcells
  clear hO hws hlw1 hcells hne1
  obtain ⟨y0, ys, rfl⟩ : ∃ y0 ys, ws = y0 :: ys := by
    cases ws with
    | nil => exact absurd HM.out.symm HL.out.2.1
    | cons y0 ys => exact ⟨y0, ys, rfl⟩
  have x0 := HCl.out 0 y0 rfl
  have hl0 : 0 < (y0 :: ys).length := by simp
  have hq : (y0.toList == [114, 101, 102, 117, 115, 101, 100]) = false := by
    have h0 : y0.data.toList = x := by
      have := HM.out.trans HR.out
      injection this
    rw [Lib.toList_data, h0]
    exact beq_eq_false_iff_ne.2 HXr.out
  have HFin : Hid (LineStep S R line.data.toList false S R) := Lib.hid (LineStep.bad (fun t ht => HRn.out) (Wh.other_ref HXr.out (HR.out ▸ HL.out.1) (HR.out ▸ HL.out.2.2)))
  obtain ⟨_, sa, sc, ra, rc, hx⟩ := HP0.out.under HB2.out
  have c1 := hx.1.cell (j := 1) rfl
  clear hx
  generalize (y0 :: ys).length = nl at *
  have hl0' : (0 : Int) < (nl : Int) := by omega
  go_wp2_with fail
  go_ret
  exact ⟨false, S, R, rfl, HP0.out.under HB2.out, PKept.of HB2.out hzz, by omega, HFin.out⟩

set_option maxHeartbeats 2000000 in
set_option maxRecDepth 100000 in
/-- The first word is of no kind. -/
theorem planLine_odd (w0 : World) (p : Nat) (S : List PStep) (R : List PRef) (sm by' : Int) (line : ByteArray) (w : World) (hX : EnvX w0) (hT : EnvT w0) (hB : Below w0.heap.size w0 w) (hP : PlanAt w0.heap.size w p S R sm by') (hl : line.size ≤ 2000000) (hn : S.length + R.length ≤ 1500000) (L : List (List UInt8)) (hw : ∀ x ∈ L, Wh.isW x) (hne : L ≠ []) (hlw : line.data.toList = Wh.lineW L) (x : List UInt8) (r : List (List UInt8)) (hr : L = x :: r) (hx : x ≠ Wh.refusedW) (hR : R = []) (hno : ∀ k, 1 ≤ k → k ≤ 10 → x ≠ Wh.stepW.getD k []) : Calls Tryz.prog 27 #[.pointer (some ⟨p, 0, none⟩), .string line, .bool false] w (LinePost w0.heap.size p S R sm by' line.data.toList w) := by
  have HPW := Lib.hid (pWords_any line w hl)
  have HL := Lib.hid (And.intro hw (And.intro hne hlw))
  have HR := Lib.hid hr
  have HXr := Lib.hid hx
  have HNo := Lib.hid hno
  have HP0 := Lib.hid hP
  have hzz := hB.size
  subst hR
  clear hw hne hlw hr hP hB hX hT hx hno
  go_enter Tryz.func27, Tryz.ntmps27
  go_upto_region 2 with (go_at_call 77; refine HPW.out.mono ?_; rintro e w2 hpw; rcases hpw with ⟨rfl, hb1, hno⟩ | ⟨ws, a, cap, rfl, hO, hne1, hws, hlw1⟩)
  · exact absurd ⟨L, HL.out.2.1, HL.out.1, HL.out.2.2⟩ hno
  obtain ⟨g0, rfl, hg0, hg1, hcells⟩ := ownS_at hO hne1
  have HM : Hid (ws.map (·.data.toList) = L) := Lib.hid (Wh.lineW_inj hws HL.out.1 (hlw1.symm.trans HL.out.2.2))
  have HB2 := Lib.hid hO.below
  have HCl := Lib.hid hcells
  clear hO hws hlw1 hcells hne1
  obtain ⟨y0, ys, rfl⟩ : ∃ y0 ys, ws = y0 :: ys := by
    cases ws with
    | nil => exact absurd HM.out.symm HL.out.2.1
    | cons y0 ys => exact ⟨y0, ys, rfl⟩
  have x0 := HCl.out 0 y0 rfl
  have hl0 : 0 < (y0 :: ys).length := by simp
  have HY : Hid (y0.data.toList = x) := Lib.hid (by
    have := HM.out.trans HR.out
    injection this)
  have hq : (y0.toList == [114, 101, 102, 117, 115, 101, 100]) = false := by
    rw [Lib.toList_data, HY.out]
    exact beq_eq_false_iff_ne.2 HXr.out
  have HFin : Hid (LineStep S [] line.data.toList false S []) := Lib.hid (LineStep.bad (fun t ht => absurd (Wh.kind_of (HR.out ▸ HL.out.1) (HR.out ▸ HL.out.2.2) ht) (HNo.out _ ht.1.1 ht.1.2.1)) (Wh.other_ref HXr.out (HR.out ▸ HL.out.1) (HR.out ▸ HL.out.2.2)))
  obtain ⟨_, sa, sc, ra, rc, hx⟩ := HP0.out.under HB2.out
  have c1 := hx.1.cell (j := 1) rfl
  clear hx
  generalize (y0 :: ys).length = nl at *
  have hl0' : (0 : Int) < (nl : Int) := by omega
  have HSn := Lib.hid (fun W => stepNames_any W)
  have HIx : Hid (Lib.idxOfS (stepZs.take 11) y0 = -1) := Lib.hid (by
    rcases idx_step y0 with ⟨k, k1, k2, _⟩ | ⟨_, h⟩
    · rw [HY.out] at k2
      have hk : k = 0 := by
        rcases Nat.eq_zero_or_pos k with h | h
        · exact h
        · exact absurd k2 (HNo.out k h k1)
      subst hk
      exact absurd k2 (Wh.isW_ne (HL.out.1 x (by rw [HR.out]; simp)))
    · exact h)
  have HF5 : Hid (∀ w5, w5 = w2.drew.alloc (.cells (stepZs.map Value.string).toArray 9) → Below w.heap.size w w5 ∧ BoxIs w5 w2.heap.size (stepZs.map Value.string).toArray 9 ∧ w5.cell? ⟨g0, 0, none⟩ = some (.string y0)) := Lib.hid (by
    rintro _ rfl
    exact ⟨bAlloc (drB0 HB2.out) _, BoxIs.new w2.drew _ _, ((bAlloc (drB0 (Below.refl w2.heap.size w2)) _).cell (cell_lt x0)).trans x0⟩)
  go_upto_region 20 with fail
  clear c1
  refine wp_region_seq (fun W => W.cell? ⟨g0, 0, none⟩ = some (.string y0)) [(1, true), (2, true), (3, true), (0, false), (4, false), (5, true)] (by as_aux_lemma => kernel_rfl) (by as_aux_lemma => kernel_rfl) (by decide) (by as_aux_lemma => kernel_rfl) x0 ?_
  intro OPS HO
  refine seq_take (o := ⟨_, _, _, _, _, _⟩) (v := ?_) (by rw [HO.out]; rfl) (by rfl) ?_ ?_
  rotate_left 1
  · first | ((intro W _; go_simp) <;> with_reducible rfl) | (intro W hW; have s1 := hW; (go_simp <;> with_reducible rfl))
  try simp only [Act.put, List.setIfInBounds_toArray, List.set_cons_zero, List.set_cons_succ]
  refine seq_take (o := ⟨_, _, _, _, _, _⟩) (v := ?_) (by rw [HO.out]; rfl) (by rfl) ?_ ?_
  rotate_left 1
  · first | ((intro W _; go_simp) <;> with_reducible rfl) | (intro W hW; have s1 := hW; (go_simp <;> with_reducible rfl))
  try simp only [Act.put, List.setIfInBounds_toArray, List.set_cons_zero, List.set_cons_succ]
  refine seq_take (o := ⟨_, _, _, _, _, _⟩) (v := ?_) (by rw [HO.out]; rfl) (by rfl) ?_ ?_
  rotate_left 1
  · first | ((intro W _; go_simp) <;> with_reducible rfl) | (intro W hW; have s1 := hW; (go_simp <;> with_reducible rfl))
  try simp only [Act.put, List.setIfInBounds_toArray, List.set_cons_zero, List.set_cons_succ]
  refine seq_do (o := ⟨_, _, _, _, _, _⟩) (by rw [HO.out]; rfl) (by rfl) (fun K hK => ?_)
  go_wp2_with (go_at_call 81; (with_reducible refine (HSn.out _).mono ?_); rintro e w5 ⟨rfl, hw5⟩; obtain ⟨hb5, hx5, hS⟩ := HF5.out _ hw5; have HBf := Lib.hid hb5; have HBx := Lib.hid hx5; clear hw5 hb5 hx5)
  have HSi := Lib.hid (sliceIndex_any w5 w2.heap.size y0 HBx.out)
  rw [HIx.out] at HSi
  refine hK.out _ _ hS (fun _ => ?_)
  clear hK K
  try simp only [Act.put, List.setIfInBounds_toArray, List.set_cons_zero, List.set_cons_succ]
  refine seq_do (o := ⟨_, _, _, _, _, _⟩) (by rw [HO.out]; rfl) (by rfl) (fun K hK => ?_)
  go_wp2_with (go_at_call 80; (with_reducible refine HSi.out.mono ?_); rintro e w6 ⟨rfl, hw6⟩; subst w6)
  refine hK.out _ _ hS (fun _ => ?_)
  clear hK K
  try simp only [Act.put, List.setIfInBounds_toArray, List.set_cons_zero, List.set_cons_succ]
  refine seq_take (o := ⟨_, _, _, _, _, _⟩) (v := ?_) (by rw [HO.out]; rfl) (by rfl) ?_ ?_
  rotate_left 1
  · first | ((intro W _; go_simp) <;> with_reducible rfl) | (intro W hW; have s1 := hW; (go_simp <;> with_reducible rfl))
  try simp only [Act.put, List.setIfInBounds_toArray, List.set_cons_zero, List.set_cons_succ]
  refine seq_done ?_
  go_wp2_with fail
  go_ret
  exact ⟨false, S, [], rfl, HP0.out.under HBf.out, PKept.of HBf.out hzz, by omega, HFin.out⟩

end Go.Proofs.YtfenmeacimfiaaaGreatDoor
