/-
  The law PartsAreWhole, walked.
-/
import Derived.Test.YtmafnjapailliaaGreatDoorVkS
import Derived.Test.YtmafnjapailliaaGreatDoorPaA
import Derived.Test.YtmafnjapailliaaGreatDoorPaB
namespace Go.Proofs.YtmafnjapailliaaGreatDoor
open Go.RowKit

theorem MemAt.lower {w : World} {B B' : Nat} {A : ByteArray} {M : MB} {s : MSt} (h : MemAt w B A M s) (hb : B' ≤ B) : MemAt w B' A M s := by
  obtain ⟨l1, l2, l3, l4, l5, l6, l7, l8, l9⟩ := h.lo
  exact ⟨h.box, h.clk, h.root, h.kids, h.ca, h.si, h.file, h.nums, h.vers, h.row.lower hb, ⟨by omega, by omega, by omega, by omega, by omega, by omega, by omega, by omega, by omega⟩, h.ne1, h.ne2⟩
theorem MemAt.own {w : World} {B : Nat} {A : ByteArray} {M : MB} {s : MSt} (h : MemAt w B A M s) (i : Nat) (hi : MF M i ∨ i = M.cb ∨ i = M.rb) : B ≤ i := by
  obtain ⟨l1, l2, l3, l4, l5, l6, l7, l8, l9⟩ := h.lo
  rcases hi with hi | rfl | rfl
  · exact h.mf hi
  · exact l2
  · exact l3
theorem sumRows_len (T : Tabs) (f : Int) (d : List UInt8) : (sumRows T f d 5).length ≤ 100 := by
  unfold sumRows
  have := List.length_filterMap_le (fun j => if sumBit f (j + 1) then some (sumRow T (j + 1) d) else none) (List.range 5)
  rw [List.length_range] at this
  omega
/-- What Put returns. -/
def PutD (w0 : World) (T : Tabs) (A : ByteArray) (M : MB) (s : MSt) (d : ByteArray) (t : Int) (w : World) (e : Ending) (w' : World) : Prop :=
  ∃ M' sa n sc, e = .returned (.tuple #[.agg (infoArr A false d.size (tOf s t) (.slice sa n sc) (idOf s d t)), .int .i64 0]) ∧ (sumRows T s.f.sums d.data.toList 5).length = n ∧ RowG 256 2 w' w.heap.size sa sc (sumRows T s.f.sums d.data.toList 5) ∧ MemAt w' w0.heap.size A M' (s.put d (tOf s t)) ∧ Goes M M' w w'
theorem feat_part {f : Wh.Feat} (h : Wh.featErr f = 0) : 1 ≤ f.partSize := by
  have h3 := (Wh.feat_right h).2.2
  simp only [Wh.rangeOk, Wh.inB, Bool.and_eq_true, decide_eq_true_eq] at h3
  omega
/-- The store's state behind the file is put. -/
theorem put_new (f : Wh.Feat) (d : ByteArray) (t : Int) (ra : Option Addr) (cap : Nat) : ((sP (st0 f 1000) ra 0 cap).put d t).cur = some ⟨d, t, numS ((0 + 1 : Nat) : Int)⟩ ∧ ((sP (st0 f 1000) ra 0 cap).put d t).ups = .slice ra 0 cap ∧ ((st0 f 1000).put d t).cur = some ⟨d, t, numS ((0 + 1 : Nat) : Int)⟩ := ⟨rfl, rfl, rfl⟩

set_option maxHeartbeats 8000000 in
set_option maxRecDepth 100000 in
theorem partsWhole_walk (T : Tabs) (f : Wh.Feat) (hf : FeatOk f) (d : ByteArray) (z : Int) (w : World) (hG : Gr w T) (_hd : d.size < 9223372036854775808) (hz : -9223372036854775808 ≤ z ∧ z ≤ 9223372036854775807) :
    Calls Tryz.prog 4 #[featVal f, .string d, .int .i64 z] w fun e w' => e = .returned (.bool true) ∧ Below w.heap.size w w' := by
  have hb1 : Below w.heap.size w (w.alloc (featObj f)) := bAlloc (Below.refl _ _) _
  have HB := Lib.hid (featBox_new w f)
  have HL := Lib.hid (fun W (hb : Below w.heap.size w W) => landed_any W (hG.env.under hb))
  have HR := Lib.hid (fun W => rightV_any f hf W)
  unfold BackB at HR
  obtain ⟨fb, hfb⟩ : ∃ fb, w.heap.size = fb := ⟨_, rfl⟩
  have hhas : (bits BinOp.and IntKind.i64 f.has 128 == 0) = !hasB f 128 := by simp [hasB]
  have HFe : Hid (Wh.featErr f = 0 → ∀ W, Calls Tryz.prog 74 #[featVal f] W fun e w' => e = .returned (.int .i64 0) ∧ Below W.heap.size W w') := Lib.hid (fun h0 W => by have := stCheckFeat_any f hf W; rw [h0] at this; exact this)
  have HCk := Lib.hid newClockP_any
  unfold ClockPost at HCk
  have HNp := Lib.hid (fun (h0 : Wh.featErr f = 0) B cb W (hb : B ≤ W.heap.size) hc hcl => newPairT_any B f pathA cb 1000 W (HFe.out h0) hb hc hcl)
  unfold PairT at HNp
  have HP := Lib.hid (fun (h0 : Wh.featErr f = 0) => And.intro (feat_prec h0) (And.intro (feat_part h0) (fok_of h0 pathA_is)))
  obtain ⟨E, hE0⟩ : ∃ E, Wh.featErr f = E := ⟨_, rfl⟩
  have HE := Lib.hid hE0
  rw [hE0] at HR
  obtain ⟨hv, hhv⟩ : ∃ b, hasB f 128 = b := ⟨_, rfl⟩
  have HHv := Lib.hid hhv
  rw [hhv] at hhas
  have HGr := Lib.hid hG
  rw [hfb] at HB
  clear hE0 hhv hG hf HFe
  unfold featVal featObj at *
  go_enter Tryz.func4, Tryz.ntmps4
  go_upto_region 1 with fail
  clear hfb
  generalize w.alloc _ = w1 at *
  have HX := Lib.hid (fun W (hb : Below w1.heap.size w1 W) => HB.out.under hb)
  clear HB
  go_upto_region 3 with (go_at_call 5; refine (HL.out _ hb1).mono ?_; rintro e w2 ⟨rfl, hS⟩)
  have hb2 := bTrans hb1 hS
  obtain ⟨k0, k1, k2, k3, k4, k5, k6, k7, k8, k9⟩ := HX.out _ hS
  clear HL
  obtain ⟨tz, htz⟩ : ∃ tz, wrap64 (1000 * z) = tz := ⟨_, rfl⟩
  have HTz := Lib.hid htz
  by_cases h0 : E = 0
  case neg =>
    have hq : (E == 0) = false := by simpa using h0
    rw [hq] at HR
    go_wp2_with (go_at_call 6; refine (HR.out _).mono ?_; rintro e w3 ⟨rfl, hb3⟩)
    go_ret
    exact ⟨rfl, bTrans hb2 hb3⟩
  case pos =>
    subst h0
    have hq : ((0 : Int) == 0) = true := rfl
    rw [hq] at HR
    obtain ⟨⟨pr1, pr2, pr3, pr4, pr5⟩, pr6, pr7⟩ := HP.out HE.out
    have HFok := Lib.hid pr7
    clear pr7 HP pr1 pr2 pr5
    cases hv
    case false =>
      go_wp2_with (go_at_call 6; refine (HR.out _).mono ?_; rintro e w3 ⟨rfl, hb3⟩; clear k0 k1 k2 k3 k4 k5 k6 k7 k8 k9; obtain ⟨k0, k1, k2, k3, k4, k5, k6, k7, k8, k9⟩ := HX.out _ (bTrans hS hb3))
      go_ret
      exact ⟨rfl, bTrans hb2 hb3⟩
    case true =>
      by_cases h1 : z < f.partSize
      case pos =>
        go_wp2_with (go_at_call 6; refine (HR.out _).mono ?_; rintro e w3 ⟨rfl, hb3⟩; clear k0 k1 k2 k3 k4 k5 k6 k7 k8 k9; obtain ⟨k0, k1, k2, k3, k4, k5, k6, k7, k8, k9⟩ := HX.out _ (bTrans hS hb3))
        go_ret
        exact ⟨rfl, bTrans hb2 hb3⟩
      case neg =>
        by_cases h2 : f.maxSize < (d.size : Int)
        case pos =>
          go_wp2_with (go_at_call 6; refine (HR.out _).mono ?_; rintro e w3 ⟨rfl, hb3⟩; clear k0 k1 k2 k3 k4 k5 k6 k7 k8 k9; obtain ⟨k0, k1, k2, k3, k4, k5, k6, k7, k8, k9⟩ := HX.out _ (bTrans hS hb3))
          go_ret
          exact ⟨rfl, bTrans hb2 hb3⟩
        case neg =>
          by_cases h3 : tz < (d.size : Int)
          case pos =>
            go_wp2_with (go_at_call 6; refine (HR.out _).mono ?_; rintro e w3 ⟨rfl, hb3⟩; clear k0 k1 k2 k3 k4 k5 k6 k7 k8 k9; obtain ⟨k0, k1, k2, k3, k4, k5, k6, k7, k8, k9⟩ := HX.out _ (bTrans hS hb3))
            go_ret
            exact ⟨rfl, bTrans hb2 hb3⟩
          case neg =>
            have h4 : ¬ (f.maxName < 1) := by omega
            go_upto_region 5 with (go_at_call 6; refine (HR.out _).mono ?_; rintro e w3 ⟨rfl, hb3⟩; clear k0 k1 k2 k3 k4 k5 k6 k7 k8 k9; obtain ⟨k0, k1, k2, k3, k4, k5, k6, k7, k8, k9⟩ := HX.out _ (bTrans hS hb3))
            clear k0 k1 k2 k3 k4 k5 k6 k7 k8 k9 HR
            obtain ⟨zn, hzn⟩ : ∃ zn : Nat, z = (zn : Int) := ⟨z.toNat, by omega⟩
            subst hzn
            have hz1 : 1 ≤ zn := by omega
            have hz3 : f.partSize ≤ (zn : Int) := by omega
            have hz4 : d.size ≤ 1000 * zn := by
              have ht := HTz.out
              rcases Int.lt_or_le 9223372036854775807 (1000 * (zn : Int)) with h9 | h9
              · omega
              · rw [show wrap64 (1000 * (zn : Int)) = 1000 * (zn : Int) from IntWalk.wrap64_in _ ⟨by omega, by omega⟩] at ht
                omega
            have hb4' : Below w.heap.size w w3 := bTrans hb2 hb3
            have HB4 := Lib.hid hb4'
            have HX4 : Hid (∀ W, Below w3.heap.size w3 W → FeatBox W fb f) := Lib.hid (fun W h => HX.out W (bTrans (bTrans hS hb3) h))
            clear hb1 hb2 hb3 hb4' hS HX htz HTz h1 h3 h4
            have hS : Below w3.heap.size w3 w3.drew := ⟨rfl, rfl, rfl, Nat.le_refl _, fun _ _ => rfl⟩
            refine wp_region_seq (Below w3.heap.size w3) [(0, true), (3, true), (1, false), (2, false), (4, false), (5, false), (6, true), (7, true)] (by as_aux_lemma => kernel_rfl) (by as_aux_lemma => kernel_rfl) (by decide) (by as_aux_lemma => kernel_rfl) hS ?_
            intro OPS HO
            refine seq_take (o := ⟨_, _, _, _, _, _⟩) (v := ?_) (by rw [HO.out]; rfl) (by rfl) ?_ ?_
            rotate_left 1
            · first | ((intro W _; go_simp) <;> with_reducible rfl) | (intro W hW; obtain ⟨k0, k1, k2, k3, k4, k5, k6, k7, k8, k9⟩ := HX4.out _ hW; (go_simp <;> with_reducible rfl))
            try simp only [Act.put, List.setIfInBounds_toArray, List.set_cons_zero, List.set_cons_succ]
            refine seq_take (o := ⟨_, _, _, _, _, _⟩) (v := ?_) (by rw [HO.out]; rfl) (by rfl) ?_ ?_
            rotate_left 1
            · first | ((intro W _; go_simp) <;> with_reducible rfl) | (intro W hW; obtain ⟨k0, k1, k2, k3, k4, k5, k6, k7, k8, k9⟩ := HX4.out _ hW; (go_simp <;> with_reducible rfl))
            try simp only [Act.put, List.setIfInBounds_toArray, List.set_cons_zero, List.set_cons_succ]
            refine seq_do (o := ⟨_, _, _, _, _, _⟩) (by rw [HO.out]; rfl) (by rfl) (fun K hK => ?_)
            go_wp2_with (go_at_call 10; refine (HCk.out _).mono ?_; rintro e v1 ⟨cb1, rfl, hcb, hcl, hb5⟩; have hw5 : w3.heap.size ≤ cb1 := Nat.le_trans hS.size hcl; have HCb1 := Lib.hid hcb; have HCl1 := Lib.hid hw5; have HBq1 := Lib.hid hcl; replace hS := bTrans hS hb5; clear hb5 hcb hcl hw5)
            refine hK.out _ _ hS (fun _ => ?_)
            clear hK K
            try simp only [Act.put, List.setIfInBounds_toArray, List.set_cons_zero, List.set_cons_succ]
            refine seq_do (o := ⟨_, _, _, _, _, _⟩) (by rw [HO.out]; rfl) (by rfl) (fun K hK => ?_)
            go_wp2_with (go_at_call 9; refine (HNp.out HE.out w.heap.size cb1 _ (bTrans HB4.out hS).size HCb1.out (Nat.le_trans HB4.out.size HCl1.out)).mono ?_; rintro e v2 ⟨p1, db1, M1, rfl, hpb, hm, hnb, hmf, hb6⟩; replace hS := bTrans hS hb6; have HPb1 := Lib.hid hpb; have HMm1 := Lib.hid hm; have HNb1 := Lib.hid hnb; have HMf1 := Lib.hid hmf; have HMl0 := Lib.hid (fun i (hi : MF M1 i ∨ i = M1.cb ∨ i = M1.rb) => hm.mfl (Nat.lt_trans hnb hpb.lt) hi); clear hb6 hpb hm hnb hmf)
            refine hK.out _ _ hS (fun _ => ?_)
            clear hK K
            try simp only [Act.put, List.setIfInBounds_toArray, List.set_cons_zero, List.set_cons_succ]
            refine seq_do (o := ⟨_, _, _, _, _, _⟩) (by rw [HO.out]; rfl) (by rfl) (fun K hK => ?_)
            obtain ⟨B2, hB2⟩ : ∃ B2, v2.heap.size = B2 := ⟨_, rfl⟩
            have HBw2 : Hid (w.heap.size ≤ B2) := Lib.hid (by rw [← hB2]; exact Nat.le_trans HB4.out.size hS.size)
            go_wp2_with (go_at_call 10; refine (HCk.out _).mono ?_; rintro e v3 ⟨cb2, rfl, hcb, hcl, hb5⟩; rw [hB2] at hcl; have HCb2 := Lib.hid hcb; have HCl2 := Lib.hid hcl; have HPb2 := Lib.hid (HPb1.out.under hb5); have HMm2 := Lib.hid (HMm1.out.below hb5); have hB2s : B2 ≤ v3.heap.size := (by rw [← hB2]; exact hb5.size); have HB2 : Hid (p1 < B2) := Lib.hid (by rw [← hB2]; exact HPb1.out.lt); have HMl1 : Hid (∀ i, MF M1 i ∨ i = M1.cb ∨ i = M1.rb → i < B2) := Lib.hid (by rw [← hB2]; exact HMl0.out); replace hS := bTrans hS hb5; clear hb5 hcb hcl)
            refine hK.out _ _ hS (fun _ => ?_)
            clear hK K
            try simp only [Act.put, List.setIfInBounds_toArray, List.set_cons_zero, List.set_cons_succ]
            refine seq_do (o := ⟨_, _, _, _, _, _⟩) (by rw [HO.out]; rfl) (by rfl) (fun K hK => ?_)
            go_wp2_with (go_at_call 9; refine (HNp.out HE.out B2 cb2 _ hB2s HCb2.out HCl2.out).mono ?_; rintro e v4 ⟨p2, db2, M2, rfl, hpb, hm, hnb, hmf, hb6⟩; have HPb3 := Lib.hid (HPb2.out.under hb6); have HMm3 := Lib.hid (HMm2.out.below hb6); have HPq := Lib.hid hpb; have HMq := Lib.hid hm; have HNb2 := Lib.hid hnb; have HMf2 := Lib.hid hmf; replace hS := bTrans hS hb6; clear hb6 hpb hm hnb hmf)
            refine hK.out _ _ hS (fun _ => ?_)
            clear hK K
            try simp only [Act.put, List.setIfInBounds_toArray, List.set_cons_zero, List.set_cons_succ]
            refine seq_take (o := ⟨_, _, _, _, _, _⟩) (v := ?_) (by rw [HO.out]; rfl) (by rfl) ?_ ?_
            rotate_left 1
            · first | ((intro W _; go_simp) <;> with_reducible rfl) | (intro W hW; obtain ⟨k0, k1, k2, k3, k4, k5, k6, k7, k8, k9⟩ := HX4.out _ hW; (go_simp <;> with_reducible rfl))
            try simp only [Act.put, List.setIfInBounds_toArray, List.set_cons_zero, List.set_cons_succ]
            refine seq_take (o := ⟨_, _, _, _, _, _⟩) (v := ?_) (by rw [HO.out]; rfl) (by rfl) ?_ ?_
            rotate_left 1
            · first | ((intro W _; go_simp) <;> with_reducible rfl) | (intro W hW; obtain ⟨k0, k1, k2, k3, k4, k5, k6, k7, k8, k9⟩ := HX4.out _ hW; (go_simp <;> with_reducible rfl))
            try simp only [Act.put, List.setIfInBounds_toArray, List.set_cons_zero, List.set_cons_succ]
            refine seq_done ?_
            have hp2 : B2 ≤ p2 := by have h1 := HMq.out.own M2.b (.inl (.inl rfl)); have h2 := HMf2.out M2.b (.inl rfl); omega
            have HMl2 := Lib.hid (fun i (hi : MF M2 i ∨ i = M2.cb ∨ i = M2.rb) => HMq.out.mfl (Nat.lt_trans HNb2.out HPq.out.lt) hi)
            have hp12 := HB2.out
            obtain ⟨tt, htt⟩ : ∃ tt, tOf (st0 f 1000) 50 = tt := ⟨_, rfl⟩
            obtain ⟨idv, hidv⟩ : ∃ idv, idOf (st0 f 1000) d 50 = idv := ⟨_, rfl⟩
            obtain ⟨rows, hrows⟩ : ∃ rows, sumRows T f.sums d.data.toList 5 = rows := ⟨_, rfl⟩
            have hds : (d.size : Int) ≤ f.maxSize := by omega
            have hso : StOk (st0 f 1000) := ⟨(show (0 : Nat) ≤ 1000000 by decide), (show (0 : Nat) ≤ 1000000 by decide), (show ([] : List Ver).length ≤ 20 by decide), fun h => absurd rfl h⟩
            have HPP := Lib.hid (fun W hb hm hnb => putParts_any w T pathA M1 (st0 f 1000) d 50 zn W HGr.out hb hm hnb pathA_is hso HFok.out hds (by decide) (show (-9223372036854775808 : Int) ≤ 1000 ∧ (1000 : Int) ≤ 9223372036854775807 by decide) HHv.out rfl rfl hz1 hz.2 hz3 hz4)
            unfold PPost at HPP
            simp only [htt, hidv] at HPP
            have HQQ : Hid (∀ W, Below w.heap.size w W → MemAt W w.heap.size pathA M2 (st0 f 1000) → M2.nb < W.heap.size → Calls Tryz.prog 12 #[ptr M2.b, .string pathA, .string d, .int .i64 50, .slice none 0 0] W (PutD w T pathA M2 (st0 f 1000) d 50 W)) := Lib.hid (fun W hb hm hnb => putC_any w T pathA M2 (st0 f 1000) d 50 W HGr.out hb hm hnb pathA_is hso HFok.out hds (by decide) (show (-9223372036854775808 : Int) ≤ 1000 ∧ (1000 : Int) ≤ 9223372036854775807 by decide))
            unfold PutD at HQQ
            simp only [htt, hidv] at HQQ
            have HRl := Lib.hid (sumRows_len T f.sums d.data.toList)
            have HRa := Lib.hid (sumRows_are T f.sums d.data.toList 5)
            have hrows2 : sumRows T (st0 f 1000).f.sums d.data.toList 5 = rows := hrows
            simp only [hrows2] at HPP HQQ
            rw [hrows] at HRl HRa
            have HBw4 : Hid (Below w.heap.size w v4) := Lib.hid (bTrans HB4.out hS)
            have cp1 := HPb3.out.cell (j := 0) rfl
            have HPP1 := Lib.hid (HPP.out v4 HBw4.out HMm3.out (Nat.lt_of_lt_of_le HNb1.out (Nat.le_of_lt HPb3.out.lt)))
            clear htt hidv hrows hrows2 hds hso hz hz1 hz3 hz4 HPP h2
            go_upto_region 9 with (go_at_call 16; refine HPP1.out.mono ?_; rintro e v5 ⟨M1', ra, cap, sa1, n1, sc1, rfl, hl1, hr1, hm5, hg5⟩)
            have HL1 := Lib.hid hl1
            have hf1 : ∀ i, MF M1 i → i < p1 := HMf1.out
            have HG5 := Lib.hid hg5
            have HMq5 := Lib.hid (HMq.out.kp hg5.kp (fun i hi e => by have h1 := hf1 i e; have h2 := HMq.out.own i hi; omega))
            have HPq5 := Lib.hid (HPq.out.kp hg5.kp (fun e => by have h1 := hf1 p2 e; omega))
            have HPb5 := Lib.hid (HPb3.out.kp hg5.kp (fun e => by have h1 := hf1 p1 e; omega))
            have HBw5 : Hid (Below w.heap.size w v5) := Lib.hid (hg5.below HMm3.out HBw4.out)
            have hv45 := hg5.kp.size
            have hb6 : Below v5.heap.size v5 (v5.alloc (.cells (infoArr pathA false d.size tt (.slice sa1 n1 sc1) idv) 42)) := bAlloc (Below.refl _ _) _
            have HXb6 := Lib.hid (BoxIs.new v5 (infoArr pathA false d.size tt (.slice sa1 n1 sc1) idv) 42)
            have HR6 := Lib.hid (hr1.kp (Kp.of (F := fun _ => False) hb6) (fun _ _ e => e))
            have HM6 := Lib.hid (hm5.below hb6)
            have HMq6 := Lib.hid (HMq5.out.below hb6)
            have HPq6 := Lib.hid (HPq5.out.under hb6)
            have HPb6 := Lib.hid (HPb5.out.under hb6)
            have HBw6 : Hid (Below w.heap.size w _) := Lib.hid (bTrans HBw5.out hb6)
            obtain ⟨xb, hxb⟩ : ∃ xb, v5.heap.size = xb := ⟨_, rfl⟩
            rw [hxb] at HXb6 hv45 ⊢
            have hxb6 := hb6.size
            rw [hxb] at hxb6
            clear hl1 hr1 hm5 hg5 HMq5 HPq5 HPb5 HBw5 hb6 HMq HPq HPb3 HMm3 HBw4 HPP1 cp1 hxb
            unfold infoArr at *
            generalize v5.alloc _ = v6 at *
            have cp2 := HPq6.out.cell (j := 0) rfl
            have hl2' : ∀ i, MF M2 i ∨ i = M2.cb ∨ i = M2.rb → B2 ≤ i ∧ i < v4.heap.size := fun i hi => ⟨HMq6.out.own i hi, HMl2.out i hi⟩
            have HQ1 := Lib.hid (HQQ.out v6 HBw6.out (HMq6.out.lower HBw2.out) (by have := HNb2.out; have := HPq6.out.lt; omega))
            go_upto_region 10 with (go_at_call 12; refine HQ1.out.mono ?_; rintro e v7 ⟨M2', sa2, n2, sc2, rfl, hl2, hr2, hm7, hg7⟩)
            obtain rfl : n1 = n2 := HL1.out.symm.trans hl2
            have HG7 := Lib.hid hg7
            have hl1' : ∀ i, MF M1' i ∨ i = M1'.cb ∨ i = M1'.rb → i < B2 ∨ v4.heap.size ≤ i := fun i hi => by
              rcases hi with hi | hi | hi
              · exact (HG5.out.mf i hi).imp (fun h => HMl1.out i (.inl h)) (fun h => h)
              · rw [HG5.out.cb] at hi; exact .inl (HMl1.out i (.inr (.inl hi)))
              · rw [HG5.out.rb] at hi; exact .inl (HMl1.out i (.inr (.inr hi)))
            have HM7 := Lib.hid (HM6.out.kp hg7.kp (fun i hi e => by have h1 := hl2' i (.inl e); have h2 := hl1' i hi; omega))
            have HPb7 := Lib.hid (HPb6.out.kp hg7.kp (fun e => by have h1 := hl2' p1 (.inl e); omega))
            have HPq7 := Lib.hid (HPq6.out.kp hg7.kp (fun e => by have h1 := HMf2.out p2 e; omega))
            have HXb7 := Lib.hid (HXb6.out.kp hg7.kp (fun e => by have h1 := hl2' xb (.inl e); omega))
            have HR7 := Lib.hid (HR6.out.kp hg7.kp (fun i hi e => by have h1 := hl2' i (.inl e); have h2 := (HR6.out.base i hi).1; omega))
            have HBw7 : Hid (Below w.heap.size w v7) := Lib.hid (hg7.below (HMq6.out.lower HBw2.out) HBw6.out)
            have hb8 : Below v7.heap.size v7 (v7.alloc (.cells (infoArr pathA false d.size tt (.slice sa2 n1 sc2) idv) 42)) := bAlloc (Below.refl _ _) _
            have HYb8 := Lib.hid (BoxIs.new v7 (infoArr pathA false d.size tt (.slice sa2 n1 sc2) idv) 42)
            have HXb8 := Lib.hid (HXb7.out.under hb8)
            have HPb8 := Lib.hid (HPb7.out.under hb8)
            have HPq8 := Lib.hid (HPq7.out.under hb8)
            have HM8 := Lib.hid (HM7.out.below hb8)
            have HMq8 := Lib.hid (hm7.below hb8)
            have HR8 := Lib.hid (HR7.out.kp (Kp.of (F := fun _ => False) hb8) (fun _ _ e => e))
            have HRq8 := Lib.hid (hr2.kp (Kp.of (F := fun _ => False) hb8) (fun _ _ e => e))
            have HBw8 : Hid (Below w.heap.size w _) := Lib.hid (bTrans HBw7.out hb8)
            obtain ⟨yb, hyb⟩ : ∃ yb, v7.heap.size = yb := ⟨_, rfl⟩
            rw [hyb] at HYb8 ⊢
            clear hl2 hr2 hm7 hg7 hb8 hyb HM6 HPb6 HPq6 HXb6 HR6 HBw6 HMq6 HQ1 HQQ hl1' hl2' HM7 HPb7 HPq7 HXb7 HR7 HBw7 cp2
            unfold infoArr at *
            generalize v7.alloc _ = v8 at *
            have HAl := Lib.hid (fun W (hb : Below v8.heap.size v8 W) => alikeInfo_any pathA idv false d.size tt rows n1 sa1 sa2 sc1 sc2 _ _ W (HR8.out.kp (Kp.of (F := fun _ => False) hb) (fun _ _ e => e)) (HRq8.out.kp (Kp.of (F := fun _ => False) hb) (fun _ _ e => e)) HRa.out HL1.out (by rw [← HL1.out]; exact HRl.out))
            have HDp : Hid (∀ W, Below v8.heap.size v8 W → Calls Tryz.prog 18 #[ptr M1.b] W (DumpPost pathA ⟨d, tt, numS ((0 + 1 : Nat) : Int)⟩ W)) := Lib.hid (fun W hb => by
              have h := dump_any pathA M1' _ ⟨d, tt, numS ((0 + 1 : Nat) : Int)⟩ w.heap.size W (HM8.out.below hb) rfl
              rw [HG5.out.b] at h
              exact h)
            have HDq : Hid (∀ W, Below v8.heap.size v8 W → Calls Tryz.prog 18 #[ptr M2.b] W (DumpPost pathA ⟨d, tt, numS ((0 + 1 : Nat) : Int)⟩ W)) := Lib.hid (fun W hb => by
              have h := dump_any pathA M2' _ ⟨d, tt, numS ((0 + 1 : Nat) : Int)⟩ w.heap.size W (HMq8.out.below hb) rfl
              rw [HG7.out.b] at h
              exact h)
            unfold DumpPost at HDp HDq
            have HOp : Hid (∀ W, Below v8.heap.size v8 W → Calls Tryz.prog 19 #[ptr M1.b] W fun e w' => e = .returned (.slice none 0 0) ∧ w' = W) := Lib.hid (fun W hb => by
              have h := openUp_any M1'.b cap ra W (HM8.out.below hb).upsc
              rw [HG5.out.b] at h
              exact h)
            have hS : Below v8.heap.size v8 v8.drew := ⟨rfl, rfl, rfl, Nat.le_refl _, fun _ _ => rfl⟩
            refine wp_region_seq (Below v8.heap.size v8) [(0, true), (1, true), (2, true), (3, true), (4, true), (5, true), (6, true), (7, true), (8, false), (9, true), (10, true), (11, true), (12, true), (13, true), (14, true), (17, true), (18, true), (19, true), (20, true), (15, false), (16, true), (21, false), (22, true), (23, false), (24, true), (25, true), (26, true), (27, true), (28, true), (29, true), (30, false), (31, true), (32, true), (33, true), (34, true)] (by as_aux_lemma => kernel_rfl) (by as_aux_lemma => kernel_rfl) (by decide) (by as_aux_lemma => kernel_rfl) hS ?_
            intro OPS HO
            refine seq_take (o := ⟨_, _, _, _, _, _⟩) (v := ?_) (by rw [HO.out]; rfl) (by rfl) ?_ ?_
            rotate_left 1
            · first | ((intro W _; go_simp) <;> with_reducible rfl) | (intro W hW; obtain ⟨x0, x1, x2, x3, x4, x5, x6⟩ := info_cells (HXb8.out.under hW); obtain ⟨y0, y1, y2, y3, y4, y5, y6⟩ := info_cells (HYb8.out.under hW); have q1 := (HPb8.out.under hW).cell (j := 0) rfl; have q2 := (HPq8.out.under hW).cell (j := 0) rfl; (go_simp <;> with_reducible rfl))
            try simp only [Act.put, List.setIfInBounds_toArray, List.set_cons_zero, List.set_cons_succ]
            refine seq_take (o := ⟨_, _, _, _, _, _⟩) (v := ?_) (by rw [HO.out]; rfl) (by rfl) ?_ ?_
            rotate_left 1
            · first | ((intro W _; go_simp) <;> with_reducible rfl) | (intro W hW; obtain ⟨x0, x1, x2, x3, x4, x5, x6⟩ := info_cells (HXb8.out.under hW); obtain ⟨y0, y1, y2, y3, y4, y5, y6⟩ := info_cells (HYb8.out.under hW); have q1 := (HPb8.out.under hW).cell (j := 0) rfl; have q2 := (HPq8.out.under hW).cell (j := 0) rfl; (go_simp <;> with_reducible rfl))
            try simp only [Act.put, List.setIfInBounds_toArray, List.set_cons_zero, List.set_cons_succ]
            refine seq_take (o := ⟨_, _, _, _, _, _⟩) (v := ?_) (by rw [HO.out]; rfl) (by rfl) ?_ ?_
            rotate_left 1
            · first | ((intro W _; go_simp) <;> with_reducible rfl) | (intro W hW; obtain ⟨x0, x1, x2, x3, x4, x5, x6⟩ := info_cells (HXb8.out.under hW); obtain ⟨y0, y1, y2, y3, y4, y5, y6⟩ := info_cells (HYb8.out.under hW); have q1 := (HPb8.out.under hW).cell (j := 0) rfl; have q2 := (HPq8.out.under hW).cell (j := 0) rfl; (go_simp <;> with_reducible rfl))
            try simp only [Act.put, List.setIfInBounds_toArray, List.set_cons_zero, List.set_cons_succ]
            refine seq_take (o := ⟨_, _, _, _, _, _⟩) (v := ?_) (by rw [HO.out]; rfl) (by rfl) ?_ ?_
            rotate_left 1
            · first | ((intro W _; go_simp) <;> with_reducible rfl) | (intro W hW; obtain ⟨x0, x1, x2, x3, x4, x5, x6⟩ := info_cells (HXb8.out.under hW); obtain ⟨y0, y1, y2, y3, y4, y5, y6⟩ := info_cells (HYb8.out.under hW); have q1 := (HPb8.out.under hW).cell (j := 0) rfl; have q2 := (HPq8.out.under hW).cell (j := 0) rfl; (go_simp <;> with_reducible rfl))
            try simp only [Act.put, List.setIfInBounds_toArray, List.set_cons_zero, List.set_cons_succ]
            refine seq_take (o := ⟨_, _, _, _, _, _⟩) (v := ?_) (by rw [HO.out]; rfl) (by as_aux_lemma => (rw [HO.out]; rfl)) ?_ ?_
            rotate_left 1
            · first | ((intro W _; go_simp) <;> with_reducible rfl) | (intro W hW; obtain ⟨x0, x1, x2, x3, x4, x5, x6⟩ := info_cells (HXb8.out.under hW); obtain ⟨y0, y1, y2, y3, y4, y5, y6⟩ := info_cells (HYb8.out.under hW); have q1 := (HPb8.out.under hW).cell (j := 0) rfl; have q2 := (HPq8.out.under hW).cell (j := 0) rfl; (go_simp <;> with_reducible rfl))
            try simp only [Act.put, List.setIfInBounds_toArray, List.set_cons_zero, List.set_cons_succ]
            refine seq_take (o := ⟨_, _, _, _, _, _⟩) (v := ?_) (by rw [HO.out]; rfl) (by as_aux_lemma => (rw [HO.out]; rfl)) ?_ ?_
            rotate_left 1
            · first | ((intro W _; go_simp) <;> with_reducible rfl) | (intro W hW; obtain ⟨x0, x1, x2, x3, x4, x5, x6⟩ := info_cells (HXb8.out.under hW); obtain ⟨y0, y1, y2, y3, y4, y5, y6⟩ := info_cells (HYb8.out.under hW); have q1 := (HPb8.out.under hW).cell (j := 0) rfl; have q2 := (HPq8.out.under hW).cell (j := 0) rfl; (go_simp <;> with_reducible rfl))
            try simp only [Act.put, List.setIfInBounds_toArray, List.set_cons_zero, List.set_cons_succ]
            refine seq_take (o := ⟨_, _, _, _, _, _⟩) (v := ?_) (by rw [HO.out]; rfl) (by as_aux_lemma => (rw [HO.out]; rfl)) ?_ ?_
            rotate_left 1
            · first | ((intro W _; go_simp) <;> with_reducible rfl) | (intro W hW; obtain ⟨x0, x1, x2, x3, x4, x5, x6⟩ := info_cells (HXb8.out.under hW); obtain ⟨y0, y1, y2, y3, y4, y5, y6⟩ := info_cells (HYb8.out.under hW); have q1 := (HPb8.out.under hW).cell (j := 0) rfl; have q2 := (HPq8.out.under hW).cell (j := 0) rfl; (go_simp <;> with_reducible rfl))
            try simp only [Act.put, List.setIfInBounds_toArray, List.set_cons_zero, List.set_cons_succ]
            refine seq_take (o := ⟨_, _, _, _, _, _⟩) (v := ?_) (by rw [HO.out]; rfl) (by as_aux_lemma => (rw [HO.out]; rfl)) ?_ ?_
            rotate_left 1
            · first | ((intro W _; go_simp) <;> with_reducible rfl) | (intro W hW; obtain ⟨x0, x1, x2, x3, x4, x5, x6⟩ := info_cells (HXb8.out.under hW); obtain ⟨y0, y1, y2, y3, y4, y5, y6⟩ := info_cells (HYb8.out.under hW); have q1 := (HPb8.out.under hW).cell (j := 0) rfl; have q2 := (HPq8.out.under hW).cell (j := 0) rfl; (go_simp <;> with_reducible rfl))
            try simp only [Act.put, List.setIfInBounds_toArray, List.set_cons_zero, List.set_cons_succ]
            refine seq_do (o := ⟨_, _, _, _, _, _⟩) (by rw [HO.out]; rfl) (by as_aux_lemma => (rw [HO.out]; rfl)) (fun K hK => ?_)
            go_wp2_with (go_at_call 17; refine (HAl.out _ hS).mono ?_; rintro e z1 ⟨rfl, hb9⟩; replace hS := bTrans hS hb9; clear hb9)
            refine hK.out _ _ hS (fun _ => ?_)
            clear hK K
            try simp only [Act.put, List.setIfInBounds_toArray, List.set_cons_zero, List.set_cons_succ]
            refine seq_take (o := ⟨_, _, _, _, _, _⟩) (v := ?_) (by rw [HO.out]; rfl) (by rfl) ?_ ?_
            rotate_left 1
            · first | ((intro W _; go_simp) <;> with_reducible rfl) | (intro W hW; obtain ⟨x0, x1, x2, x3, x4, x5, x6⟩ := info_cells (HXb8.out.under hW); obtain ⟨y0, y1, y2, y3, y4, y5, y6⟩ := info_cells (HYb8.out.under hW); have q1 := (HPb8.out.under hW).cell (j := 0) rfl; have q2 := (HPq8.out.under hW).cell (j := 0) rfl; (go_simp <;> with_reducible rfl))
            try simp only [Act.put, List.setIfInBounds_toArray, List.set_cons_zero, List.set_cons_succ]
            refine seq_take (o := ⟨_, _, _, _, _, _⟩) (v := ?_) (by rw [HO.out]; rfl) (by rfl) ?_ ?_
            rotate_left 1
            · first | ((intro W _; go_simp) <;> with_reducible rfl) | (intro W hW; obtain ⟨x0, x1, x2, x3, x4, x5, x6⟩ := info_cells (HXb8.out.under hW); obtain ⟨y0, y1, y2, y3, y4, y5, y6⟩ := info_cells (HYb8.out.under hW); have q1 := (HPb8.out.under hW).cell (j := 0) rfl; have q2 := (HPq8.out.under hW).cell (j := 0) rfl; (go_simp <;> with_reducible rfl))
            try simp only [Act.put, List.setIfInBounds_toArray, List.set_cons_zero, List.set_cons_succ]
            refine seq_take (o := ⟨_, _, _, _, _, _⟩) (v := ?_) (by rw [HO.out]; rfl) (by as_aux_lemma => (rw [HO.out]; rfl)) ?_ ?_
            rotate_left 1
            · first | ((intro W _; go_simp) <;> with_reducible rfl) | (intro W hW; obtain ⟨x0, x1, x2, x3, x4, x5, x6⟩ := info_cells (HXb8.out.under hW); obtain ⟨y0, y1, y2, y3, y4, y5, y6⟩ := info_cells (HYb8.out.under hW); have q1 := (HPb8.out.under hW).cell (j := 0) rfl; have q2 := (HPq8.out.under hW).cell (j := 0) rfl; (go_simp <;> with_reducible rfl))
            try simp only [Act.put, List.setIfInBounds_toArray, List.set_cons_zero, List.set_cons_succ]
            refine seq_take (o := ⟨_, _, _, _, _, _⟩) (v := ?_) (by rw [HO.out]; rfl) (by as_aux_lemma => (rw [HO.out]; rfl)) ?_ ?_
            rotate_left 1
            · first | ((intro W _; go_simp) <;> with_reducible rfl) | (intro W hW; obtain ⟨x0, x1, x2, x3, x4, x5, x6⟩ := info_cells (HXb8.out.under hW); obtain ⟨y0, y1, y2, y3, y4, y5, y6⟩ := info_cells (HYb8.out.under hW); have q1 := (HPb8.out.under hW).cell (j := 0) rfl; have q2 := (HPq8.out.under hW).cell (j := 0) rfl; (go_simp <;> with_reducible rfl))
            try simp only [Act.put, List.setIfInBounds_toArray, List.set_cons_zero, List.set_cons_succ]
            refine seq_take (o := ⟨_, _, _, _, _, _⟩) (v := ?_) (by rw [HO.out]; rfl) (by as_aux_lemma => (rw [HO.out]; rfl)) ?_ ?_
            rotate_left 1
            · first | ((intro W _; go_simp) <;> with_reducible rfl) | (intro W hW; obtain ⟨x0, x1, x2, x3, x4, x5, x6⟩ := info_cells (HXb8.out.under hW); obtain ⟨y0, y1, y2, y3, y4, y5, y6⟩ := info_cells (HYb8.out.under hW); have q1 := (HPb8.out.under hW).cell (j := 0) rfl; have q2 := (HPq8.out.under hW).cell (j := 0) rfl; (go_simp <;> with_reducible rfl))
            try simp only [Act.put, List.setIfInBounds_toArray, List.set_cons_zero, List.set_cons_succ]
            refine seq_take (o := ⟨_, _, _, _, _, _⟩) (v := ?_) (by rw [HO.out]; rfl) (by as_aux_lemma => (rw [HO.out]; rfl)) ?_ ?_
            rotate_left 1
            · first | ((intro W _; go_simp) <;> with_reducible rfl) | (intro W hW; obtain ⟨x0, x1, x2, x3, x4, x5, x6⟩ := info_cells (HXb8.out.under hW); obtain ⟨y0, y1, y2, y3, y4, y5, y6⟩ := info_cells (HYb8.out.under hW); have q1 := (HPb8.out.under hW).cell (j := 0) rfl; have q2 := (HPq8.out.under hW).cell (j := 0) rfl; (go_simp <;> with_reducible rfl))
            try simp only [Act.put, List.setIfInBounds_toArray, List.set_cons_zero, List.set_cons_succ]
            refine seq_take (o := ⟨_, _, _, _, _, _⟩) (v := ?_) (by rw [HO.out]; rfl) (by as_aux_lemma => (rw [HO.out]; rfl)) ?_ ?_
            rotate_left 1
            · first | ((intro W _; go_simp) <;> with_reducible rfl) | (intro W hW; obtain ⟨x0, x1, x2, x3, x4, x5, x6⟩ := info_cells (HXb8.out.under hW); obtain ⟨y0, y1, y2, y3, y4, y5, y6⟩ := info_cells (HYb8.out.under hW); have q1 := (HPb8.out.under hW).cell (j := 0) rfl; have q2 := (HPq8.out.under hW).cell (j := 0) rfl; (go_simp <;> with_reducible rfl))
            try simp only [Act.put, List.setIfInBounds_toArray, List.set_cons_zero, List.set_cons_succ]
            refine seq_take (o := ⟨_, _, _, _, _, _⟩) (v := ?_) (by rw [HO.out]; rfl) (by as_aux_lemma => (rw [HO.out]; rfl)) ?_ ?_
            rotate_left 1
            · first | ((intro W _; go_simp) <;> with_reducible rfl) | (intro W hW; obtain ⟨x0, x1, x2, x3, x4, x5, x6⟩ := info_cells (HXb8.out.under hW); obtain ⟨y0, y1, y2, y3, y4, y5, y6⟩ := info_cells (HYb8.out.under hW); have q1 := (HPb8.out.under hW).cell (j := 0) rfl; have q2 := (HPq8.out.under hW).cell (j := 0) rfl; (go_simp <;> with_reducible rfl))
            try simp only [Act.put, List.setIfInBounds_toArray, List.set_cons_zero, List.set_cons_succ]
            refine seq_take (o := ⟨_, _, _, _, _, _⟩) (v := ?_) (by rw [HO.out]; rfl) (by as_aux_lemma => (rw [HO.out]; rfl)) ?_ ?_
            rotate_left 1
            · first | ((intro W _; go_simp) <;> with_reducible rfl) | (intro W hW; obtain ⟨x0, x1, x2, x3, x4, x5, x6⟩ := info_cells (HXb8.out.under hW); obtain ⟨y0, y1, y2, y3, y4, y5, y6⟩ := info_cells (HYb8.out.under hW); have q1 := (HPb8.out.under hW).cell (j := 0) rfl; have q2 := (HPq8.out.under hW).cell (j := 0) rfl; (go_simp <;> with_reducible rfl))
            try simp only [Act.put, List.setIfInBounds_toArray, List.set_cons_zero, List.set_cons_succ]
            refine seq_take (o := ⟨_, _, _, _, _, _⟩) (v := ?_) (by rw [HO.out]; rfl) (by as_aux_lemma => (rw [HO.out]; rfl)) ?_ ?_
            rotate_left 1
            · first | ((intro W _; go_simp) <;> with_reducible rfl) | (intro W hW; obtain ⟨x0, x1, x2, x3, x4, x5, x6⟩ := info_cells (HXb8.out.under hW); obtain ⟨y0, y1, y2, y3, y4, y5, y6⟩ := info_cells (HYb8.out.under hW); have q1 := (HPb8.out.under hW).cell (j := 0) rfl; have q2 := (HPq8.out.under hW).cell (j := 0) rfl; (go_simp <;> with_reducible rfl))
            try simp only [Act.put, List.setIfInBounds_toArray, List.set_cons_zero, List.set_cons_succ]
            refine seq_do (o := ⟨_, _, _, _, _, _⟩) (by rw [HO.out]; rfl) (by as_aux_lemma => (rw [HO.out]; rfl)) (fun K hK => ?_)
            go_wp2_with (go_at_call 18; refine (HDp.out _ hS).mono ?_; rintro e z2 ⟨ea1, ec1, rfl, hre, hb9⟩; have HE1 := Lib.hid hre; replace hS := bTrans hS hb9; clear hb9 hre)
            refine hK.out _ _ hS (fun _ => ?_)
            clear hK K
            try simp only [Act.put, List.setIfInBounds_toArray, List.set_cons_zero, List.set_cons_succ]
            refine seq_take (o := ⟨_, _, _, _, _, _⟩) (v := ?_) (by rw [HO.out]; rfl) (by as_aux_lemma => (rw [HO.out]; rfl)) ?_ ?_
            rotate_left 1
            · first | ((intro W _; go_simp) <;> with_reducible rfl) | (intro W hW; obtain ⟨x0, x1, x2, x3, x4, x5, x6⟩ := info_cells (HXb8.out.under hW); obtain ⟨y0, y1, y2, y3, y4, y5, y6⟩ := info_cells (HYb8.out.under hW); have q1 := (HPb8.out.under hW).cell (j := 0) rfl; have q2 := (HPq8.out.under hW).cell (j := 0) rfl; (go_simp <;> with_reducible rfl))
            try simp only [Act.put, List.setIfInBounds_toArray, List.set_cons_zero, List.set_cons_succ]
            refine seq_do (o := ⟨_, _, _, _, _, _⟩) (by rw [HO.out]; rfl) (by as_aux_lemma => (rw [HO.out]; rfl)) (fun K hK => ?_)
            go_wp2_with (go_at_call 18; refine (HDq.out _ hS).mono ?_; rintro e z3 ⟨ea2, ec2, rfl, hre, hb9⟩; have HE2 := Lib.hid hre; have HE3 := Lib.hid (HE1.out.kp (Kp.of (F := fun _ => False) hb9) (fun _ _ e => e)); replace hS := bTrans hS hb9; clear hb9 hre)
            refine hK.out _ _ hS (fun _ => ?_)
            clear hK K
            try simp only [Act.put, List.setIfInBounds_toArray, List.set_cons_zero, List.set_cons_succ]
            refine seq_take (o := ⟨_, _, _, _, _, _⟩) (v := ?_) (by rw [HO.out]; rfl) (by as_aux_lemma => (rw [HO.out]; rfl)) ?_ ?_
            rotate_left 1
            · first | ((intro W _; go_simp) <;> with_reducible rfl) | (intro W hW; obtain ⟨x0, x1, x2, x3, x4, x5, x6⟩ := info_cells (HXb8.out.under hW); obtain ⟨y0, y1, y2, y3, y4, y5, y6⟩ := info_cells (HYb8.out.under hW); have q1 := (HPb8.out.under hW).cell (j := 0) rfl; have q2 := (HPq8.out.under hW).cell (j := 0) rfl; (go_simp <;> with_reducible rfl))
            try simp only [Act.put, List.setIfInBounds_toArray, List.set_cons_zero, List.set_cons_succ]
            refine seq_do (o := ⟨_, _, _, _, _, _⟩) (by rw [HO.out]; rfl) (by as_aux_lemma => (rw [HO.out]; rfl)) (fun K hK => ?_)
            have HEq := Lib.hid (alikeEntries_any pathA d false tt ea1 ea2 ec1 ec2 _ _ z3 HE3.out HE2.out)
            go_wp2_with (go_at_call 17; refine HEq.out.mono ?_; rintro e z4 ⟨rfl, hb9⟩; replace hS := bTrans hS hb9; clear hb9)
            refine hK.out _ _ hS (fun _ => ?_)
            clear hK K
            try simp only [Act.put, List.setIfInBounds_toArray, List.set_cons_zero, List.set_cons_succ]
            refine seq_take (o := ⟨_, _, _, _, _, _⟩) (v := ?_) (by rw [HO.out]; rfl) (by rfl) ?_ ?_
            rotate_left 1
            · first | ((intro W _; go_simp) <;> with_reducible rfl) | (intro W hW; obtain ⟨x0, x1, x2, x3, x4, x5, x6⟩ := info_cells (HXb8.out.under hW); obtain ⟨y0, y1, y2, y3, y4, y5, y6⟩ := info_cells (HYb8.out.under hW); have q1 := (HPb8.out.under hW).cell (j := 0) rfl; have q2 := (HPq8.out.under hW).cell (j := 0) rfl; (go_simp <;> with_reducible rfl))
            try simp only [Act.put, List.setIfInBounds_toArray, List.set_cons_zero, List.set_cons_succ]
            refine seq_take (o := ⟨_, _, _, _, _, _⟩) (v := ?_) (by rw [HO.out]; rfl) (by rfl) ?_ ?_
            rotate_left 1
            · first | ((intro W _; go_simp) <;> with_reducible rfl) | (intro W hW; obtain ⟨x0, x1, x2, x3, x4, x5, x6⟩ := info_cells (HXb8.out.under hW); obtain ⟨y0, y1, y2, y3, y4, y5, y6⟩ := info_cells (HYb8.out.under hW); have q1 := (HPb8.out.under hW).cell (j := 0) rfl; have q2 := (HPq8.out.under hW).cell (j := 0) rfl; (go_simp <;> with_reducible rfl))
            try simp only [Act.put, List.setIfInBounds_toArray, List.set_cons_zero, List.set_cons_succ]
            refine seq_take (o := ⟨_, _, _, _, _, _⟩) (v := ?_) (by rw [HO.out]; rfl) (by as_aux_lemma => (rw [HO.out]; rfl)) ?_ ?_
            rotate_left 1
            · first | ((intro W _; go_simp) <;> with_reducible rfl) | (intro W hW; obtain ⟨x0, x1, x2, x3, x4, x5, x6⟩ := info_cells (HXb8.out.under hW); obtain ⟨y0, y1, y2, y3, y4, y5, y6⟩ := info_cells (HYb8.out.under hW); have q1 := (HPb8.out.under hW).cell (j := 0) rfl; have q2 := (HPq8.out.under hW).cell (j := 0) rfl; (go_simp <;> with_reducible rfl))
            try simp only [Act.put, List.setIfInBounds_toArray, List.set_cons_zero, List.set_cons_succ]
            refine seq_take (o := ⟨_, _, _, _, _, _⟩) (v := ?_) (by rw [HO.out]; rfl) (by as_aux_lemma => (rw [HO.out]; rfl)) ?_ ?_
            rotate_left 1
            · first | ((intro W _; go_simp) <;> with_reducible rfl) | (intro W hW; obtain ⟨x0, x1, x2, x3, x4, x5, x6⟩ := info_cells (HXb8.out.under hW); obtain ⟨y0, y1, y2, y3, y4, y5, y6⟩ := info_cells (HYb8.out.under hW); have q1 := (HPb8.out.under hW).cell (j := 0) rfl; have q2 := (HPq8.out.under hW).cell (j := 0) rfl; (go_simp <;> with_reducible rfl))
            try simp only [Act.put, List.setIfInBounds_toArray, List.set_cons_zero, List.set_cons_succ]
            refine seq_take (o := ⟨_, _, _, _, _, _⟩) (v := ?_) (by rw [HO.out]; rfl) (by as_aux_lemma => (rw [HO.out]; rfl)) ?_ ?_
            rotate_left 1
            · first | ((intro W _; go_simp) <;> with_reducible rfl) | (intro W hW; obtain ⟨x0, x1, x2, x3, x4, x5, x6⟩ := info_cells (HXb8.out.under hW); obtain ⟨y0, y1, y2, y3, y4, y5, y6⟩ := info_cells (HYb8.out.under hW); have q1 := (HPb8.out.under hW).cell (j := 0) rfl; have q2 := (HPq8.out.under hW).cell (j := 0) rfl; (go_simp <;> with_reducible rfl))
            try simp only [Act.put, List.setIfInBounds_toArray, List.set_cons_zero, List.set_cons_succ]
            refine seq_take (o := ⟨_, _, _, _, _, _⟩) (v := ?_) (by rw [HO.out]; rfl) (by as_aux_lemma => (rw [HO.out]; rfl)) ?_ ?_
            rotate_left 1
            · first | ((intro W _; go_simp) <;> with_reducible rfl) | (intro W hW; obtain ⟨x0, x1, x2, x3, x4, x5, x6⟩ := info_cells (HXb8.out.under hW); obtain ⟨y0, y1, y2, y3, y4, y5, y6⟩ := info_cells (HYb8.out.under hW); have q1 := (HPb8.out.under hW).cell (j := 0) rfl; have q2 := (HPq8.out.under hW).cell (j := 0) rfl; (go_simp <;> with_reducible rfl))
            try simp only [Act.put, List.setIfInBounds_toArray, List.set_cons_zero, List.set_cons_succ]
            refine seq_do (o := ⟨_, _, _, _, _, _⟩) (by rw [HO.out]; rfl) (by as_aux_lemma => (rw [HO.out]; rfl)) (fun K hK => ?_)
            go_wp2_with (go_at_call 19; refine (HOp.out _ hS).mono ?_; rintro e z5 ⟨rfl, hw⟩; have hw2 := hw.symm; clear hw; subst hw2)
            refine hK.out _ _ hS (fun _ => ?_)
            clear hK K
            try simp only [Act.put, List.setIfInBounds_toArray, List.set_cons_zero, List.set_cons_succ]
            refine seq_take (o := ⟨_, _, _, _, _, _⟩) (v := ?_) (by rw [HO.out]; rfl) (by as_aux_lemma => (rw [HO.out]; rfl)) ?_ ?_
            rotate_left 1
            · first | ((intro W _; go_simp) <;> with_reducible rfl) | (intro W hW; obtain ⟨x0, x1, x2, x3, x4, x5, x6⟩ := info_cells (HXb8.out.under hW); obtain ⟨y0, y1, y2, y3, y4, y5, y6⟩ := info_cells (HYb8.out.under hW); have q1 := (HPb8.out.under hW).cell (j := 0) rfl; have q2 := (HPq8.out.under hW).cell (j := 0) rfl; (go_simp <;> with_reducible rfl))
            try simp only [Act.put, List.setIfInBounds_toArray, List.set_cons_zero, List.set_cons_succ]
            refine seq_take (o := ⟨_, _, _, _, _, _⟩) (v := ?_) (by rw [HO.out]; rfl) (by as_aux_lemma => (rw [HO.out]; rfl)) ?_ ?_
            rotate_left 1
            · first | ((intro W _; go_simp) <;> with_reducible rfl) | (intro W hW; obtain ⟨x0, x1, x2, x3, x4, x5, x6⟩ := info_cells (HXb8.out.under hW); obtain ⟨y0, y1, y2, y3, y4, y5, y6⟩ := info_cells (HYb8.out.under hW); have q1 := (HPb8.out.under hW).cell (j := 0) rfl; have q2 := (HPq8.out.under hW).cell (j := 0) rfl; (go_simp <;> with_reducible rfl))
            try simp only [Act.put, List.setIfInBounds_toArray, List.set_cons_zero, List.set_cons_succ]
            refine seq_take (o := ⟨_, _, _, _, _, _⟩) (v := ?_) (by rw [HO.out]; rfl) (by rfl) ?_ ?_
            rotate_left 1
            · first | ((intro W _; go_simp) <;> with_reducible rfl) | (intro W hW; obtain ⟨x0, x1, x2, x3, x4, x5, x6⟩ := info_cells (HXb8.out.under hW); obtain ⟨y0, y1, y2, y3, y4, y5, y6⟩ := info_cells (HYb8.out.under hW); have q1 := (HPb8.out.under hW).cell (j := 0) rfl; have q2 := (HPq8.out.under hW).cell (j := 0) rfl; (go_simp <;> with_reducible rfl))
            try simp only [Act.put, List.setIfInBounds_toArray, List.set_cons_zero, List.set_cons_succ]
            refine seq_take (o := ⟨_, _, _, _, _, _⟩) (v := ?_) (by rw [HO.out]; rfl) (by rfl) ?_ ?_
            rotate_left 1
            · first | ((intro W _; go_simp) <;> with_reducible rfl) | (intro W hW; obtain ⟨x0, x1, x2, x3, x4, x5, x6⟩ := info_cells (HXb8.out.under hW); obtain ⟨y0, y1, y2, y3, y4, y5, y6⟩ := info_cells (HYb8.out.under hW); have q1 := (HPb8.out.under hW).cell (j := 0) rfl; have q2 := (HPq8.out.under hW).cell (j := 0) rfl; (go_simp <;> with_reducible rfl))
            try simp only [Act.put, List.setIfInBounds_toArray, List.set_cons_zero, List.set_cons_succ]
            refine seq_done ?_
            go_wp2_with fail
            go_ret
            exact ⟨rfl, bTrans HBw8.out hS⟩
end Go.Proofs.YtmafnjapailliaaGreatDoor
