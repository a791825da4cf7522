/-
  wherryref1.showSet.
-/
import Derived.Test.YtnpcbcnclncniaaGreatDoorGlobP4
namespace Go.Proofs.YtnpcbcnclncniaaGreatDoor
open Go.RowKit

theorem ret_strv {a b : ByteArray} (h : a = b) : Ending.returned (.string a) = .returned (.string b) := by rw [h]
/-- Two texts put together. -/
theorem cat (a b : ByteArray) (h : a.size + b.size ≤ 100000000) : ∃ Y : ByteArray, Y.data.toList = a.data.toList ++ b.data.toList ∧ Y.size = a.size + b.size ∧ ∀ W : World, (Op.stringOp .add a b).run Tryz.prog W = .ok (.string Y) W :=
  ⟨⟨(a.data.toList ++ b.data.toList).toArray⟩, rfl, by rw [Lib.size_eq, Lib.size_eq, Lib.size_eq]; simp, fun W => run_add a b W h⟩
theorem idx_has (s : ByteArray) (c : UInt8) : ∃ J : Int, s.data.toList.contains c = decide (0 ≤ J) ∧ ∀ (n : Int), n = c.toNat → ∀ w : World, Calls Tryz.prog 55 #[.string s, .int .u8 n] w fun e w' => e = .returned (.int .i64 J) ∧ w = w' := by
  refine ⟨Lib.indexByte s.data.toList c, Lib.contains_iff_indexByte s.data.toList c, fun n hn w => ?_⟩
  subst hn
  have hback : ((c.toNat : Int)).toNat.toUInt8 = c := by simp
  have HI := Tryz.strings_IndexByte s c.toNat w
  rw [hback] at HI
  exact HI.mono fun e w' h => ⟨h.1, h.2.symm⟩
theorem ofNat_back (n : Int) (h0 : 0 ≤ n) (h1 : n ≤ 255) : n = ((UInt8.ofNat n.toNat).toNat : Int) := by
  simp
  omega

set_option maxHeartbeats 2000000 in
set_option maxRecDepth 100000 in
theorem one_any (n : Int) (w : World) (h0 : 0 ≤ n) (h1 : n ≤ 255) :
    Calls Tryz.prog 118 #[.int .i64 n] w fun e w' => e = .returned (.string ⟨(bnd n).toArray⟩) ∧ Below w.heap.size w w' := by
  have hcv := run_chr n h0 h1 w
  have hb := bAlloc (Below.refl w.heap.size w) (.cells #[.int .u8 n] 5)
  obtain ⟨J, hJ, hC⟩ := idx_has ⟨#[92, 93, 94, 45]⟩ (UInt8.ofNat n.toNat)
  have HC := Lib.hid (hC n (ofNat_back n h0 h1))
  have HBn : Hid (bnd n = if decide (0 ≤ J) then [92, UInt8.ofNat n.toNat] else [UInt8.ofNat n.toNat]) := Lib.hid (by
    rw [← hJ]
    rfl)
  have hadd := fun W => run_add ⟨#[92]⟩ (chr n) W (by show 1 + 1 ≤ _; omega)
  clear hC hJ
  by_cases hj : 0 ≤ J
  · have HR : Hid (bnd n = (⟨#[92]⟩ : ByteArray).data.toList ++ (chr n).data.toList) := Lib.hid (by rw [HBn.out, decide_eq_true hj]; rfl)
    clear HBn
    go_enter Tryz.func118, Tryz.ntmps118
    go_wp2_with (go_at_call 55; refine (HC.out _).mono ?_; rintro e w5 ⟨rfl, rfl⟩)
    go_ret
    exact ⟨ret_strv (by rw [HR.out]; rfl), hb⟩
  · have HR : Hid ((⟨(bnd n).toArray⟩ : ByteArray) = chr n) := Lib.hid (by rw [HBn.out, decide_eq_false hj]; rfl)
    clear HBn hadd
    go_enter Tryz.func118, Tryz.ntmps118
    go_wp2_with (go_at_call 55; refine (HC.out _).mono ?_; rintro e w5 ⟨rfl, rfl⟩)
    go_ret
    exact ⟨ret_strv HR.out.symm, hb⟩

set_option maxHeartbeats 4000000 in
set_option maxRecDepth 100000 in
theorem showSet_any {α : Type} (q : PartOf α) (w : World) (hr : SlHolds w 2 rgCells q.rg) (hg : ∀ r ∈ q.rg.xs, (1 ≤ r.1 ∧ r.1 ≤ 255) ∧ 1 ≤ r.2 ∧ r.2 ≤ 255) (hn : q.rg.xs.length ≤ 1048576) :
    Calls Tryz.prog 92 #[partVal q] w fun e w' => e = .returned (.string ⟨(setTxt q.neg q.rg.xs).toArray⟩) ∧ Below w.heap.size w w' := by
  have HR := Lib.hid hr
  have HG := Lib.hid hg
  have hb0 := bAlloc (Below.refl w.heap.size w) (.cells (partArr q) 92)
  have HQ := Lib.hid (BoxIs.new w (partArr q) 92)
  have hadd0 := fun W => run_add ⟨#[91]⟩ ⟨#[94]⟩ W (by show 1 + 1 ≤ _; omega)
  have HO : Hid (setTxt q.neg q.rg.xs = ([91] ++ if q.neg then [94] else []) ++ q.rg.xs.flatMap rgTxt ++ [93]) := Lib.hid (by unfold setTxt; simp only [List.append_assoc])
  generalize setTxt q.neg q.rg.xs = OUT at *
  clear hr hg
  obtain ⟨kind, text, neg, ⟨ra, rc, rxs⟩, ⟨wa, wcap, wxs⟩⟩ := q
  simp only [] at *
  go_enter Tryz.func92, Tryz.ntmps92
  go_upto_region 3 with fail
  generalize w.alloc _ = w1 at *
  obtain ⟨p0, p1, p2, p3, p4, p5⟩ := HQ.out.part (p := (⟨kind, text, neg, ⟨ra, rc, rxs⟩, ⟨wa, wcap, wxs⟩⟩ : PartOf α))
  simp only [] at p3 p4
  go_upto_if 8 with fail
  go_cut [4] (fun s4 wx => ∃ B : ByteArray, s4 = .string B ∧ w1 = wx ∧ B.size ≤ 2 ∧ Hid (B.data.toList = [91] ++ if neg then [94] else []))
  case first =>
    cases neg
    · go_wp2_with fail
      go_meet
      exact ⟨_, rfl, rfl, by decide, Lib.hid rfl⟩
    · go_wp2_with fail
      go_meet
      exact ⟨_, rfl, rfl, by decide, Lib.hid rfl⟩
  case rest =>
  obtain ⟨B0, rfl, rfl, hB0, HB0⟩ := hcut
  rw [← HB0.out] at HO
  clear HB0 hadd0
  go_wp2_with fail
  clear p0 p1 p2 p3 p4 p5
  go_loopg [4, 14] rxs.length (fun g s4 i wx => ∃ (k : Nat) (B : ByteArray), k + g = rxs.length ∧ i = .int .i64 k ∧ s4 = .string B ∧ Below w1.heap.size w1 wx ∧ B.size ≤ 2 + k * 5 ∧ Hid (B.data.toList = B0.data.toList ++ (rxs.take k).flatMap rgTxt))
  case atStart => exact ⟨0, B0, by omega, rfl, rfl, Below.refl _ _, by omega, Lib.hid (by simp)⟩
  case round =>
    obtain ⟨k, B, hk, rfl, rfl, hb, hBs, HB⟩ := hrel
    by_cases hlt : k < rxs.length
    · obtain ⟨g, rfl⟩ : ∃ g, gk = g + 1 := ⟨gk - 1, by omega⟩
      obtain ⟨⟨x, y⟩, hx⟩ : ∃ r : Int × Int, rxs[k]? = some r := ⟨_, List.getElem?_eq_getElem hlt⟩
      obtain ⟨⟨x1, x2⟩, y1, y2⟩ := HG.out _ (List.mem_of_getElem? hx)
      obtain ⟨ba, off, ha, hba, r0, r1⟩ := pairRow (HR.out.under (bTrans hb0 hb)) hx
      have HT : Hid (B0.data.toList ++ (rxs.take (k + 1)).flatMap rgTxt = B.data.toList ++ rgTxt (x, y)) := Lib.hid (by rw [flat_snoc hx, ← List.append_assoc, ← HB.out])
      simp only [] at x1 x2 y1 y2 ha r0 r1
      subst ha
      have hbx := bAlloc (Below.refl wr.heap.size wr) (.cells #[.int .i64 x, .int .i64 y] 95)
      have HX5 := Lib.hid (BoxIs.new wr #[.int .i64 x, .int .i64 y] 95)
      have hb5 := bTrans hb hbx
      clear hx HB hbx
      go_upto_region 8 with fail
      generalize wr.alloc _ = w5 at *
      generalize wr.heap.size = zx at *
      clear r0 r1
      obtain ⟨q0, q1, q2⟩ := HX5.out.pair
      have HC := Lib.hid (one_any x w5 (by omega) x2)
      have hlx := bnd_len x
      have HX : Hid ((⟨(bnd x).toArray⟩ : ByteArray).data.toList = bnd x) := Lib.hid rfl
      have hsx : (⟨(bnd x).toArray⟩ : ByteArray).size ≤ 2 := by rw [Lib.size_eq]; exact hlx
      generalize (⟨(bnd x).toArray⟩ : ByteArray) = BX at *
      obtain ⟨Y1, hY1, hz1, hadd1⟩ := cat B BX (by omega)
      have HY1 := Lib.hid hY1
      clear hY1
      rcases (by omega : (¬ x < y ∧ ¬ x + 1 < y) ∨ (x < y ∧ ¬ x + 1 < y) ∨ (x < y ∧ x + 1 < y)) with ⟨d1, d2⟩ | ⟨d1, d2⟩ | ⟨d1, d2⟩
      · have HT2 : Hid (Y1.data.toList = B0.data.toList ++ (rxs.take (k + 1)).flatMap rgTxt) := Lib.hid (by rw [HT.out, HY1.out, HX.out]; unfold rgTxt; rw [if_neg d2, if_neg d1]; simp)
        have hs1 : Y1.size ≤ 2 + (k + 1) * 5 := by omega
        clear HT hz1 HX HY1
        go_wp2_with fail
        refine HC.out.mono ?_
        rintro e w6 ⟨rfl, hb6⟩
        clear q0 q1 q2
        obtain ⟨q0, q1, q2⟩ := (HX5.out.under hb6).pair
        go_wp2_with fail
        go_roundg g
        case measure => omega
        case rel => exact ⟨k + 1, Y1, by omega, by go_num, rfl, bTrans hb5 hb6, hs1, HT2⟩
      · have HC2 := Lib.hid (fun W => one_any y W (by omega) y2)
        have hly := bnd_len y
        have HYy : Hid ((⟨(bnd y).toArray⟩ : ByteArray).data.toList = bnd y) := Lib.hid rfl
        have hsy : (⟨(bnd y).toArray⟩ : ByteArray).size ≤ 2 := by rw [Lib.size_eq]; exact hly
        generalize (⟨(bnd y).toArray⟩ : ByteArray) = BY at *
        obtain ⟨Y2, hY2, hz2, hadd2⟩ := cat Y1 BY (by omega)
        have HT2 : Hid (Y2.data.toList = B0.data.toList ++ (rxs.take (k + 1)).flatMap rgTxt) := Lib.hid (by rw [HT.out, hY2, HY1.out, HX.out, HYy.out]; unfold rgTxt; rw [if_neg d2, if_pos d1]; simp)
        have hs1 : Y2.size ≤ 2 + (k + 1) * 5 := by omega
        clear HT hz1 hz2 HX HY1 hY2 HYy
        go_wp2_with fail
        refine HC.out.mono ?_
        rintro e w6 ⟨rfl, hb6⟩
        clear q0 q1 q2
        obtain ⟨q0, q1, q2⟩ := (HX5.out.under hb6).pair
        go_wp2_with fail
        refine (HC2.out _).mono ?_
        rintro e w7 ⟨rfl, hb7⟩
        clear q0 q1 q2
        go_wp2_with fail
        go_roundg g
        case measure => omega
        case rel => exact ⟨k + 1, Y2, by omega, by go_num, rfl, bTrans hb5 (bTrans hb6 hb7), hs1, HT2⟩
      · have HC2 := Lib.hid (fun W => one_any y W (by omega) y2)
        have hly := bnd_len y
        have HYy : Hid ((⟨(bnd y).toArray⟩ : ByteArray).data.toList = bnd y) := Lib.hid rfl
        have hsy : (⟨(bnd y).toArray⟩ : ByteArray).size ≤ 2 := by rw [Lib.size_eq]; exact hly
        generalize (⟨(bnd y).toArray⟩ : ByteArray) = BY at *
        obtain ⟨Y3, hY3, hz3, hadd3⟩ := cat Y1 ⟨#[45]⟩ (by show _ + 1 ≤ _; omega)
        have hz3 : Y3.size = Y1.size + 1 := hz3
        have hY3 : Y3.data.toList = Y1.data.toList ++ [45] := hY3
        obtain ⟨Y2, hY2, hz2, hadd2⟩ := cat Y3 BY (by omega)
        have HT2 : Hid (Y2.data.toList = B0.data.toList ++ (rxs.take (k + 1)).flatMap rgTxt) := Lib.hid (by rw [HT.out, hY2, hY3, HY1.out, HX.out, HYy.out]; unfold rgTxt; rw [if_pos d2, if_pos d1]; simp)
        have hs1 : Y2.size ≤ 2 + (k + 1) * 5 := by omega
        clear HT hz1 hz2 hz3 HX HY1 hY2 hY3 HYy
        go_wp2_with fail
        refine HC.out.mono ?_
        rintro e w6 ⟨rfl, hb6⟩
        clear q0 q1 q2
        obtain ⟨q0, q1, q2⟩ := (HX5.out.under hb6).pair
        go_wp2_with fail
        refine (HC2.out _).mono ?_
        rintro e w7 ⟨rfl, hb7⟩
        clear q0 q1 q2
        go_wp2_with fail
        go_roundg g
        case measure => omega
        case rel => exact ⟨k + 1, Y2, by omega, by go_num, rfl, bTrans hb5 (bTrans hb6 hb7), hs1, HT2⟩
    · obtain rfl : k = rxs.length := by omega
      obtain ⟨Y3, hY3, hz3, hadd3⟩ := cat B ⟨#[93]⟩ (by show _ + 1 ≤ _; omega)
      have HF : Hid (Y3 = ⟨OUT.toArray⟩) := Lib.hid (by
        apply ByteArray.ext
        apply Array.toList_inj.1
        rw [hY3, HO.out, HB.out, List.take_of_length_le (Nat.le_refl _)])
      clear hY3 hz3
      go_wp2_with fail
      go_ret
      exact ⟨ret_strv HF.out, bTrans hb0 hb⟩
end Go.Proofs.YtnpcbcnclncniaaGreatDoor
