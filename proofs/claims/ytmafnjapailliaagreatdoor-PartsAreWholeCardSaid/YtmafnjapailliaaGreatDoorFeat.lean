/-
  The reference's CheckFeatures, walked.
-/
import Derived.Test.YtmafnjapailliaaGreatDoorBytes
import Derived.Test.YtmafnjapailliaaGreatDoorPlainFeat
import Derived.Deep.DeepCutAuto
namespace Go.Proofs.YtmafnjapailliaaGreatDoor
open Go.RowKit

/-- Features as a value. -/
def featVal (f : Wh.Feat) : Value := .agg #[.int .i64 f.has, .int .i64 f.sums, .int .i64 f.prec, .int .i64 f.maxName, .int .i64 f.maxPath, .int .i64 f.maxSize, .int .i64 f.page, .int .i64 f.partSize, .string f.forbid]

/-- Features that came in: what is known of their parts. -/
structure FeatOk (f : Wh.Feat) : Prop where
  sums : -9223372036854775808 ≤ f.sums ∧ f.sums ≤ 9223372036854775807
  forbid : f.forbid.size ≤ 9223372036854775807

/-- A block that holds features. -/
def FeatBox (w : World) (b : Nat) (f : Wh.Feat) : Prop :=
  b < w.heap.size ∧ w.cell? ⟨b, 0, none⟩ = some (.int .i64 f.has) ∧ w.cell? ⟨b, 1, none⟩ = some (.int .i64 f.sums) ∧ w.cell? ⟨b, 2, none⟩ = some (.int .i64 f.prec) ∧ w.cell? ⟨b, 3, none⟩ = some (.int .i64 f.maxName) ∧
    w.cell? ⟨b, 4, none⟩ = some (.int .i64 f.maxPath) ∧ w.cell? ⟨b, 5, none⟩ = some (.int .i64 f.maxSize) ∧ w.cell? ⟨b, 6, none⟩ = some (.int .i64 f.page) ∧ w.cell? ⟨b, 7, none⟩ = some (.int .i64 f.partSize) ∧ w.cell? ⟨b, 8, none⟩ = some (.string f.forbid)

theorem FeatBox.under {w w' : World} {b : Nat} {f : Wh.Feat} (h : FeatBox w b f) (hb : Below w.heap.size w w') : FeatBox w' b f := by
  obtain ⟨h0, h1, h2, h3, h4, h5, h6, h7, h8, h9⟩ := h
  have hc := fun j => hb.cell (p := ⟨b, j, none⟩) h0
  exact ⟨Nat.lt_of_lt_of_le h0 hb.size, (hc 0).trans h1, (hc 1).trans h2, (hc 2).trans h3, (hc 3).trans h4, (hc 4).trans h5, (hc 5).trans h6, (hc 6).trans h7, (hc 7).trans h8, (hc 8).trans h9⟩

/-- The block itself. -/
abbrev featObj (f : Wh.Feat) : Obj := .cells #[.int .i64 f.has, .int .i64 f.sums, .int .i64 f.prec, .int .i64 f.maxName, .int .i64 f.maxPath, .int .i64 f.maxSize, .int .i64 f.page, .int .i64 f.partSize, .string f.forbid] 23

theorem featBox_new (w : World) (f : Wh.Feat) : FeatBox (w.alloc (featObj f)) w.heap.size f := by
  refine ⟨by simp, ?_, ?_, ?_, ?_, ?_, ?_, ?_, ?_, ?_⟩ <;> (rw [World.cell?_alloc_at _ _ _ _ rfl]; rfl)

theorem enters_refFeat1 : ∀ args w, (callFunc 73 args).run Tryz.prog w = .ok (.enter 73 args) w := enters_of Tryz.func73 (by kernel_rfl) rfl

set_option maxHeartbeats 1000000 in
theorem refFeat1_any (n lo hi : Int) (w : World) :
    Calls Tryz.prog 73 #[.int .i64 n, .int .i64 lo, .int .i64 hi] w fun e w' => e = .returned (.bool (Wh.inB n lo hi)) ∧ w' = w := by
  have hI : Wh.inB n lo hi = (decide (lo ≤ n) && decide (n ≤ hi)) := rfl
  have HI := Lib.hid hI
  clear hI
  by_cases h1 : lo ≤ n
  · go_enter Tryz.func73, Tryz.ntmps73
    go_wp2
    go_ret
    exact ⟨ret_bool (by rw [HI.out]; simp [h1]), rfl⟩
  · go_enter Tryz.func73, Tryz.ntmps73
    go_wp2
    go_ret
    exact ⟨ret_bool (by rw [HI.out]; simp; omega), rfl⟩

theorem bne_flip (a b : Int) : (a == b) = !(a != b) := by simp [bne]

set_option maxHeartbeats 4000000 in
set_option maxRecDepth 100000 in
theorem refCheckFeat_any (f : Wh.Feat) (hf : FeatOk f) (a : Nat) (off c : Nat) (w : World) (ha : a < w.heap.size) (hH : ∀ (j : Nat) (n : Int), [1, 2, 3, 4, 5][j]? = some n → w.cell? ⟨a, off + j, none⟩ = some (.int .i64 n)) :
    Calls Tryz.prog 21 #[featVal f, .slice (some ⟨a, off, none⟩) 5 c] w fun e w' => e = .returned (.int .i64 (Wh.featErr f)) ∧ Below w.heap.size w w' := by
  have hb1 : Below w.heap.size w (w.alloc (featObj f)) := bAlloc (Below.refl _ _) _
  have HB := Lib.hid (featBox_new w f)
  have hE : Wh.featErr f = if Wh.hasBad f || !Wh.formP Wh.okF f.forbid.data.toList then 6 else if Wh.sumsBad f then 5 else if Wh.rangeOk f then 0 else 7 := rfl
  have HE := Lib.hid hE
  have HSn := Lib.hid (fun h => Wh.sumsBad_neg (f := f) hf.sums.1 hf.sums.2 h)
  have hfs := hf.forbid
  have hcs : ∀ (j : Nat) (n : Int), [1, 2, 3, 4, 5][j]? = some n → (w.alloc (featObj f)).cell? ⟨a, off + j, none⟩ = some (.int .i64 n) := fun j n hn => (hb1.cell (p := ⟨a, off + j, none⟩) ha).trans (hH j n hn)
  have HC := Lib.hid hcs
  clear hE hf hH hcs
  generalize Wh.featErr f = E at *
  unfold featVal
  go_enter Tryz.func21, Tryz.ntmps21
  go_upto_region 1 with fail
  unfold featObj at *
  generalize w.alloc (.cells #[.int .i64 f.has, .int .i64 f.sums, .int .i64 f.prec, .int .i64 f.maxName, .int .i64 f.maxPath, .int .i64 f.maxSize, .int .i64 f.page, .int .i64 f.partSize, .string f.forbid] 23) = w1 at *
  obtain ⟨k0, k1, k2, k3, k4, k5, k6, k7, k8, k9⟩ := HB.out
  go_cut [42] (fun s42 wx => s42 = .bool (Wh.hasBad f) ∧ wx = w1)
  case first =>
    have hq : Wh.hasBad f = (decide (f.has < 0) || decide (4095 < f.has) || (Wh.hasB f 8 && !Wh.hasB f 4) || (Wh.hasB f 2048 && !Wh.hasB f 64)) := rfl
    have q8 : (bits BinOp.and IntKind.i64 f.has 8 != 0) = Wh.hasB f 8 := rfl
    have q4 : (bits BinOp.and IntKind.i64 f.has 4 == 0) = !Wh.hasB f 4 := bne_flip _ _
    have q20 : (bits BinOp.and IntKind.i64 f.has 2048 != 0) = Wh.hasB f 2048 := rfl
    have q64 : (bits BinOp.and IntKind.i64 f.has 64 == 0) = !Wh.hasB f 64 := bne_flip _ _
    generalize Wh.hasBad f = B at *
    generalize Wh.hasB f 8 = b8 at *
    generalize Wh.hasB f 4 = b4 at *
    generalize Wh.hasB f 2048 = b20 at *
    generalize Wh.hasB f 64 = b64 at *
    have HQ := Lib.hid hq
    clear hq
    by_cases c1 : f.has < 0
    · go_wp2_with fail
      go_meet
      exact ⟨by rw [HQ.out]; simp [c1], rfl⟩
    · by_cases c2 : 4095 < f.has
      · go_wp2_with fail
        go_meet
        exact ⟨by rw [HQ.out]; simp [c2], rfl⟩
      · have d1 : decide (f.has < 0) = false := by simpa using c1
        have d2 : decide (4095 < f.has) = false := by simpa using c2
        cases b8 <;> cases b4 <;> cases b20 <;> cases b64
        all_goals
          go_wp2_with fail
          go_meet
          exact ⟨by rw [HQ.out, d1, d2]; rfl, rfl⟩
  case rest =>
    obtain ⟨rfl, rfl⟩ := hcut
    cases hhb : Wh.hasBad f
    case true =>
      have HF : Hid (E = 6) := Lib.hid (by rw [HE.out, hhb]; rfl)
      clear hhb
      go_wp2_with fail
      go_ret
      exact ⟨ret_int HF.out.symm, hb1⟩
    case false =>
      rw [hhb] at HE
      clear hhb
      rw [Bool.false_or] at HE
      clear k1 k2 k3 k4 k5 k6 k7 k8
      go_wp2_with fail
      go_loopg [46] f.forbid.size (fun g s46 wx => ∃ k : Nat, k + g = f.forbid.size ∧ s46 = .int .i64 k ∧ wx = wc ∧ Hid (Wh.formP Wh.okF (f.forbid.data.toList.drop k) = Wh.formP Wh.okF f.forbid.data.toList))
      case atStart => exact ⟨0, by omega, rfl, rfl, Lib.hid rfl⟩
      case round =>
        obtain ⟨k, hk, rfl, hw, HFm⟩ := hrel
        subst wr
        by_cases hlt : k < f.forbid.size
        · obtain ⟨g, rfl⟩ : ∃ g, gk = g + 1 := ⟨gk - 1, by omega⟩
          obtain ⟨x, hx⟩ : ∃ x : UInt8, f.forbid[k]'hlt = x := ⟨_, rfl⟩
          have hxl : f.forbid.data.toList[k]? = some x := by rw [← hx]; exact Lib.data_getElem? f.forbid k hlt
          have hx8 := x.toNat_lt
          have ex : (f.forbid.extract (k + 1) f.forbid.size).data.toList = f.forbid.data.toList.drop (k + 1) := Lib.extract_to_end f.forbid (k + 1)
          have hback : ((x.toNat : Int)).toNat.toUInt8 = x := by simp
          have hB := fun W => Tryz.strings_IndexByte (f.forbid.extract (k + 1) f.forbid.size) x.toNat W
          rw [ex, hback] at hB
          have hcon := Lib.contains_iff_indexByte (f.forbid.data.toList.drop (k + 1)) x
          have hL := fun W => alnum_any x W
          have hdr := Wh.formP_drop (p := Wh.okF) hxl
          rw [hdr] at HFm
          have hok : Wh.okF x = !(x == 47 || (Wh.digit x || Wh.letter x) || decide (128 ≤ x.toNat)) := rfl
          rw [hok] at HFm
          have e47 := Wh.byte_is x 47 47 rfl
          clear hdr hok ex hxl hback
          generalize Lib.indexByte (f.forbid.data.toList.drop (k + 1)) x = v at *
          generalize (f.forbid.data.toList.drop (k + 1)).contains x = bc at *
          generalize (Wh.digit x || Wh.letter x) = ba at *
          have HB2 := Lib.hid hB
          have HL := Lib.hid hL
          clear hB hL
          have HBad : Hid (Wh.formP Wh.okF f.forbid.data.toList = false → E = 6) := Lib.hid (fun h => by rw [HE.out, h]; rfl)
          cases c1 : (x == 47)
          · rw [c1] at e47 HFm
            cases ba
            · by_cases c2 : 128 ≤ x.toNat
              · have hd : decide (128 ≤ x.toNat) = true := by simpa using c2
                rw [hd] at HFm
                have HK := Lib.hid (HBad.out (by rw [← HFm.out]; simp))
                clear hd
                go_wp2_with (first | (go_at_call 72; refine (HB2.out _).mono ?_; rintro e w' ⟨rfl, rfl⟩) | (go_at_call 71; refine (HL.out _).mono ?_; rintro e w' ⟨rfl, rfl⟩))
                go_ret
                exact ⟨ret_int HK.out.symm, hb1⟩
              · have hd : decide (128 ≤ x.toNat) = false := by simpa using c2
                rw [hd] at HFm
                clear hd
                cases bc
                · have hv : ¬ 0 ≤ v := of_decide_eq_false hcon.symm
                  clear hcon
                  have HF2 : Hid (Wh.formP Wh.okF (f.forbid.data.toList.drop (k + 1)) = Wh.formP Wh.okF f.forbid.data.toList) := Lib.hid (by rw [← HFm.out]; simp)
                  go_wp2_with (first | (go_at_call 72; refine (HB2.out _).mono ?_; rintro e w' ⟨rfl, hw'⟩; subst w') | (go_at_call 71; refine (HL.out _).mono ?_; rintro e w' ⟨rfl, hw'⟩; subst w'))
                  go_roundg g
                  case measure => omega
                  case rel => exact ⟨k + 1, by omega, by go_num, rfl, HF2⟩
                · have hv : 0 ≤ v := of_decide_eq_true hcon.symm
                  have HK := Lib.hid (HBad.out (by rw [← HFm.out]; simp))
                  clear hcon
                  go_wp2_with (first | (go_at_call 72; refine (HB2.out _).mono ?_; rintro e w' ⟨rfl, rfl⟩) | (go_at_call 71; refine (HL.out _).mono ?_; rintro e w' ⟨rfl, rfl⟩))
                  go_ret
                  exact ⟨ret_int HK.out.symm, hb1⟩
            · have HK := Lib.hid (HBad.out (by rw [← HFm.out]; simp))
              clear hcon
              go_wp2_with (first | (go_at_call 72; refine (HB2.out _).mono ?_; rintro e w' ⟨rfl, rfl⟩) | (go_at_call 71; refine (HL.out _).mono ?_; rintro e w' ⟨rfl, rfl⟩))
              go_ret
              exact ⟨ret_int HK.out.symm, hb1⟩
          · rw [c1] at e47 HFm
            have HK := Lib.hid (HBad.out (by rw [← HFm.out]; simp))
            clear hcon
            go_wp2_with fail
            go_ret
            exact ⟨ret_int HK.out.symm, hb1⟩
        · have hfo : Wh.formP Wh.okF f.forbid.data.toList = true := by
            rw [← HFm.out, List.drop_eq_nil_of_le (by rw [← Lib.size_eq]; omega)]
            rfl
          rw [hfo] at HE
          clear hfo HFm
          have c0 := HC.out 0 1 rfl
          have c1 := HC.out 1 2 rfl
          have c2 := HC.out 2 3 rfl
          have c3 := HC.out 3 4 rfl
          have c4 := HC.out 4 5 rfl
          rw [Nat.add_zero] at c0
          have o1 : bits BinOp.or IntKind.i64 0 2 = 2 := by decide
          have o2 : bits BinOp.or IntKind.i64 2 4 = 6 := by decide
          have o3 : bits BinOp.or IntKind.i64 6 8 = 14 := by decide
          have o4 : bits BinOp.or IntKind.i64 14 16 = 30 := by decide
          have o5 : bits BinOp.or IntKind.i64 30 32 = 62 := by decide
          go_wp2_with fail
          refine wp_loop_rounds 6 ?_
          rw [rounds_succ]
          go_wp2_with fail
          rw [rounds_succ]
          go_wp2_with fail
          rw [rounds_succ]
          go_wp2_with fail
          rw [rounds_succ]
          go_wp2_with fail
          rw [rounds_succ]
          go_wp2_with fail
          rw [rounds_succ]
          clear c0 c1 c2 c3 c4 o1 o2 o3 o4 o5
          obtain ⟨k0, k1, k2, k3, k4, k5, k6, k7, k8, k9⟩ := HB.out
          have hsb : (bits BinOp.andNot IntKind.i64 f.sums 62 != 0) = Wh.sumsBad f := rfl
          have hrg : Wh.rangeOk f = (Wh.inB f.prec 1 86400000000000 && Wh.inB f.maxName 1 255 && Wh.inB f.maxPath f.maxName 1024 && Wh.inB f.maxSize 0 1048576 && Wh.inB f.page 1 1000 && Wh.inB f.partSize 1 (max f.maxSize 1)) := rfl
          rw [hrg] at HE
          clear hrg
          by_cases hn : f.sums < 0
          · have HK : Hid (E = 5) := Lib.hid (by rw [HE.out, HSn.out hn]; rfl)
            clear hsb
            go_wp2_with fail
            go_ret
            exact ⟨ret_int HK.out.symm, hb1⟩
          · cases hsbb : Wh.sumsBad f
            · rw [hsbb] at hsb HE
              clear hsbb
              have hen := enters_refFeat1
              cases r1 : Wh.inB f.prec 1 86400000000000
              case false =>
                have HK : Hid (E = 7) := Lib.hid (by rw [HE.out, r1]; rfl)
                go_wp2_with (go_at_call 73; refine (refFeat1_any _ _ _ _).mono ?_; rintro e w' ⟨rfl, hw'⟩; subst w')
                go_ret
                exact ⟨ret_int HK.out.symm, hb1⟩
              cases r2 : Wh.inB f.maxName 1 255
              case false =>
                have HK : Hid (E = 7) := Lib.hid (by rw [HE.out, r1, r2]; rfl)
                go_wp2_with (go_at_call 73; refine (refFeat1_any _ _ _ _).mono ?_; rintro e w' ⟨rfl, hw'⟩; subst w')
                go_ret
                exact ⟨ret_int HK.out.symm, hb1⟩
              cases r3 : Wh.inB f.maxPath f.maxName 1024
              case false =>
                have HK : Hid (E = 7) := Lib.hid (by rw [HE.out, r1, r2, r3]; rfl)
                go_wp2_with (go_at_call 73; refine (refFeat1_any _ _ _ _).mono ?_; rintro e w' ⟨rfl, hw'⟩; subst w')
                go_ret
                exact ⟨ret_int HK.out.symm, hb1⟩
              cases r4 : Wh.inB f.maxSize 0 1048576
              case false =>
                have HK : Hid (E = 7) := Lib.hid (by rw [HE.out, r1, r2, r3, r4]; rfl)
                go_wp2_with (go_at_call 73; refine (refFeat1_any _ _ _ _).mono ?_; rintro e w' ⟨rfl, hw'⟩; subst w')
                go_ret
                exact ⟨ret_int HK.out.symm, hb1⟩
              cases r5 : Wh.inB f.page 1 1000
              case false =>
                have HK : Hid (E = 7) := Lib.hid (by rw [HE.out, r1, r2, r3, r4, r5]; rfl)
                go_wp2_with (go_at_call 73; refine (refFeat1_any _ _ _ _).mono ?_; rintro e w' ⟨rfl, hw'⟩; subst w')
                go_ret
                exact ⟨ret_int HK.out.symm, hb1⟩
              cases r6 : Wh.inB f.partSize 1 (max f.maxSize 1)
              case false =>
                have HK : Hid (E = 7) := Lib.hid (by rw [HE.out, r1, r2, r3, r4, r5, r6]; rfl)
                go_wp2_with (go_at_call 73; refine (refFeat1_any _ _ _ _).mono ?_; rintro e w' ⟨rfl, hw'⟩; subst w')
                go_ret
                exact ⟨ret_int HK.out.symm, hb1⟩
              have HK : Hid (E = 0) := Lib.hid (by rw [HE.out, r1, r2, r3, r4, r5, r6]; rfl)
              go_wp2_with (go_at_call 73; refine (refFeat1_any _ _ _ _).mono ?_; rintro e w' ⟨rfl, hw'⟩; subst w')
              go_ret
              exact ⟨ret_int HK.out.symm, hb1⟩
            · rw [hsbb] at hsb HE
              have HK : Hid (E = 5) := Lib.hid (by rw [HE.out]; rfl)
              clear hsbb
              go_wp2_with fail
              go_ret
              exact ⟨ret_int HK.out.symm, hb1⟩
end Go.Proofs.YtmafnjapailliaaGreatDoor
