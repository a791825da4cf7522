/-
  both.PrintDeal.
-/
import Derived.Test.YtjcpcmiijadmcaaDoorDeal2
import Derived.Test.YtjcpcmiijadmcaaDoorDeal4
import Derived.Test.YtjcpcmiijadmcaaDoorSeqApp
import Derived.Test.YtjcpcmiijadmcaaDoorRows2
import Derived.Test.YtjcpcmiijadmcaaDoorDeal3
namespace Go.Proofs.YtjcpcmiijadmcaaDoor
open Go.RowKit

/-- What PrintDeal returns. -/
def DealPost (d : Wh.Deal) (w : World) (e : Ending) (w' : World) : Prop := e = .returned (.tuple #[.string ⟨(Wh.dealText d).toArray⟩, .int .i64 (Wh.dealErr d)]) ∧ Below w.heap.size w w'

theorem own2_drew (w : World) (o : Obj) (a b : Value) : Own 9 w ((w.alloc o).alloc (.cells #[a, b] 9)).drew (some ⟨w.heap.size + 1, 0, none⟩) 2 2 [a, b] := by
  have h := Own.fresh 9 (bAlloc (Below.refl w.heap.size w) o) [a, b] (by simp)
  have e : (w.alloc o).heap.size = w.heap.size + 1 := by simp
  rw [e] at h
  exact h.drew

/-- The words of the kinds of acts. -/
def WordBox (w : World) (b : Nat) : Prop := b < w.heap.size ∧ w.cell? ⟨b, 1, none⟩ = some (.string ⟨#[112, 117, 116]⟩) ∧ w.cell? ⟨b, 2, none⟩ = some (.string ⟨#[107, 101, 101, 112]⟩) ∧ w.cell? ⟨b, 3, none⟩ = some (.string ⟨#[114, 101, 109, 111, 118, 101]⟩) ∧ w.cell? ⟨b, 4, none⟩ = some (.string ⟨#[99, 108, 101, 97, 114]⟩)
theorem WordBox.under {w w' : World} {b : Nat} (h : WordBox w b) (hb : Below w.heap.size w w') : WordBox w' b := by
  obtain ⟨h0, h1, h2, h3, h4⟩ := h
  exact ⟨Nat.lt_of_lt_of_le h0 hb.size, (hb.cell (p := ⟨b, 1, none⟩) h0).trans h1, (hb.cell (p := ⟨b, 2, none⟩) h0).trans h2, (hb.cell (p := ⟨b, 3, none⟩) h0).trans h3, (hb.cell (p := ⟨b, 4, none⟩) h0).trans h4⟩
theorem wordBox_new (w : World) (t : TypeId) : WordBox (w.alloc (.cells #[.string ⟨#[]⟩, .string ⟨#[112, 117, 116]⟩, .string ⟨#[107, 101, 101, 112]⟩, .string ⟨#[114, 101, 109, 111, 118, 101]⟩, .string ⟨#[99, 108, 101, 97, 114]⟩] t)) w.heap.size := by
  refine ⟨by simp, ?_, ?_, ?_, ?_⟩ <;> (rw [World.cell?_alloc_at _ _ _ _ rfl]; rfl)

set_option maxHeartbeats 4000000 in
set_option maxRecDepth 100000 in
theorem printDeal_any (x : DealAt) (w : World) (hE : Env w) (hT : EnvT w) (hD : DealOk x w) (hN : x.d.nums) :
    Calls Tryd.prog 11 #[dealVal x] w (DealPost x.d w) := by
  have HC := Lib.hid (fun W (hb : Below w.heap.size w W) => checkDeal_any x W (hE.under hb) (hD.under hb))
  have HB1 := Lib.hid (dealBox_new w x 26)
  have HD := Lib.hid hD
  have HT := Lib.hid hT
  have HN := Lib.hid hN
  clear hE hD hT hN
  obtain ⟨d, a1, a2, a3, a4, c1, c2, c3, c4⟩ := x
  simp only [] at *
  by_cases h0 : Wh.dealErr d = 0
  case neg =>
    have HP : Hid (∀ w', Below w.heap.size w w' → DealPost d w (.returned (.tuple #[.string ⟨#[]⟩, .int .i64 (Wh.dealErr d)])) w') := Lib.hid (fun w' hb => ⟨by rw [Wh.dealText, if_neg h0], hb⟩)
    have q : (Wh.dealErr d != 0) = true := by simp [h0]
    clear h0 HD HT HN HB1
    generalize Wh.dealErr d = E at *
    go_enter Tryd.func11, Tryd.ntmps11
    go_wp2_with fail
    refine (HC.out _ (bAlloc (Below.refl _ _) _)).mono ?_
    rintro e w' ⟨rfl, hb2⟩
    go_wp2_with fail
    go_ret2
    exact HP.out _ (bTrans (bAlloc (Below.refl _ _) _) hb2)
  case pos =>
    obtain ⟨hbig, hacts, hpaths⟩ := Wh.dealErr_zero h0
    have b1 : ¬ 20000 < d.acts.length := fun h => hbig (.inl h)
    have b2 : ¬ 5000 < d.refused.length := fun h => hbig (.inr (.inl h))
    have b3 : ¬ 5000 < d.equal.length := fun h => hbig (.inr (.inr (.inl h)))
    have b4 : ¬ 5000 < d.conf.length := fun h => hbig (.inr (.inr (.inr h)))
    have HP : Hid (∀ w', Below w.heap.size w w' → DealPost d w (.returned (.tuple #[.string ⟨(Wh.linesText (Wh.dealLines d)).toArray⟩, .int .i64 0])) w') := Lib.hid (fun w' hb => ⟨by rw [Wh.dealText, if_pos h0, h0], hb⟩)
    have HA := Lib.hid hacts
    have HPa := Lib.hid hpaths
    rw [h0] at HC
    clear hbig hacts hpaths h0
    go_enter Tryd.func11, Tryd.ntmps11
    go_wp2_with fail
    have hb1 := bAlloc (Below.refl w.heap.size w) (.cells #[.slice a1 d.acts.length c1, .slice a2 d.refused.length c2, .slice a3 d.equal.length c3, .slice a4 d.conf.length c4] 26)
    refine (HC.out _ hb1).mono ?_
    rintro e w1 ⟨rfl, hb2⟩
    have HB2 := Lib.hid (HB1.out.under hb2)
    have hb3 := bTrans hb1 hb2
    clear HB1 HC hb1 hb2
    go_upto_region 7 with fail
    have HWB := Lib.hid (wordBox_new w1 75)
    have hb4 : Below w1.heap.size w1 (w1.alloc (.cells #[.string ⟨#[]⟩, .string ⟨#[112, 117, 116]⟩, .string ⟨#[107, 101, 101, 112]⟩, .string ⟨#[114, 101, 109, 111, 118, 101]⟩, .string ⟨#[99, 108, 101, 97, 114]⟩] 75)) := bAlloc (Below.refl _ _) _
    have hsz : w1.heap.size + 1 = (w1.alloc (.cells #[.string ⟨#[]⟩, .string ⟨#[112, 117, 116]⟩, .string ⟨#[107, 101, 101, 112]⟩, .string ⟨#[114, 101, 109, 111, 118, 101]⟩, .string ⟨#[99, 108, 101, 97, 114]⟩] 75)).heap.size := by simp
    rw [hsz]
    clear hsz
    generalize (w1.alloc _) = w2 at *
    have HB3 := Lib.hid (HB2.out.under hb4)
    have hb5 := bTrans hb3 hb4
    have HBl := Lib.hid (Bld.fresh w2)
    clear HB2 hb3 hb4
    generalize w2.alloc (.cells #[.pointer none, .slice none 0 0] 78) = w4 at *
    obtain ⟨k0, k1, k2, k3, k4⟩ := HB3.out.under HBl.out.below
    go_wp2_with fail
    go_loopg [27] d.acts.length (fun g i wx => ∃ k : Nat, k + g = d.acts.length ∧ i = .int .i64 k ∧ Hid (Bld w2 w2.heap.size (Wh.linesText ((d.acts.take k).map Wh.actWords)) wx))
    case atStart => exact ⟨0, by omega, rfl, HBl⟩
    case round =>
      clear HBl k0 k1 k2 k3 k4
      obtain ⟨k, hk, rfl, HBl⟩ := hrel
      obtain ⟨k0, k1, k2, k3, k4⟩ := HB3.out.under HBl.out.below
      by_cases hlt : k < d.acts.length
      · obtain ⟨g, rfl⟩ : ∃ g, gk = g + 1 := ⟨gk - 1, by omega⟩
        obtain ⟨y, hx⟩ : ∃ y, d.acts[k]? = some y := ⟨_, List.getElem?_eq_getElem hlt⟩
        obtain ⟨ba, off, ha, hba, r0, r1, r2, r3, r4, r5⟩ := actRow (HD.out.acts.under (bTrans hb5 HBl.out.below)) hx
        have hmem := List.mem_of_getElem? hx
        have HAz := Lib.hid (HA.out y hmem)
        have HAn := Lib.hid (HN.out.acts y hmem)
        have HSt := Lib.hid (Wh.linesText_step (f := Wh.actWords) hx)
        have HX := Lib.hid (actBox_new wr y.kind y.side y.frm y.to y.size y.time 69)
        have hbx : Below wr.heap.size wr (wr.alloc (.cells #[.int .i64 y.kind, .int .i64 y.side, .string y.frm, .string y.to, .int .i64 y.size, .int .i64 y.time] 69)) := bAlloc (Below.refl _ _) _
        subst ha
        clear hx hmem
        go_upto_region 10 with fail
        generalize wr.alloc _ = w3 at *
        clear r0 r1 r2 r3 r4 r5 k0 k1 k2 k3 k4
        go_upto_region 11 with fail
        have HWx := Lib.hid (HWB.out.under (bTrans HBl.out.below hbx))
        obtain ⟨kind, side, frm, dst, size, time⟩ := y
        simp only [] at *
        obtain ⟨hkk, hss, hf, ht⟩ := Wh.actErr_zero HAz.out
        simp only [] at hkk hss hf ht
        go_cut [10] (fun s10 wx => ∃ g, s10 = .slice (some ⟨g, 0, none⟩) 2 2 ∧ Hid (Own 9 w3 wx (some ⟨g, 0, none⟩) 2 2 [.string (Wh.wordK kind), .string (Wh.wordS side)]))
        case first =>
          clear HBl HB3 hb5
          rcases hkk with rfl | rfl | rfl | rfl <;> rcases hss with rfl | rfl
          all_goals
            refine wp_region_seq (Below w3.heap.size w3) [(0, true), (1, true), (2, true), (3, true), (5, true), (6, true), (7, true), (4, false), (8, false), (9, false), (10, false), (11, true)] (by as_aux_lemma => kernel_rfl) (by as_aux_lemma => kernel_rfl) (by decide) (by as_aux_lemma => kernel_rfl) (Below.refl _ _).drew ?_
            intro OPS HO
            refine seq_take (o := ⟨_, _, _, _, _, _⟩) (v := ?_) (by rw [HO.out]; rfl) (by rfl) ?_ ?_
            rotate_left 1
            · first | ((intro W _; go_simp) <;> with_reducible rfl) | (intro W hW; obtain ⟨p0, p1, p2, p3, p4, p5, p6⟩ := HX.out.under hW; obtain ⟨q0, q1, q2, q3, q4⟩ := HWx.out.under hW; (go_simp <;> with_reducible rfl))
            try simp only [Act.put, List.setIfInBounds_toArray, List.set_cons_zero, List.set_cons_succ]
            refine seq_take (o := ⟨_, _, _, _, _, _⟩) (v := ?_) (by rw [HO.out]; rfl) (by rfl) ?_ ?_
            rotate_left 1
            · first | ((intro W _; go_simp) <;> with_reducible rfl) | (intro W hW; obtain ⟨p0, p1, p2, p3, p4, p5, p6⟩ := HX.out.under hW; obtain ⟨q0, q1, q2, q3, q4⟩ := HWx.out.under hW; (go_simp <;> with_reducible rfl))
            try simp only [Act.put, List.setIfInBounds_toArray, List.set_cons_zero, List.set_cons_succ]
            refine seq_take (o := ⟨_, _, _, _, _, _⟩) (v := ?_) (by rw [HO.out]; rfl) (by rfl) ?_ ?_
            rotate_left 1
            · first | ((intro W _; go_simp) <;> with_reducible rfl) | (intro W hW; obtain ⟨p0, p1, p2, p3, p4, p5, p6⟩ := HX.out.under hW; obtain ⟨q0, q1, q2, q3, q4⟩ := HWx.out.under hW; (go_simp <;> with_reducible rfl))
            try simp only [Act.put, List.setIfInBounds_toArray, List.set_cons_zero, List.set_cons_succ]
            refine seq_take (o := ⟨_, _, _, _, _, _⟩) (v := ?_) (by rw [HO.out]; rfl) (by rfl) ?_ ?_
            rotate_left 1
            · first | ((intro W _; go_simp) <;> with_reducible rfl) | (intro W hW; obtain ⟨p0, p1, p2, p3, p4, p5, p6⟩ := HX.out.under hW; obtain ⟨q0, q1, q2, q3, q4⟩ := HWx.out.under hW; (go_simp <;> with_reducible rfl))
            try simp only [Act.put, List.setIfInBounds_toArray, List.set_cons_zero, List.set_cons_succ]
            refine seq_take (o := ⟨_, _, _, _, _, _⟩) (v := ?_) (by rw [HO.out]; rfl) (by rfl) ?_ ?_
            rotate_left 1
            · first | ((intro W _; go_simp) <;> with_reducible rfl) | (intro W hW; obtain ⟨p0, p1, p2, p3, p4, p5, p6⟩ := HX.out.under hW; obtain ⟨q0, q1, q2, q3, q4⟩ := HWx.out.under hW; (go_simp <;> with_reducible rfl))
            try simp only [Act.put, List.setIfInBounds_toArray, List.set_cons_zero, List.set_cons_succ]
            refine seq_take (o := ⟨_, _, _, _, _, _⟩) (v := ?_) (by rw [HO.out]; rfl) (by rfl) ?_ ?_
            rotate_left 1
            · first | ((intro W _; go_simp) <;> with_reducible rfl) | (intro W hW; obtain ⟨p0, p1, p2, p3, p4, p5, p6⟩ := HX.out.under hW; obtain ⟨q0, q1, q2, q3, q4⟩ := HWx.out.under hW; (go_simp <;> with_reducible rfl))
            try simp only [Act.put, List.setIfInBounds_toArray, List.set_cons_zero, List.set_cons_succ]
            refine seq_take (o := ⟨_, _, _, _, _, _⟩) (v := ?_) (by rw [HO.out]; rfl) (by rfl) ?_ ?_
            rotate_left 1
            · first | ((intro W _; go_simp) <;> with_reducible rfl) | (intro W hW; obtain ⟨p0, p1, p2, p3, p4, p5, p6⟩ := HX.out.under hW; obtain ⟨q0, q1, q2, q3, q4⟩ := HWx.out.under hW; (go_simp <;> with_reducible rfl))
            try simp only [Act.put, List.setIfInBounds_toArray, List.set_cons_zero, List.set_cons_succ]
            refine seq_do (o := ⟨_, _, _, _, _, _⟩) (by rw [HO.out]; rfl) (by rfl) (fun K hK => ?_)
            go_wp2_with fail
            have hS : Below w3.heap.size w3 (w3.drew.alloc (.cells #[.string ⟨#[65]⟩, .string ⟨#[66]⟩] 9)) := bAlloc ((Below.refl _ _).drew) _
            refine hK.out _ _ hS (fun _ => ?_)
            clear hK K
            try simp only [Act.put, List.setIfInBounds_toArray, List.set_cons_zero, List.set_cons_succ]
            refine seq_do (o := ⟨_, _, _, _, _, _⟩) (by rw [HO.out]; rfl) (by rfl) (fun K hK => ?_)
            go_wp2_with fail
            refine hK.out _ _ hS (fun _ => ?_)
            clear hK K
            try simp only [Act.put, List.setIfInBounds_toArray, List.set_cons_zero, List.set_cons_succ]
            refine seq_do (o := ⟨_, _, _, _, _, _⟩) (by rw [HO.out]; rfl) (by rfl) (fun K hK => ?_)
            go_wp2_with fail
            refine hK.out _ _ hS (fun _ => ?_)
            clear hK K
            try simp only [Act.put, List.setIfInBounds_toArray, List.set_cons_zero, List.set_cons_succ]
            refine seq_do (o := ⟨_, _, _, _, _, _⟩) (by rw [HO.out]; rfl) (by rfl) (fun K hK => ?_)
            go_wp2_with fail
            refine hK.out _ _ (bAlloc hS _) (fun _ => ?_)
            clear hK K
            try simp only [Act.put, List.setIfInBounds_toArray, List.set_cons_zero, List.set_cons_succ]
            refine seq_take (o := ⟨_, _, _, _, _, _⟩) (v := ?_) (by rw [HO.out]; rfl) (by rfl) ?_ ?_
            rotate_left 1
            · first | ((intro W _; go_simp) <;> with_reducible rfl) | (intro W hW; obtain ⟨p0, p1, p2, p3, p4, p5, p6⟩ := HX.out.under hW; obtain ⟨q0, q1, q2, q3, q4⟩ := HWx.out.under hW; (go_simp <;> with_reducible rfl))
            try simp only [Act.put, List.setIfInBounds_toArray, List.set_cons_zero, List.set_cons_succ]
            refine seq_done ?_
            go_wp2_with fail
            go_meet
            exact ⟨_, rfl, Lib.hid (own2_drew w3 _ _ _)⟩
        case rest =>
          obtain ⟨gg, rfl, HO⟩ := hcut
          have hbc := HO.out.below
          obtain ⟨p0, p1, p2, p3, p4, p5, p6⟩ := HX.out.under hbc
          have HI1 := Lib.hid (fun W (hb : Below wc.heap.size wc W) => itoa_any size W (HT.out.under (bTrans hb5 (bTrans HBl.out.below (bTrans hbx (bTrans hbc hb))))) HAn.out.1.1 HAn.out.1.2)
          have HI2 := Lib.hid (fun W (hb : Below wc.heap.size wc W) => itoa_any time W (HT.out.under (bTrans hb5 (bTrans HBl.out.below (bTrans hbx (bTrans hbc hb))))) HAn.out.2.1 HAn.out.2.2)
          have HQ1 := Lib.hid (fun W => quote_any frm W (by omega))
          have HQ2 := Lib.hid (fun W => quote_any dst W (by omega))
          change Hid (∀ W, Below wc.heap.size wc W → Calls _ _ _ _ fun e w' => e = .returned (.string (Wh.num size)) ∧ _) at HI1
          change Hid (∀ W, Below wc.heap.size wc W → Calls _ _ _ _ fun e w' => e = .returned (.string (Wh.num time)) ∧ _) at HI2
          go_upto_if 44 with fail
          go_cut [10] (fun s10 wx => ∃ (a : Option Addr) (n c : Nat) (ws : List ByteArray), s10 = .slice a n c ∧ n ≤ 4 ∧ Hid (Own 9 w3 wx a n c (ws.map Value.string)) ∧ Hid (ws = [Wh.wordK kind, Wh.wordS side] ++ if kind = 1 then [Wh.num size, Wh.num time] else []))
          case first =>
            cases c1 : (kind == 1)
            · have HC1 : Hid (¬ kind = 1) := Lib.hid (by simpa using c1)
              go_wp2_with fail
              go_meet
              exact ⟨_, 2, 2, [Wh.wordK kind, Wh.wordS side], rfl, by omega, HO, Lib.hid (by rw [if_neg HC1.out]; rfl)⟩
            · have HC1 : Hid (kind = 1) := Lib.hid (by simpa using c1)
              go_wp2_with fail
              refine wp_region_seq (Below w3.heap.size w3) [(0, true), (1, true), (2, true), (4, true), (5, true), (3, false), (6, false), (7, false), (8, false), (9, true)] (by as_aux_lemma => kernel_rfl) (by as_aux_lemma => kernel_rfl) (by decide) (by as_aux_lemma => kernel_rfl) (HO.out.below).drew ?_
              intro OPS HO2
              refine seq_take (o := ⟨_, _, _, _, _, _⟩) (v := ?_) (by rw [HO2.out]; rfl) (by rfl) ?_ ?_
              rotate_left 1
              · first | ((intro W _; go_simp) <;> with_reducible rfl) | (intro W hW; obtain ⟨p0, p1, p2, p3, p4, p5, p6⟩ := HX.out.under hW; (go_simp <;> with_reducible rfl))
              try simp only [Act.put, List.setIfInBounds_toArray, List.set_cons_zero, List.set_cons_succ]
              refine seq_take (o := ⟨_, _, _, _, _, _⟩) (v := ?_) (by rw [HO2.out]; rfl) (by rfl) ?_ ?_
              rotate_left 1
              · first | ((intro W _; go_simp) <;> with_reducible rfl) | (intro W hW; obtain ⟨p0, p1, p2, p3, p4, p5, p6⟩ := HX.out.under hW; (go_simp <;> with_reducible rfl))
              try simp only [Act.put, List.setIfInBounds_toArray, List.set_cons_zero, List.set_cons_succ]
              refine seq_take (o := ⟨_, _, _, _, _, _⟩) (v := ?_) (by rw [HO2.out]; rfl) (by rfl) ?_ ?_
              rotate_left 1
              · first | ((intro W _; go_simp) <;> with_reducible rfl) | (intro W hW; obtain ⟨p0, p1, p2, p3, p4, p5, p6⟩ := HX.out.under hW; (go_simp <;> with_reducible rfl))
              try simp only [Act.put, List.setIfInBounds_toArray, List.set_cons_zero, List.set_cons_succ]
              refine seq_take (o := ⟨_, _, _, _, _, _⟩) (v := ?_) (by rw [HO2.out]; rfl) (by rfl) ?_ ?_
              rotate_left 1
              · first | ((intro W _; go_simp) <;> with_reducible rfl) | (intro W hW; obtain ⟨p0, p1, p2, p3, p4, p5, p6⟩ := HX.out.under hW; (go_simp <;> with_reducible rfl))
              try simp only [Act.put, List.setIfInBounds_toArray, List.set_cons_zero, List.set_cons_succ]
              refine seq_take (o := ⟨_, _, _, _, _, _⟩) (v := ?_) (by rw [HO2.out]; rfl) (by rfl) ?_ ?_
              rotate_left 1
              · first | ((intro W _; go_simp) <;> with_reducible rfl) | (intro W hW; obtain ⟨p0, p1, p2, p3, p4, p5, p6⟩ := HX.out.under hW; (go_simp <;> with_reducible rfl))
              try simp only [Act.put, List.setIfInBounds_toArray, List.set_cons_zero, List.set_cons_succ]
              have hS : Below w3.heap.size w3 wc.drew := (HO.out.below).drew
              have hSc : Below wc.heap.size wc wc.drew := (Below.refl _ _).drew
              refine seq_do (o := ⟨_, _, _, _, _, _⟩) (by rw [HO2.out]; rfl) (by rfl) (fun K hK => ?_)
              go_wp2_with (go_at_call 37; refine (HI1.out _ hSc).mono ?_; rintro e w5 ⟨rfl, hb5⟩; replace hS := bTrans hS hb5; replace hSc := bTrans hSc hb5; clear hb5)
              refine hK.out _ _ hS (fun _ => ?_)
              clear hK K
              try simp only [Act.put, List.setIfInBounds_toArray, List.set_cons_zero, List.set_cons_succ]
              refine seq_do (o := ⟨_, _, _, _, _, _⟩) (by rw [HO2.out]; rfl) (by rfl) (fun K hK => ?_)
              go_wp2_with (go_at_call 37; refine (HI2.out _ hSc).mono ?_; rintro e w6 ⟨rfl, hb6⟩; replace hS := bTrans hS hb6; replace hSc := bTrans hSc hb6; clear hb6)
              refine hK.out _ _ hS (fun _ => ?_)
              clear hK K
              try simp only [Act.put, List.setIfInBounds_toArray, List.set_cons_zero, List.set_cons_succ]
              refine seq_do (o := ⟨_, _, _, _, _, _⟩) (by rw [HO2.out]; rfl) (by rfl) (fun K hK => ?_)
              go_wp2_with fail
              refine hK.out _ _ (bAlloc hS _) (fun _ => ?_)
              clear hK K
              try simp only [Act.put, List.setIfInBounds_toArray, List.set_cons_zero, List.set_cons_succ]
              refine seq_app (o := ⟨_, _, _, _, _, _⟩) (by rw [HO2.out]; rfl) elem_str (HO.out.under hSc) [.string (Wh.num size), .string (Wh.num time)] 2 rfl (by decide) (by simp [Value.oneCell']) (by omega) (by omega) rfl (.tmp 45) (.tmp 52) rfl rfl rfl (fun _ h => h) ?_
              intro g2 cap2 w7 hO7
              try simp only [Act.put, List.setIfInBounds_toArray, List.set_cons_zero, List.set_cons_succ]
              refine seq_take (o := ⟨_, _, _, _, _, _⟩) (v := ?_) (by rw [HO2.out]; rfl) (by rfl) ?_ ?_
              rotate_left 1
              · first | ((intro W _; go_simp) <;> with_reducible rfl) | (intro W hW; obtain ⟨p0, p1, p2, p3, p4, p5, p6⟩ := HX.out.under hW; (go_simp <;> with_reducible rfl))
              try simp only [Act.put, List.setIfInBounds_toArray, List.set_cons_zero, List.set_cons_succ]
              refine seq_done ?_
              go_wp2_with fail
              go_meet
              exact ⟨_, _, _, [Wh.wordK kind, Wh.wordS side, Wh.num size, Wh.num time], rfl, by omega, Lib.hid hO7, Lib.hid (by rw [if_pos HC1.out]; rfl)⟩
          case rest =>
            obtain ⟨a, n, c, ws, rfl, hn, HOw, HWs⟩ := hcut
            obtain ⟨wa, rfl⟩ : ∃ wa : World, wa = wc := ⟨_, rfl⟩
            clear HI1 HI2 HO p0 p1 p2 p3 p4 p5 p6 hbc
            obtain ⟨p0, p1, p2, p3, p4, p5, p6⟩ := HX.out.under HOw.out.below
            go_upto_region 14 with (first | (go_at_call 38; refine (HQ1.out _).mono ?_; rintro e w8 ⟨rfl, hb8⟩) | (at_builtin; refine wp_app elem_str (HOw.out.under hb8) [.string (Wh.quo frm)] 1 rfl (by decide) (by simp [Value.oneCell']) (by omega) (by omega) rfl (.tmp 54) (.tmp 58) rfl rfl rfl ?_; intro g9 cap9 w9 hO9))
            have HO9 := Lib.hid hO9
            clear hO9 HOw hb8 p0 p1 p2 p3 p4 p5 p6
            obtain ⟨p0, p1, p2, p3, p4, p5, p6⟩ := HX.out.under HO9.out.below
            go_upto_if 62 with fail
            go_cut [10] (fun s10 wx => ∃ (a : Option Addr) (n c : Nat) (vs : List ByteArray), s10 = .slice a n c ∧ n ≤ 6 ∧ Hid (Own 9 w3 wx a n c (vs.map Value.string)) ∧ Hid (vs = ws ++ [Wh.quo frm] ++ if dst.data.toList.isEmpty then [] else [Wh.quo dst]))
            case first =>
              cases d0 : dst.toList.isEmpty
              case true =>
                have d1 : dst.toList = [] := List.isEmpty_iff.1 d0
                have HD0 : Hid (dst.data.toList.isEmpty = true) := Lib.hid (by rw [← Lib.toList_data]; exact d0)
                clear d0
                go_wp2_with fail
                go_meet
                exact ⟨_, _, _, ws ++ [Wh.quo frm], rfl, by omega, by rw [List.map_append]; exact HO9, Lib.hid (by rw [HD0.out]; simp)⟩
              case false =>
                have d1 : ¬ dst.toList = [] := fun e => by rw [e] at d0; cases d0
                have HD0 : Hid (dst.data.toList.isEmpty = false) := Lib.hid (by rw [← Lib.toList_data]; exact d0)
                clear d0
                go_wp2_with (first | (go_at_call 38; refine (HQ2.out _).mono ?_; rintro e w8 ⟨rfl, hb8⟩) | (at_builtin; refine wp_app elem_str (HO9.out.under hb8) [.string (Wh.quo dst)] 1 rfl (by decide) (by simp [Value.oneCell']) (by omega) (by omega) rfl (.tmp 63) (.tmp 67) rfl rfl rfl ?_; intro g10 cap10 w10 hO10))
                go_meet
                exact ⟨_, _, _, ws ++ [Wh.quo frm] ++ [Wh.quo dst], rfl, by omega, Lib.hid (by rw [List.map_append, List.map_append]; exact hO10), Lib.hid (by rw [HD0.out]; simp)⟩
            case rest =>
              obtain ⟨a, n, c, vs, rfl, hn, HOv, HVs⟩ := hcut
              obtain ⟨wb, rfl⟩ : ∃ wb : World, wb = wc := ⟨_, rfl⟩
              clear HO9 p0 p1 p2 p3 p4 p5 p6 HQ1 HQ2
              have HV : Hid (vs = Wh.actWords ⟨kind, side, frm, dst, size, time⟩) := Lib.hid (by rw [HVs.out, HWs.out]; rfl)
              obtain rfl : vs.length = n := by have := HOv.out.len; simpa using this
              have hok := Wh.actWords_ok HAz.out HAn.out
              rw [← HV.out] at hok HSt
              have HLn := Lib.hid (line_any vs a c (HBl.out.under (bTrans hbx HOv.out.below)) HOv.out.holds hok.1 (by omega) HOv.out.cap (by have := hok.2.2; omega) (by
                have h1 := Wh.linesText_len (l := (d.acts.take k).map Wh.actWords) (fun z hz => by
                  obtain ⟨t, ht, rfl⟩ := List.mem_map.1 hz
                  have := List.mem_of_mem_take ht
                  exact Wh.actWords_ok (HA.out t this) (HN.out.acts t this))
                have h2 : ((d.acts.take k).map Wh.actWords).length ≤ 20000 := by simp; omega
                omega))
              rw [← HSt.out] at HLn
              clear HVs HWs HV hok HSt HOv
              go_wp2_with (refine HLn.out.mono ?_; rintro e w11 ⟨rfl, hB11, -⟩)
              go_roundg g
              case measure => omega
              case rel => exact ⟨k + 1, by omega, by go_num, Lib.hid hB11⟩
      · have HT1 : Hid ((Wh.linesText (d.acts.map Wh.actWords)).length ≤ 600000000) := Lib.hid (by
          have h1 := Wh.linesText_len (l := d.acts.map Wh.actWords) (fun z hz => by
            obtain ⟨t, ht, rfl⟩ := List.mem_map.1 hz
            exact Wh.actWords_ok (HA.out t ht) (HN.out.acts t ht))
          have h2 : (d.acts.map Wh.actWords).length ≤ 20000 := by simp; omega
          omega)
        rw [List.take_of_length_le (by omega)] at HBl
        have HP2 : Hid (Wh.linesText (Wh.dealLines d) = Wh.linesText (d.acts.map Wh.actWords) ++ (Wh.linesText (d.refused.map Wh.refWords) ++ (Wh.linesText (d.equal.map Wh.eqWords) ++ Wh.linesText (d.conf.map Wh.confWords)))) := Lib.hid (by simp [Wh.dealLines, Wh.linesText])
        rw [HP2.out] at HP
        have ht1 := HT1.out
        clear HP2 HT1 HA HWB
        generalize Wh.linesText (d.acts.map Wh.actWords) = T1 at *
        go_wp2_with fail
        go_loopg [76] d.refused.length (fun g i wx => ∃ k : Nat, k + g = d.refused.length ∧ i = .int .i64 k ∧ Hid (Bld w2 w2.heap.size (T1 ++ Wh.linesText ((d.refused.take k).map Wh.refWords)) wx))
        case atStart => exact ⟨0, by omega, rfl, by simpa [Wh.linesText] using HBl⟩
        case round =>
          clear hk hlt HBl k0 k1 k2 k3 k4
          obtain ⟨k, hk, rfl, HBl⟩ := hrel
          obtain ⟨k0, k1, k2, k3, k4⟩ := HB3.out.under HBl.out.below
          have HRz : Hid (∀ y ∈ d.refused, Wh.okLine (Wh.refWords y)) := Lib.hid (fun y hy => Wh.refWords_ok (Wh.pathsErr_size HPa.out (by simp only [Wh.Deal.paths, List.mem_append, List.mem_map]; exact .inl (.inl ⟨y, hy, rfl⟩))) (HN.out.refs y hy))
          by_cases hlt : k < d.refused.length
          · obtain ⟨g, rfl⟩ : ∃ g, gk = g + 1 := ⟨gk - 1, by omega⟩
            obtain ⟨y, hx⟩ : ∃ y, d.refused[k]? = some y := ⟨_, List.getElem?_eq_getElem hlt⟩
            obtain ⟨ba, off, ha, hba, r0, r1⟩ := refRow (HD.out.refs.under (bTrans hb5 HBl.out.below)) hx
            have hmem := List.mem_of_getElem? hx
            have hok := HRz.out y hmem
            have HRn := Lib.hid (HN.out.refs y hmem)
            have hps : y.path.size ≤ 1024 := Wh.pathsErr_size HPa.out (by simp only [Wh.Deal.paths, List.mem_append, List.mem_map]; exact .inl (.inl ⟨y, hmem, rfl⟩))
            have HSt := Lib.hid (Wh.linesText_step (f := Wh.refWords) hx)
            have HX : (wr.alloc (.cells #[.string y.path, .int .i64 y.err] 72)).heap[wr.heap.size]? = some (.cells #[.string y.path, .int .i64 y.err] 72 (0, 0)) := heap_alloc_new wr _
            have hbx : Below wr.heap.size wr (wr.alloc (.cells #[.string y.path, .int .i64 y.err] 72)) := bAlloc (Below.refl _ _) _
            have hbn := HBl.out.lt
            have hlen : (T1 ++ Wh.linesText ((d.refused.take k).map Wh.refWords)).length ≤ 800000000 := by
              have h1 := Wh.linesText_len (l := (d.refused.take k).map Wh.refWords) (fun z hz => by
                obtain ⟨t, ht, rfl⟩ := List.mem_map.1 hz
                exact HRz.out t (List.mem_of_mem_take ht))
              have h2 : ((d.refused.take k).map Wh.refWords).length ≤ 5000 := by simp; omega
              rw [List.length_append]
              omega
            subst ha
            clear hx hmem HRz
            go_upto_region 21 with fail
            generalize wr.alloc _ = w3 at *
            clear r0 r1 k0 k1 k2 k3 k4
            have HBx := Lib.hid (HBl.out.under hbx)
            have hlt3 : wr.heap.size < w3.heap.size := (Array.getElem?_eq_some_iff.1 HX).1
            have HXu : Hid (∀ W, Below w3.heap.size w3 W → W.heap[wr.heap.size]? = some (.cells #[.string y.path, .int .i64 y.err] 72 (0, 0))) := Lib.hid (fun W hb => by rw [hb.block _ hlt3]; exact HX)
            have HXk : Hid (∀ (W W' : World), W.heap[wr.heap.size]? = some (.cells #[.string y.path, .int .i64 y.err] 72 (0, 0)) → Lib.OthersKept 5 (some w2.heap.size) W W' → W'.heap[wr.heap.size]? = some (.cells #[.string y.path, .int .i64 y.err] 72 (0, 0))) := Lib.hid (fun W W' h hk => hk _ _ h (fun e => by injection e with e; omega) (fun c fz e => by injection e with _ e2 _; exact absurd e2 (by decide)))
            have HI1 := Lib.hid (fun W (hb : Below w3.heap.size w3 W) => itoa_any y.err W (HT.out.under (bTrans hb5 (bTrans HBl.out.below (bTrans hbx hb)))) HRn.out.1 HRn.out.2)
            change Hid (∀ W, Below w3.heap.size w3 W → Calls _ _ _ _ fun e w' => e = .returned (.string (Wh.num y.err)) ∧ _) at HI1
            have HQ1 := Lib.hid (fun W => quote_any y.path W (by omega))
            refine wp_region_seq (fun W => W.heap[wr.heap.size]? = some (.cells #[.string y.path, .int .i64 y.err] 72 (0, 0))) [(0, true), (1, true), (2, true), (4, true), (5, true), (3, false), (6, false), (7, false), (8, false)] (by as_aux_lemma => kernel_rfl) (by as_aux_lemma => kernel_rfl) (by decide) (by as_aux_lemma => kernel_rfl) HX ?_
            intro OPS HO
            refine seq_take (o := ⟨_, _, _, _, _, _⟩) (v := ?_) (by rw [HO.out]; rfl) (by rfl) ?_ ?_
            rotate_left 1
            · first | ((intro W _; go_simp) <;> with_reducible rfl) | (intro W hW; have p0 : W.cell? ⟨wr.heap.size, 0, none⟩ = some (.string y.path) := (by rw [Lib.cell_of_heap hW]; rfl); have p1 : W.cell? ⟨wr.heap.size, 1, none⟩ = some (.int .i64 y.err) := (by rw [Lib.cell_of_heap hW]; rfl); (go_simp <;> with_reducible rfl))
            try simp only [Act.put, List.setIfInBounds_toArray, List.set_cons_zero, List.set_cons_succ]
            refine seq_take (o := ⟨_, _, _, _, _, _⟩) (v := ?_) (by rw [HO.out]; rfl) (by rfl) ?_ ?_
            rotate_left 1
            · first | ((intro W _; go_simp) <;> with_reducible rfl) | (intro W hW; have p0 : W.cell? ⟨wr.heap.size, 0, none⟩ = some (.string y.path) := (by rw [Lib.cell_of_heap hW]; rfl); have p1 : W.cell? ⟨wr.heap.size, 1, none⟩ = some (.int .i64 y.err) := (by rw [Lib.cell_of_heap hW]; rfl); (go_simp <;> with_reducible rfl))
            try simp only [Act.put, List.setIfInBounds_toArray, List.set_cons_zero, List.set_cons_succ]
            refine seq_take (o := ⟨_, _, _, _, _, _⟩) (v := ?_) (by rw [HO.out]; rfl) (by rfl) ?_ ?_
            rotate_left 1
            · first | ((intro W _; go_simp) <;> with_reducible rfl) | (intro W hW; have p0 : W.cell? ⟨wr.heap.size, 0, none⟩ = some (.string y.path) := (by rw [Lib.cell_of_heap hW]; rfl); have p1 : W.cell? ⟨wr.heap.size, 1, none⟩ = some (.int .i64 y.err) := (by rw [Lib.cell_of_heap hW]; rfl); (go_simp <;> with_reducible rfl))
            try simp only [Act.put, List.setIfInBounds_toArray, List.set_cons_zero, List.set_cons_succ]
            refine seq_take (o := ⟨_, _, _, _, _, _⟩) (v := ?_) (by rw [HO.out]; rfl) (by rfl) ?_ ?_
            rotate_left 1
            · first | ((intro W _; go_simp) <;> with_reducible rfl) | (intro W hW; have p0 : W.cell? ⟨wr.heap.size, 0, none⟩ = some (.string y.path) := (by rw [Lib.cell_of_heap hW]; rfl); have p1 : W.cell? ⟨wr.heap.size, 1, none⟩ = some (.int .i64 y.err) := (by rw [Lib.cell_of_heap hW]; rfl); (go_simp <;> with_reducible rfl))
            try simp only [Act.put, List.setIfInBounds_toArray, List.set_cons_zero, List.set_cons_succ]
            refine seq_take (o := ⟨_, _, _, _, _, _⟩) (v := ?_) (by rw [HO.out]; rfl) (by rfl) ?_ ?_
            rotate_left 1
            · first | ((intro W _; go_simp) <;> with_reducible rfl) | (intro W hW; have p0 : W.cell? ⟨wr.heap.size, 0, none⟩ = some (.string y.path) := (by rw [Lib.cell_of_heap hW]; rfl); have p1 : W.cell? ⟨wr.heap.size, 1, none⟩ = some (.int .i64 y.err) := (by rw [Lib.cell_of_heap hW]; rfl); (go_simp <;> with_reducible rfl))
            try simp only [Act.put, List.setIfInBounds_toArray, List.set_cons_zero, List.set_cons_succ]
            have hS : Below w3.heap.size w3 w3.drew := (Below.refl _ _).drew
            refine seq_do (o := ⟨_, _, _, _, _, _⟩) (by rw [HO.out]; rfl) (by rfl) (fun K hK => ?_)
            go_wp2_with (go_at_call 37; refine (HI1.out _ hS).mono ?_; rintro e w5 ⟨rfl, hb6⟩; replace hS := bTrans hS hb6; clear hb6)
            refine hK.out _ _ (HXu.out _ hS) (fun _ => ?_)
            clear hK K
            try simp only [Act.put, List.setIfInBounds_toArray, List.set_cons_zero, List.set_cons_succ]
            refine seq_do (o := ⟨_, _, _, _, _, _⟩) (by rw [HO.out]; rfl) (by rfl) (fun K hK => ?_)
            go_wp2_with (go_at_call 38; refine (HQ1.out _).mono ?_; rintro e w6 ⟨rfl, hb6⟩; replace hS := bTrans hS hb6; clear hb6)
            refine hK.out _ _ (HXu.out _ hS) (fun _ => ?_)
            clear hK K
            try simp only [Act.put, List.setIfInBounds_toArray, List.set_cons_zero, List.set_cons_succ]
            refine seq_do (o := ⟨_, _, _, _, _, _⟩) (by rw [HO.out]; rfl) (by rfl) (fun K hK => ?_)
            go_wp2_with fail
            refine hK.out _ _ (HXu.out _ (bAlloc hS _)) (fun _ => ?_)
            clear hK K
            try simp only [Act.put, List.setIfInBounds_toArray, List.set_cons_zero, List.set_cons_succ]
            refine seq_do (o := ⟨_, _, _, _, _, _⟩) (by rw [HO.out]; rfl) (by rfl) (fun K hK => ?_)
            go_wp2_with (refine (lineNew_any (Wh.refWords y) _ (HBx.out.under hS) hok (by omega)).mono ?_; rintro e w7 ⟨rfl, hB7, hK7⟩)
            refine hK.out _ _ (HXk.out _ _ (HXu.out _ hS) hK7) (fun _ => ?_)
            clear hK K
            try simp only [Act.put, List.setIfInBounds_toArray, List.set_cons_zero, List.set_cons_succ]
            refine seq_done ?_
            go_wp2_with fail
            go_roundg g
            case measure => omega
            case rel => exact ⟨k + 1, by omega, by go_num, Lib.hid (by rw [HSt.out, ← List.append_assoc]; exact hB7)⟩
          · have HT2 : Hid ((T1 ++ Wh.linesText (d.refused.map Wh.refWords)).length ≤ 800000000) := Lib.hid (by
              have h1 := Wh.linesText_len (l := d.refused.map Wh.refWords) (fun z hz => by
                obtain ⟨t, ht, rfl⟩ := List.mem_map.1 hz
                exact HRz.out t ht)
              have h2 : (d.refused.map Wh.refWords).length ≤ 5000 := by simp; omega
              rw [List.length_append]
              omega)
            rw [List.take_of_length_le (by omega)] at HBl
            rw [← List.append_assoc] at HP
            have ht2 := HT2.out
            clear HT2 HRz ht1 HN
            generalize T1 ++ Wh.linesText (d.refused.map Wh.refWords) = T2 at *
            go_wp2_with fail
            go_loopg [93] d.equal.length (fun g i wx => ∃ k : Nat, k + g = d.equal.length ∧ i = .int .i64 k ∧ Hid (Bld w2 w2.heap.size (T2 ++ Wh.linesText ((d.equal.take k).map Wh.eqWords)) wx))
            case atStart => exact ⟨0, by omega, rfl, by simpa [Wh.linesText] using HBl⟩
            case round =>
              clear hk hlt HBl k0 k1 k2 k3 k4
              obtain ⟨k, hk, rfl, HBl⟩ := hrel
              obtain ⟨k0, k1, k2, k3, k4⟩ := HB3.out.under HBl.out.below
              have HRz : Hid (∀ y ∈ d.equal, Wh.okLine (Wh.eqWords y)) := Lib.hid (fun y hy => Wh.eqWords_ok (Wh.pathsErr_size HPa.out (by simp only [Wh.Deal.paths, List.mem_append, List.mem_map]; exact .inl (.inr ‹_›))))
              by_cases hlt : k < d.equal.length
              · obtain ⟨g, rfl⟩ : ∃ g, gk = g + 1 := ⟨gk - 1, by omega⟩
                obtain ⟨y, hx⟩ : ∃ y, d.equal[k]? = some y := ⟨_, List.getElem?_eq_getElem hlt⟩
                obtain ⟨ba, off, ha, hba, r0⟩ := (HD.out.equal.under (bTrans hb5 HBl.out.below)).at (k := k) (u := .string y) (by simp [hx])
                have hy := List.mem_of_getElem? hx
                have hok := HRz.out y hy
                have hps : y.size ≤ 1024 := Wh.pathsErr_size HPa.out (by simp only [Wh.Deal.paths, List.mem_append, List.mem_map]; exact .inl (.inr ‹_›))
                have HSt := Lib.hid (Wh.linesText_step (f := Wh.eqWords) hx)
                have hlen : (T2 ++ Wh.linesText ((d.equal.take k).map Wh.eqWords)).length ≤ 1000000000 := by
                  have h1 := Wh.linesText_len (l := (d.equal.take k).map Wh.eqWords) (fun z hz => by
                    obtain ⟨t, ht, rfl⟩ := List.mem_map.1 hz
                    exact HRz.out t (List.mem_of_mem_take ht))
                  have h2 : ((d.equal.take k).map Wh.eqWords).length ≤ 5000 := by simp; omega
                  rw [List.length_append]
                  omega
                subst ha
                clear hx hy HRz
                have HQ1 := Lib.hid (fun W => quote_any y W (by omega))
                go_wp2_with (first | (go_at_call 38; refine (HQ1.out _).mono ?_; rintro e w6 ⟨rfl, hb6⟩) | (refine (lineNew_any (Wh.eqWords y) _ (HBl.out.under hb6) hok (by omega)).mono ?_; rintro e w7 ⟨rfl, hB7, -⟩))
                go_roundg g
                case measure => omega
                case rel => exact ⟨k + 1, by omega, by go_num, Lib.hid (by rw [HSt.out, ← List.append_assoc]; exact hB7)⟩
              · have HT2 : Hid ((T2 ++ Wh.linesText (d.equal.map Wh.eqWords)).length ≤ 1000000000) := Lib.hid (by
                  have h1 := Wh.linesText_len (l := d.equal.map Wh.eqWords) (fun z hz => by
                    obtain ⟨t, ht, rfl⟩ := List.mem_map.1 hz
                    exact HRz.out t ht)
                  have h2 : (d.equal.map Wh.eqWords).length ≤ 5000 := by simp; omega
                  rw [List.length_append]
                  omega)
                rw [List.take_of_length_le (by omega)] at HBl
                rw [← List.append_assoc] at HP
                have ht3 := HT2.out
                clear HT2 HRz ht2
                generalize T2 ++ Wh.linesText (d.equal.map Wh.eqWords) = T3 at *
                go_wp2_with fail
                go_loopg [106] d.conf.length (fun g i wx => ∃ k : Nat, k + g = d.conf.length ∧ i = .int .i64 k ∧ Hid (Bld w2 w2.heap.size (T3 ++ Wh.linesText ((d.conf.take k).map Wh.confWords)) wx))
                case atStart => exact ⟨0, by omega, rfl, by simpa [Wh.linesText] using HBl⟩
                case round =>
                  clear hk hlt HBl k0 k1 k2 k3 k4
                  obtain ⟨k, hk, rfl, HBl⟩ := hrel
                  obtain ⟨k0, k1, k2, k3, k4⟩ := HB3.out.under HBl.out.below
                  have HRz : Hid (∀ y ∈ d.conf, Wh.okLine (Wh.confWords y)) := Lib.hid (fun y hy => Wh.confWords_ok (Wh.pathsErr_size HPa.out (by simp only [Wh.Deal.paths, List.mem_append, List.mem_map]; exact .inr ‹_›)))
                  by_cases hlt : k < d.conf.length
                  · obtain ⟨g, rfl⟩ : ∃ g, gk = g + 1 := ⟨gk - 1, by omega⟩
                    obtain ⟨y, hx⟩ : ∃ y, d.conf[k]? = some y := ⟨_, List.getElem?_eq_getElem hlt⟩
                    obtain ⟨ba, off, ha, hba, r0⟩ := (HD.out.conf.under (bTrans hb5 HBl.out.below)).at (k := k) (u := .string y) (by simp [hx])
                    have hy := List.mem_of_getElem? hx
                    have hok := HRz.out y hy
                    have hps : y.size ≤ 1024 := Wh.pathsErr_size HPa.out (by simp only [Wh.Deal.paths, List.mem_append, List.mem_map]; exact .inr ‹_›)
                    have HSt := Lib.hid (Wh.linesText_step (f := Wh.confWords) hx)
                    have hlen : (T3 ++ Wh.linesText ((d.conf.take k).map Wh.confWords)).length ≤ 1200000000 := by
                      have h1 := Wh.linesText_len (l := (d.conf.take k).map Wh.confWords) (fun z hz => by
                        obtain ⟨t, ht, rfl⟩ := List.mem_map.1 hz
                        exact HRz.out t (List.mem_of_mem_take ht))
                      have h2 : ((d.conf.take k).map Wh.confWords).length ≤ 5000 := by simp; omega
                      rw [List.length_append]
                      omega
                    subst ha
                    clear hx hy HRz
                    have HQ1 := Lib.hid (fun W => quote_any y W (by omega))
                    go_wp2_with (first | (go_at_call 38; refine (HQ1.out _).mono ?_; rintro e w6 ⟨rfl, hb6⟩) | (refine (lineNew_any (Wh.confWords y) _ (HBl.out.under hb6) hok (by omega)).mono ?_; rintro e w7 ⟨rfl, hB7, -⟩))
                    go_roundg g
                    case measure => omega
                    case rel => exact ⟨k + 1, by omega, by go_num, Lib.hid (by rw [HSt.out, ← List.append_assoc]; exact hB7)⟩
                  · have HT2 : Hid ((T3 ++ Wh.linesText (d.conf.map Wh.confWords)).length ≤ 1200000000) := Lib.hid (by
                      have h1 := Wh.linesText_len (l := d.conf.map Wh.confWords) (fun z hz => by
                        obtain ⟨t, ht, rfl⟩ := List.mem_map.1 hz
                        exact HRz.out t ht)
                      have h2 : (d.conf.map Wh.confWords).length ≤ 5000 := by simp; omega
                      rw [List.length_append]
                      omega)
                    rw [List.take_of_length_le (by omega)] at HBl
                    clear HT2 HRz
                    generalize T3 ++ Wh.linesText (d.conf.map Wh.confWords) = T4 at *
                    go_wp2_with (go_at_call 39; refine (buildString_any HBl.out).mono ?_; rintro e w7 ⟨rfl, hB7⟩)
                    go_ret2
                    exact HP.out _ (bTrans hb5 hB7.below)
end Go.Proofs.YtjcpcmiijadmcaaDoor
