/-
  wherryref1.PrintDeal.
-/
import Derived.Test.YtjcpcmiijadmcaaDoorDeal5
namespace Go.Proofs.YtjcpcmiijadmcaaDoor
open Go.RowKit

/-- A text's bytes. -/
def Txt (s : ByteArray) (l : List UInt8) : Prop := s.data.toList = l
theorem Txt.add {a b : ByteArray} {l m : List UInt8} (h : Txt a l) (k : Txt b m) : Txt (a ++ b) (l ++ m) := by
  unfold Txt at *
  rw [← h, ← k]
  simp [ByteArray.data_append]
theorem Txt.size {a : ByteArray} {l : List UInt8} (h : Txt a l) : a.size = l.length := by rw [Lib.size_eq, h]
theorem txt_add (a b : ByteArray) (h : a.size + b.size ≤ 9223372036854775807) : ∀ W : World, (Op.stringOp .add a b).run Tryd.prog W = .ok (.string (a ++ b)) W := fun W => run_string_add_sum W a b h

theorem actLine (x : Wh.Act) : Wh.lineOf (Wh.actWords x) = (((Wh.wordK x.kind).data.toList ++ [32] ++ (Wh.wordS x.side).data.toList) ++ ((if x.kind = 1 then [32] ++ (Wh.num x.size).data.toList ++ [32] ++ (Wh.num x.time).data.toList else []) ++ (([32] ++ (Wh.quo x.frm).data.toList) ++ ((if x.to.data.toList.isEmpty then [] else [32] ++ (Wh.quo x.to).data.toList) ++ [10])))) := by
  unfold Wh.lineOf Wh.actWords
  by_cases h1 : x.kind = 1
  · rw [if_pos h1, if_pos h1]
    cases x.to.data.toList.isEmpty <;> simp [Lib.join]
  · rw [if_neg h1, if_neg h1]
    cases x.to.data.toList.isEmpty <;> simp [Lib.join]

theorem txt_add2 (a b : ByteArray) (ha : a.size ≤ 9000000000) (hb : b.size ≤ 9000000000) : ∀ W : World, (Op.stringOp .add a b).run Tryd.prog W = .ok (.string (a ++ b)) W := txt_add a b (by omega)

/-- A block that holds a refusal. -/
def RefBox (w : World) (b : Nat) (y : Wh.Refusal) : Prop := b < w.heap.size ∧ w.cell? ⟨b, 0, none⟩ = some (.string y.path) ∧ w.cell? ⟨b, 1, none⟩ = some (.int .i64 y.err)
theorem RefBox.under {w w' : World} {b : Nat} {y : Wh.Refusal} (h : RefBox w b y) (hb : Below w.heap.size w w') : RefBox w' b y := by
  obtain ⟨h0, h1, h2⟩ := h
  exact ⟨Nat.lt_of_lt_of_le h0 hb.size, (hb.cell (p := ⟨b, 0, none⟩) h0).trans h1, (hb.cell (p := ⟨b, 1, none⟩) h0).trans h2⟩
theorem refBox_new (w : World) (y : Wh.Refusal) (t : TypeId) : RefBox (w.alloc (.cells #[.string y.path, .int .i64 y.err] t)) w.heap.size y := by
  refine ⟨by simp, ?_, ?_⟩ <;> (rw [World.cell?_alloc_at _ _ _ _ rfl]; rfl)

set_option maxHeartbeats 4000000 in
set_option maxRecDepth 100000 in
theorem refPrintDeal_any (x : DealAt) (w : World) (hE : Env w) (hT : EnvT w) (hD : DealOk x w) (hN : x.d.nums) :
    Calls Tryd.prog 12 #[dealVal x] w (DealPost x.d w) := by
  have HC := Lib.hid (fun W (hb : Below w.heap.size w W) => refCheckDeal_any x W (hE.under hb) (hD.under hb))
  have HB1 := Lib.hid (dealBox_new w x 26)
  have HD := Lib.hid hD
  have HT := Lib.hid hT
  have HN := Lib.hid hN
  clear hE hD hT hN
  obtain ⟨d, a1, a2, a3, a4, c1, c2, c3, c4⟩ := x
  simp only [] at *
  by_cases h0 : Wh.dealErr d = 0
  case neg =>
    have HP : Hid (∀ w', Below w.heap.size w w' → DealPost d w (.returned (.tuple #[.string ⟨#[]⟩, .int .i64 (Wh.dealErr d)])) w') := Lib.hid (fun w' hb => ⟨by rw [Wh.dealText, if_neg h0], hb⟩)
    have q : (Wh.dealErr d != 0) = true := by simp [h0]
    clear h0 HD HT HN HB1
    generalize Wh.dealErr d = E at *
    go_enter Tryd.func12, Tryd.ntmps12
    go_wp2_with fail
    refine (HC.out _ (bAlloc (Below.refl _ _) _)).mono ?_
    rintro e w' ⟨rfl, hb2⟩
    go_wp2_with fail
    go_ret2
    exact HP.out _ (bTrans (bAlloc (Below.refl _ _) _) hb2)
  case pos =>
    obtain ⟨hbig, hacts, hpaths⟩ := Wh.dealErr_zero h0
    have b1 : ¬ 20000 < d.acts.length := fun h => hbig (.inl h)
    have b2 : ¬ 5000 < d.refused.length := fun h => hbig (.inr (.inl h))
    have b3 : ¬ 5000 < d.equal.length := fun h => hbig (.inr (.inr (.inl h)))
    have b4 : ¬ 5000 < d.conf.length := fun h => hbig (.inr (.inr (.inr h)))
    have HP : Hid (∀ (w' : World) (s : ByteArray), Txt s (Wh.linesText (Wh.dealLines d)) → Below w.heap.size w w' → DealPost d w (.returned (.tuple #[.string s, .int .i64 0])) w') := Lib.hid (fun w' s hs hb => ⟨by rw [Wh.dealText, if_pos h0, h0, ← hs], hb⟩)
    have HA := Lib.hid hacts
    have HPa := Lib.hid hpaths
    rw [h0] at HC
    clear hbig hacts hpaths h0
    go_enter Tryd.func12, Tryd.ntmps12
    go_wp2_with fail
    have hb1 := bAlloc (Below.refl w.heap.size w) (.cells #[.slice a1 d.acts.length c1, .slice a2 d.refused.length c2, .slice a3 d.equal.length c3, .slice a4 d.conf.length c4] 26)
    refine (HC.out _ hb1).mono ?_
    rintro e w2 ⟨rfl, hb2⟩
    have HB3 := Lib.hid (HB1.out.under hb2)
    have hb5 := bTrans hb1 hb2
    clear HB1 HC hb1 hb2
    obtain ⟨k0, k1, k2, k3, k4⟩ := HB3.out
    go_wp2_with fail
    go_loopg [5, 22] d.acts.length (fun g s i wx => ∃ (k : Nat) (t : ByteArray), k + g = d.acts.length ∧ i = .int .i64 k ∧ s = .string t ∧ Below w2.heap.size w2 wx ∧ Hid (Txt t (Wh.linesText ((d.acts.take k).map Wh.actWords))))
    case atStart => exact ⟨0, ⟨#[]⟩, by omega, rfl, rfl, Below.refl _ _, Lib.hid rfl⟩
    case round =>
      clear k0 k1 k2 k3 k4
      obtain ⟨k, t, hk, rfl, rfl, hbr, HTx⟩ := hrel
      obtain ⟨k0, k1, k2, k3, k4⟩ := HB3.out.under hbr
      by_cases hlt : k < d.acts.length
      · obtain ⟨g, rfl⟩ : ∃ g, gk = g + 1 := ⟨gk - 1, by omega⟩
        obtain ⟨y, hx⟩ : ∃ y, d.acts[k]? = some y := ⟨_, List.getElem?_eq_getElem hlt⟩
        obtain ⟨ba, off, ha, hba, r0, r1, r2, r3, r4, r5⟩ := actRow (HD.out.acts.under (bTrans hb5 hbr)) hx
        have hmem := List.mem_of_getElem? hx
        have HAz := Lib.hid (HA.out y hmem)
        have HAn := Lib.hid (HN.out.acts y hmem)
        have HSt := Lib.hid (Wh.linesText_step (f := Wh.actWords) hx)
        have HX := Lib.hid (actBox_new wr y.kind y.side y.frm y.to y.size y.time 69)
        have hbx : Below wr.heap.size wr (wr.alloc (.cells #[.int .i64 y.kind, .int .i64 y.side, .string y.frm, .string y.to, .int .i64 y.size, .int .i64 y.time] 69)) := bAlloc (Below.refl _ _) _
        have hsz : t.size ≤ 600000000 := by
          rw [HTx.out.size]
          have h1 := Wh.linesText_len (l := (d.acts.take k).map Wh.actWords) (fun z hz => by
            obtain ⟨t, ht, rfl⟩ := List.mem_map.1 hz
            have := List.mem_of_mem_take ht
            exact Wh.actWords_ok (HA.out t this) (HN.out.acts t this))
          have h2 : ((d.acts.take k).map Wh.actWords).length ≤ 20000 := by simp; omega
          omega
        subst ha
        clear hx hmem
        go_upto_region 8 with fail
        generalize wr.alloc _ = w3 at *
        clear r0 r1 r2 r3 r4 r5 k0 k1 k2 k3 k4
        obtain ⟨kind, side, frm, dst, size, time⟩ := y
        simp only [] at *
        obtain ⟨hkk, hss, hf, ht⟩ := Wh.actErr_zero HAz.out
        simp only [] at hkk hss hf ht
        go_cut [5] (fun s5 wx => ∃ t5 : ByteArray, s5 = .string t5 ∧ t5.size ≤ 600001000 ∧ Below w3.heap.size w3 wx ∧ Hid (Txt t5 (Wh.linesText ((d.acts.take k).map Wh.actWords) ++ ((Wh.wordK kind).data.toList ++ [32] ++ (Wh.wordS side).data.toList))))
        case first =>
          clear HB3 hb5
          have hw2 : IntKind.i64.wrap 2 = 2 := by decide
          have hw3 : IntKind.i64.wrap 3 = 3 := by decide
          have hx1 : (⟨#[63, 65, 66]⟩ : ByteArray).extract 1 2 = ⟨#[65]⟩ := by decide
          have hx2 : (⟨#[63, 65, 66]⟩ : ByteArray).extract 2 3 = ⟨#[66]⟩ := by decide
          rcases hkk with rfl | rfl | rfl | rfl <;> rcases hss with rfl | rfl
          · have hadd := txt_add2 t (⟨#[112, 117, 116]⟩ ++ ⟨#[32]⟩ ++ ⟨#[65]⟩) (by omega) (by decide)
            have HTf : Hid (Txt (t ++ (⟨#[112, 117, 116]⟩ ++ ⟨#[32]⟩ ++ ⟨#[65]⟩)) _) := Lib.hid (HTx.out.add ((Txt.add rfl rfl).add rfl))
            have hsf : (t ++ (⟨#[112, 117, 116]⟩ ++ ⟨#[32]⟩ ++ ⟨#[65]⟩) : ByteArray).size ≤ 600001000 := by rw [HTf.out.size, List.length_append, ← HTx.out.size]; simp; omega
            generalize (t ++ (⟨#[112, 117, 116]⟩ ++ ⟨#[32]⟩ ++ ⟨#[65]⟩) : ByteArray) = t5 at *
            refine wp_region_seq (Below w3.heap.size w3) [(0, true), (2, true), (3, true), (7, true), (8, true), (9, true), (10, true), (11, true), (12, true), (1, false), (4, false), (5, false), (6, true), (13, true), (14, true), (15, true)] (by as_aux_lemma => kernel_rfl) (by as_aux_lemma => kernel_rfl) (by decide) (by as_aux_lemma => kernel_rfl) (Below.refl _ _).drew ?_
            intro OPS HO
            refine seq_take (o := ⟨_, _, _, _, _, _⟩) (v := ?_) (by rw [HO.out]; rfl) (by rfl) ?_ ?_
            rotate_left 1
            · first | ((intro W _; go_simp) <;> with_reducible rfl) | (intro W hW; obtain ⟨p0, p1, p2, p3, p4, p5, p6⟩ := HX.out.under hW; (go_simp <;> with_reducible rfl))
            try simp only [Act.put, List.setIfInBounds_toArray, List.set_cons_zero, List.set_cons_succ]
            refine seq_take (o := ⟨_, _, _, _, _, _⟩) (v := ?_) (by rw [HO.out]; rfl) (by rfl) ?_ ?_
            rotate_left 1
            · first | ((intro W _; go_simp) <;> with_reducible rfl) | (intro W hW; obtain ⟨p0, p1, p2, p3, p4, p5, p6⟩ := HX.out.under hW; (go_simp <;> with_reducible rfl))
            try simp only [Act.put, List.setIfInBounds_toArray, List.set_cons_zero, List.set_cons_succ]
            refine seq_take (o := ⟨_, _, _, _, _, _⟩) (v := ?_) (by rw [HO.out]; rfl) (by rfl) ?_ ?_
            rotate_left 1
            · first | ((intro W _; go_simp) <;> with_reducible rfl) | (intro W hW; obtain ⟨p0, p1, p2, p3, p4, p5, p6⟩ := HX.out.under hW; (go_simp <;> with_reducible rfl))
            try simp only [Act.put, List.setIfInBounds_toArray, List.set_cons_zero, List.set_cons_succ]
            refine seq_take (o := ⟨_, _, _, _, _, _⟩) (v := ?_) (by rw [HO.out]; rfl) (by rfl) ?_ ?_
            rotate_left 1
            · first | ((intro W _; go_simp) <;> with_reducible rfl) | (intro W hW; obtain ⟨p0, p1, p2, p3, p4, p5, p6⟩ := HX.out.under hW; (go_simp <;> with_reducible rfl))
            try simp only [Act.put, List.setIfInBounds_toArray, List.set_cons_zero, List.set_cons_succ]
            refine seq_take (o := ⟨_, _, _, _, _, _⟩) (v := ?_) (by rw [HO.out]; rfl) (by rfl) ?_ ?_
            rotate_left 1
            · first | ((intro W _; go_simp) <;> with_reducible rfl) | (intro W hW; obtain ⟨p0, p1, p2, p3, p4, p5, p6⟩ := HX.out.under hW; (go_simp <;> with_reducible rfl))
            try simp only [Act.put, List.setIfInBounds_toArray, List.set_cons_zero, List.set_cons_succ]
            refine seq_take (o := ⟨_, _, _, _, _, _⟩) (v := ?_) (by rw [HO.out]; rfl) (by rfl) ?_ ?_
            rotate_left 1
            · first | ((intro W _; go_simp) <;> with_reducible rfl) | (intro W hW; obtain ⟨p0, p1, p2, p3, p4, p5, p6⟩ := HX.out.under hW; (go_simp <;> with_reducible rfl))
            try simp only [Act.put, List.setIfInBounds_toArray, List.set_cons_zero, List.set_cons_succ]
            refine seq_take (o := ⟨_, _, _, _, _, _⟩) (v := ?_) (by rw [HO.out]; rfl) (by rfl) ?_ ?_
            rotate_left 1
            · first | ((intro W _; go_simp) <;> with_reducible rfl) | (intro W hW; obtain ⟨p0, p1, p2, p3, p4, p5, p6⟩ := HX.out.under hW; (go_simp <;> with_reducible rfl))
            try simp only [Act.put, List.setIfInBounds_toArray, List.set_cons_zero, List.set_cons_succ]
            refine seq_take (o := ⟨_, _, _, _, _, _⟩) (v := ?_) (by rw [HO.out]; rfl) (by rfl) ?_ ?_
            rotate_left 1
            · first | ((intro W _; go_simp) <;> with_reducible rfl) | (intro W hW; obtain ⟨p0, p1, p2, p3, p4, p5, p6⟩ := HX.out.under hW; (go_simp <;> with_reducible rfl))
            try simp only [Act.put, List.setIfInBounds_toArray, List.set_cons_zero, List.set_cons_succ]
            refine seq_take (o := ⟨_, _, _, _, _, _⟩) (v := ?_) (by rw [HO.out]; rfl) (by rfl) ?_ ?_
            rotate_left 1
            · first | ((intro W _; go_simp) <;> with_reducible rfl) | (intro W hW; obtain ⟨p0, p1, p2, p3, p4, p5, p6⟩ := HX.out.under hW; (go_simp <;> with_reducible rfl))
            try simp only [Act.put, List.setIfInBounds_toArray, List.set_cons_zero, List.set_cons_succ]
            have hS : Below w3.heap.size w3 w3.drew := (Below.refl _ _).drew
            refine seq_do (o := ⟨_, _, _, _, _, _⟩) (by rw [HO.out]; rfl) (by rfl) (fun K hK => ?_)
            go_wp2_with fail
            refine hK.out _ _ (bAlloc hS _) (fun _ => ?_)
            clear hK K
            try simp only [Act.put, List.setIfInBounds_toArray, List.set_cons_zero, List.set_cons_succ]
            refine seq_do (o := ⟨_, _, _, _, _, _⟩) (by rw [HO.out]; rfl) (by rfl) (fun K hK => ?_)
            go_wp2_with fail
            refine hK.out _ _ (bAlloc hS _) (fun _ => ?_)
            clear hK K
            try simp only [Act.put, List.setIfInBounds_toArray, List.set_cons_zero, List.set_cons_succ]
            refine seq_do (o := ⟨_, _, _, _, _, _⟩) (by rw [HO.out]; rfl) (by rfl) (fun K hK => ?_)
            go_wp2_with fail
            refine hK.out _ _ (bAlloc hS _) (fun _ => ?_)
            clear hK K
            try simp only [Act.put, List.setIfInBounds_toArray, List.set_cons_zero, List.set_cons_succ]
            refine seq_take (o := ⟨_, _, _, _, _, _⟩) (v := ?_) (by rw [HO.out]; rfl) (by rfl) ?_ ?_
            rotate_left 1
            · first | ((intro W _; go_simp) <;> with_reducible rfl) | (intro W hW; obtain ⟨p0, p1, p2, p3, p4, p5, p6⟩ := HX.out.under hW; (go_simp <;> with_reducible rfl))
            try simp only [Act.put, List.setIfInBounds_toArray, List.set_cons_zero, List.set_cons_succ]
            refine seq_take (o := ⟨_, _, _, _, _, _⟩) (v := ?_) (by rw [HO.out]; rfl) (by rfl) ?_ ?_
            rotate_left 1
            · first | ((intro W _; go_simp) <;> with_reducible rfl) | (intro W hW; obtain ⟨p0, p1, p2, p3, p4, p5, p6⟩ := HX.out.under hW; (go_simp <;> with_reducible rfl))
            try simp only [Act.put, List.setIfInBounds_toArray, List.set_cons_zero, List.set_cons_succ]
            refine seq_take (o := ⟨_, _, _, _, _, _⟩) (v := ?_) (by rw [HO.out]; rfl) (by rfl) ?_ ?_
            rotate_left 1
            · first | ((intro W _; go_simp) <;> with_reducible rfl) | (intro W hW; obtain ⟨p0, p1, p2, p3, p4, p5, p6⟩ := HX.out.under hW; (go_simp <;> with_reducible rfl))
            try simp only [Act.put, List.setIfInBounds_toArray, List.set_cons_zero, List.set_cons_succ]
            refine seq_take (o := ⟨_, _, _, _, _, _⟩) (v := ?_) (by rw [HO.out]; rfl) (by rfl) ?_ ?_
            rotate_left 1
            · first | ((intro W _; go_simp) <;> with_reducible rfl) | (intro W hW; obtain ⟨p0, p1, p2, p3, p4, p5, p6⟩ := HX.out.under hW; (go_simp <;> with_reducible rfl))
            try simp only [Act.put, List.setIfInBounds_toArray, List.set_cons_zero, List.set_cons_succ]
            refine seq_done ?_
            go_wp2_with fail
            go_meet
            exact ⟨_, rfl, hsf, (bAlloc (Below.refl _ _) _).drew, HTf⟩
          · have hadd := txt_add2 t (⟨#[112, 117, 116]⟩ ++ ⟨#[32]⟩ ++ ⟨#[66]⟩) (by omega) (by decide)
            have HTf : Hid (Txt (t ++ (⟨#[112, 117, 116]⟩ ++ ⟨#[32]⟩ ++ ⟨#[66]⟩)) _) := Lib.hid (HTx.out.add ((Txt.add rfl rfl).add rfl))
            have hsf : (t ++ (⟨#[112, 117, 116]⟩ ++ ⟨#[32]⟩ ++ ⟨#[66]⟩) : ByteArray).size ≤ 600001000 := by rw [HTf.out.size, List.length_append, ← HTx.out.size]; simp; omega
            generalize (t ++ (⟨#[112, 117, 116]⟩ ++ ⟨#[32]⟩ ++ ⟨#[66]⟩) : ByteArray) = t5 at *
            refine wp_region_seq (Below w3.heap.size w3) [(0, true), (2, true), (3, true), (7, true), (8, true), (9, true), (10, true), (11, true), (12, true), (1, false), (4, false), (5, false), (6, true), (13, true), (14, true), (15, true)] (by as_aux_lemma => kernel_rfl) (by as_aux_lemma => kernel_rfl) (by decide) (by as_aux_lemma => kernel_rfl) (Below.refl _ _).drew ?_
            intro OPS HO
            refine seq_take (o := ⟨_, _, _, _, _, _⟩) (v := ?_) (by rw [HO.out]; rfl) (by rfl) ?_ ?_
            rotate_left 1
            · first | ((intro W _; go_simp) <;> with_reducible rfl) | (intro W hW; obtain ⟨p0, p1, p2, p3, p4, p5, p6⟩ := HX.out.under hW; (go_simp <;> with_reducible rfl))
            try simp only [Act.put, List.setIfInBounds_toArray, List.set_cons_zero, List.set_cons_succ]
            refine seq_take (o := ⟨_, _, _, _, _, _⟩) (v := ?_) (by rw [HO.out]; rfl) (by rfl) ?_ ?_
            rotate_left 1
            · first | ((intro W _; go_simp) <;> with_reducible rfl) | (intro W hW; obtain ⟨p0, p1, p2, p3, p4, p5, p6⟩ := HX.out.under hW; (go_simp <;> with_reducible rfl))
            try simp only [Act.put, List.setIfInBounds_toArray, List.set_cons_zero, List.set_cons_succ]
            refine seq_take (o := ⟨_, _, _, _, _, _⟩) (v := ?_) (by rw [HO.out]; rfl) (by rfl) ?_ ?_
            rotate_left 1
            · first | ((intro W _; go_simp) <;> with_reducible rfl) | (intro W hW; obtain ⟨p0, p1, p2, p3, p4, p5, p6⟩ := HX.out.under hW; (go_simp <;> with_reducible rfl))
            try simp only [Act.put, List.setIfInBounds_toArray, List.set_cons_zero, List.set_cons_succ]
            refine seq_take (o := ⟨_, _, _, _, _, _⟩) (v := ?_) (by rw [HO.out]; rfl) (by rfl) ?_ ?_
            rotate_left 1
            · first | ((intro W _; go_simp) <;> with_reducible rfl) | (intro W hW; obtain ⟨p0, p1, p2, p3, p4, p5, p6⟩ := HX.out.under hW; (go_simp <;> with_reducible rfl))
            try simp only [Act.put, List.setIfInBounds_toArray, List.set_cons_zero, List.set_cons_succ]
            refine seq_take (o := ⟨_, _, _, _, _, _⟩) (v := ?_) (by rw [HO.out]; rfl) (by rfl) ?_ ?_
            rotate_left 1
            · first | ((intro W _; go_simp) <;> with_reducible rfl) | (intro W hW; obtain ⟨p0, p1, p2, p3, p4, p5, p6⟩ := HX.out.under hW; (go_simp <;> with_reducible rfl))
            try simp only [Act.put, List.setIfInBounds_toArray, List.set_cons_zero, List.set_cons_succ]
            refine seq_take (o := ⟨_, _, _, _, _, _⟩) (v := ?_) (by rw [HO.out]; rfl) (by rfl) ?_ ?_
            rotate_left 1
            · first | ((intro W _; go_simp) <;> with_reducible rfl) | (intro W hW; obtain ⟨p0, p1, p2, p3, p4, p5, p6⟩ := HX.out.under hW; (go_simp <;> with_reducible rfl))
            try simp only [Act.put, List.setIfInBounds_toArray, List.set_cons_zero, List.set_cons_succ]
            refine seq_take (o := ⟨_, _, _, _, _, _⟩) (v := ?_) (by rw [HO.out]; rfl) (by rfl) ?_ ?_
            rotate_left 1
            · first | ((intro W _; go_simp) <;> with_reducible rfl) | (intro W hW; obtain ⟨p0, p1, p2, p3, p4, p5, p6⟩ := HX.out.under hW; (go_simp <;> with_reducible rfl))
            try simp only [Act.put, List.setIfInBounds_toArray, List.set_cons_zero, List.set_cons_succ]
            refine seq_take (o := ⟨_, _, _, _, _, _⟩) (v := ?_) (by rw [HO.out]; rfl) (by rfl) ?_ ?_
            rotate_left 1
            · first | ((intro W _; go_simp) <;> with_reducible rfl) | (intro W hW; obtain ⟨p0, p1, p2, p3, p4, p5, p6⟩ := HX.out.under hW; (go_simp <;> with_reducible rfl))
            try simp only [Act.put, List.setIfInBounds_toArray, List.set_cons_zero, List.set_cons_succ]
            refine seq_take (o := ⟨_, _, _, _, _, _⟩) (v := ?_) (by rw [HO.out]; rfl) (by rfl) ?_ ?_
            rotate_left 1
            · first | ((intro W _; go_simp) <;> with_reducible rfl) | (intro W hW; obtain ⟨p0, p1, p2, p3, p4, p5, p6⟩ := HX.out.under hW; (go_simp <;> with_reducible rfl))
            try simp only [Act.put, List.setIfInBounds_toArray, List.set_cons_zero, List.set_cons_succ]
            have hS : Below w3.heap.size w3 w3.drew := (Below.refl _ _).drew
            refine seq_do (o := ⟨_, _, _, _, _, _⟩) (by rw [HO.out]; rfl) (by rfl) (fun K hK => ?_)
            go_wp2_with fail
            refine hK.out _ _ (bAlloc hS _) (fun _ => ?_)
            clear hK K
            try simp only [Act.put, List.setIfInBounds_toArray, List.set_cons_zero, List.set_cons_succ]
            refine seq_do (o := ⟨_, _, _, _, _, _⟩) (by rw [HO.out]; rfl) (by rfl) (fun K hK => ?_)
            go_wp2_with fail
            refine hK.out _ _ (bAlloc hS _) (fun _ => ?_)
            clear hK K
            try simp only [Act.put, List.setIfInBounds_toArray, List.set_cons_zero, List.set_cons_succ]
            refine seq_do (o := ⟨_, _, _, _, _, _⟩) (by rw [HO.out]; rfl) (by rfl) (fun K hK => ?_)
            go_wp2_with fail
            refine hK.out _ _ (bAlloc hS _) (fun _ => ?_)
            clear hK K
            try simp only [Act.put, List.setIfInBounds_toArray, List.set_cons_zero, List.set_cons_succ]
            refine seq_take (o := ⟨_, _, _, _, _, _⟩) (v := ?_) (by rw [HO.out]; rfl) (by rfl) ?_ ?_
            rotate_left 1
            · first | ((intro W _; go_simp) <;> with_reducible rfl) | (intro W hW; obtain ⟨p0, p1, p2, p3, p4, p5, p6⟩ := HX.out.under hW; (go_simp <;> with_reducible rfl))
            try simp only [Act.put, List.setIfInBounds_toArray, List.set_cons_zero, List.set_cons_succ]
            refine seq_take (o := ⟨_, _, _, _, _, _⟩) (v := ?_) (by rw [HO.out]; rfl) (by rfl) ?_ ?_
            rotate_left 1
            · first | ((intro W _; go_simp) <;> with_reducible rfl) | (intro W hW; obtain ⟨p0, p1, p2, p3, p4, p5, p6⟩ := HX.out.under hW; (go_simp <;> with_reducible rfl))
            try simp only [Act.put, List.setIfInBounds_toArray, List.set_cons_zero, List.set_cons_succ]
            refine seq_take (o := ⟨_, _, _, _, _, _⟩) (v := ?_) (by rw [HO.out]; rfl) (by rfl) ?_ ?_
            rotate_left 1
            · first | ((intro W _; go_simp) <;> with_reducible rfl) | (intro W hW; obtain ⟨p0, p1, p2, p3, p4, p5, p6⟩ := HX.out.under hW; (go_simp <;> with_reducible rfl))
            try simp only [Act.put, List.setIfInBounds_toArray, List.set_cons_zero, List.set_cons_succ]
            refine seq_take (o := ⟨_, _, _, _, _, _⟩) (v := ?_) (by rw [HO.out]; rfl) (by rfl) ?_ ?_
            rotate_left 1
            · first | ((intro W _; go_simp) <;> with_reducible rfl) | (intro W hW; obtain ⟨p0, p1, p2, p3, p4, p5, p6⟩ := HX.out.under hW; (go_simp <;> with_reducible rfl))
            try simp only [Act.put, List.setIfInBounds_toArray, List.set_cons_zero, List.set_cons_succ]
            refine seq_done ?_
            go_wp2_with fail
            go_meet
            exact ⟨_, rfl, hsf, (bAlloc (Below.refl _ _) _).drew, HTf⟩
          · have hadd := txt_add2 t (⟨#[107, 101, 101, 112]⟩ ++ ⟨#[32]⟩ ++ ⟨#[65]⟩) (by omega) (by decide)
            have HTf : Hid (Txt (t ++ (⟨#[107, 101, 101, 112]⟩ ++ ⟨#[32]⟩ ++ ⟨#[65]⟩)) _) := Lib.hid (HTx.out.add ((Txt.add rfl rfl).add rfl))
            have hsf : (t ++ (⟨#[107, 101, 101, 112]⟩ ++ ⟨#[32]⟩ ++ ⟨#[65]⟩) : ByteArray).size ≤ 600001000 := by rw [HTf.out.size, List.length_append, ← HTx.out.size]; simp; omega
            generalize (t ++ (⟨#[107, 101, 101, 112]⟩ ++ ⟨#[32]⟩ ++ ⟨#[65]⟩) : ByteArray) = t5 at *
            refine wp_region_seq (Below w3.heap.size w3) [(0, true), (2, true), (3, true), (7, true), (8, true), (9, true), (10, true), (11, true), (12, true), (1, false), (4, false), (5, false), (6, true), (13, true), (14, true), (15, true)] (by as_aux_lemma => kernel_rfl) (by as_aux_lemma => kernel_rfl) (by decide) (by as_aux_lemma => kernel_rfl) (Below.refl _ _).drew ?_
            intro OPS HO
            refine seq_take (o := ⟨_, _, _, _, _, _⟩) (v := ?_) (by rw [HO.out]; rfl) (by rfl) ?_ ?_
            rotate_left 1
            · first | ((intro W _; go_simp) <;> with_reducible rfl) | (intro W hW; obtain ⟨p0, p1, p2, p3, p4, p5, p6⟩ := HX.out.under hW; (go_simp <;> with_reducible rfl))
            try simp only [Act.put, List.setIfInBounds_toArray, List.set_cons_zero, List.set_cons_succ]
            refine seq_take (o := ⟨_, _, _, _, _, _⟩) (v := ?_) (by rw [HO.out]; rfl) (by rfl) ?_ ?_
            rotate_left 1
            · first | ((intro W _; go_simp) <;> with_reducible rfl) | (intro W hW; obtain ⟨p0, p1, p2, p3, p4, p5, p6⟩ := HX.out.under hW; (go_simp <;> with_reducible rfl))
            try simp only [Act.put, List.setIfInBounds_toArray, List.set_cons_zero, List.set_cons_succ]
            refine seq_take (o := ⟨_, _, _, _, _, _⟩) (v := ?_) (by rw [HO.out]; rfl) (by rfl) ?_ ?_
            rotate_left 1
            · first | ((intro W _; go_simp) <;> with_reducible rfl) | (intro W hW; obtain ⟨p0, p1, p2, p3, p4, p5, p6⟩ := HX.out.under hW; (go_simp <;> with_reducible rfl))
            try simp only [Act.put, List.setIfInBounds_toArray, List.set_cons_zero, List.set_cons_succ]
            refine seq_take (o := ⟨_, _, _, _, _, _⟩) (v := ?_) (by rw [HO.out]; rfl) (by rfl) ?_ ?_
            rotate_left 1
            · first | ((intro W _; go_simp) <;> with_reducible rfl) | (intro W hW; obtain ⟨p0, p1, p2, p3, p4, p5, p6⟩ := HX.out.under hW; (go_simp <;> with_reducible rfl))
            try simp only [Act.put, List.setIfInBounds_toArray, List.set_cons_zero, List.set_cons_succ]
            refine seq_take (o := ⟨_, _, _, _, _, _⟩) (v := ?_) (by rw [HO.out]; rfl) (by rfl) ?_ ?_
            rotate_left 1
            · first | ((intro W _; go_simp) <;> with_reducible rfl) | (intro W hW; obtain ⟨p0, p1, p2, p3, p4, p5, p6⟩ := HX.out.under hW; (go_simp <;> with_reducible rfl))
            try simp only [Act.put, List.setIfInBounds_toArray, List.set_cons_zero, List.set_cons_succ]
            refine seq_take (o := ⟨_, _, _, _, _, _⟩) (v := ?_) (by rw [HO.out]; rfl) (by rfl) ?_ ?_
            rotate_left 1
            · first | ((intro W _; go_simp) <;> with_reducible rfl) | (intro W hW; obtain ⟨p0, p1, p2, p3, p4, p5, p6⟩ := HX.out.under hW; (go_simp <;> with_reducible rfl))
            try simp only [Act.put, List.setIfInBounds_toArray, List.set_cons_zero, List.set_cons_succ]
            refine seq_take (o := ⟨_, _, _, _, _, _⟩) (v := ?_) (by rw [HO.out]; rfl) (by rfl) ?_ ?_
            rotate_left 1
            · first | ((intro W _; go_simp) <;> with_reducible rfl) | (intro W hW; obtain ⟨p0, p1, p2, p3, p4, p5, p6⟩ := HX.out.under hW; (go_simp <;> with_reducible rfl))
            try simp only [Act.put, List.setIfInBounds_toArray, List.set_cons_zero, List.set_cons_succ]
            refine seq_take (o := ⟨_, _, _, _, _, _⟩) (v := ?_) (by rw [HO.out]; rfl) (by rfl) ?_ ?_
            rotate_left 1
            · first | ((intro W _; go_simp) <;> with_reducible rfl) | (intro W hW; obtain ⟨p0, p1, p2, p3, p4, p5, p6⟩ := HX.out.under hW; (go_simp <;> with_reducible rfl))
            try simp only [Act.put, List.setIfInBounds_toArray, List.set_cons_zero, List.set_cons_succ]
            refine seq_take (o := ⟨_, _, _, _, _, _⟩) (v := ?_) (by rw [HO.out]; rfl) (by rfl) ?_ ?_
            rotate_left 1
            · first | ((intro W _; go_simp) <;> with_reducible rfl) | (intro W hW; obtain ⟨p0, p1, p2, p3, p4, p5, p6⟩ := HX.out.under hW; (go_simp <;> with_reducible rfl))
            try simp only [Act.put, List.setIfInBounds_toArray, List.set_cons_zero, List.set_cons_succ]
            have hS : Below w3.heap.size w3 w3.drew := (Below.refl _ _).drew
            refine seq_do (o := ⟨_, _, _, _, _, _⟩) (by rw [HO.out]; rfl) (by rfl) (fun K hK => ?_)
            go_wp2_with fail
            refine hK.out _ _ (bAlloc hS _) (fun _ => ?_)
            clear hK K
            try simp only [Act.put, List.setIfInBounds_toArray, List.set_cons_zero, List.set_cons_succ]
            refine seq_do (o := ⟨_, _, _, _, _, _⟩) (by rw [HO.out]; rfl) (by rfl) (fun K hK => ?_)
            go_wp2_with fail
            refine hK.out _ _ (bAlloc hS _) (fun _ => ?_)
            clear hK K
            try simp only [Act.put, List.setIfInBounds_toArray, List.set_cons_zero, List.set_cons_succ]
            refine seq_do (o := ⟨_, _, _, _, _, _⟩) (by rw [HO.out]; rfl) (by rfl) (fun K hK => ?_)
            go_wp2_with fail
            refine hK.out _ _ (bAlloc hS _) (fun _ => ?_)
            clear hK K
            try simp only [Act.put, List.setIfInBounds_toArray, List.set_cons_zero, List.set_cons_succ]
            refine seq_take (o := ⟨_, _, _, _, _, _⟩) (v := ?_) (by rw [HO.out]; rfl) (by rfl) ?_ ?_
            rotate_left 1
            · first | ((intro W _; go_simp) <;> with_reducible rfl) | (intro W hW; obtain ⟨p0, p1, p2, p3, p4, p5, p6⟩ := HX.out.under hW; (go_simp <;> with_reducible rfl))
            try simp only [Act.put, List.setIfInBounds_toArray, List.set_cons_zero, List.set_cons_succ]
            refine seq_take (o := ⟨_, _, _, _, _, _⟩) (v := ?_) (by rw [HO.out]; rfl) (by rfl) ?_ ?_
            rotate_left 1
            · first | ((intro W _; go_simp) <;> with_reducible rfl) | (intro W hW; obtain ⟨p0, p1, p2, p3, p4, p5, p6⟩ := HX.out.under hW; (go_simp <;> with_reducible rfl))
            try simp only [Act.put, List.setIfInBounds_toArray, List.set_cons_zero, List.set_cons_succ]
            refine seq_take (o := ⟨_, _, _, _, _, _⟩) (v := ?_) (by rw [HO.out]; rfl) (by rfl) ?_ ?_
            rotate_left 1
            · first | ((intro W _; go_simp) <;> with_reducible rfl) | (intro W hW; obtain ⟨p0, p1, p2, p3, p4, p5, p6⟩ := HX.out.under hW; (go_simp <;> with_reducible rfl))
            try simp only [Act.put, List.setIfInBounds_toArray, List.set_cons_zero, List.set_cons_succ]
            refine seq_take (o := ⟨_, _, _, _, _, _⟩) (v := ?_) (by rw [HO.out]; rfl) (by rfl) ?_ ?_
            rotate_left 1
            · first | ((intro W _; go_simp) <;> with_reducible rfl) | (intro W hW; obtain ⟨p0, p1, p2, p3, p4, p5, p6⟩ := HX.out.under hW; (go_simp <;> with_reducible rfl))
            try simp only [Act.put, List.setIfInBounds_toArray, List.set_cons_zero, List.set_cons_succ]
            refine seq_done ?_
            go_wp2_with fail
            go_meet
            exact ⟨_, rfl, hsf, (bAlloc (Below.refl _ _) _).drew, HTf⟩
          · have hadd := txt_add2 t (⟨#[107, 101, 101, 112]⟩ ++ ⟨#[32]⟩ ++ ⟨#[66]⟩) (by omega) (by decide)
            have HTf : Hid (Txt (t ++ (⟨#[107, 101, 101, 112]⟩ ++ ⟨#[32]⟩ ++ ⟨#[66]⟩)) _) := Lib.hid (HTx.out.add ((Txt.add rfl rfl).add rfl))
            have hsf : (t ++ (⟨#[107, 101, 101, 112]⟩ ++ ⟨#[32]⟩ ++ ⟨#[66]⟩) : ByteArray).size ≤ 600001000 := by rw [HTf.out.size, List.length_append, ← HTx.out.size]; simp; omega
            generalize (t ++ (⟨#[107, 101, 101, 112]⟩ ++ ⟨#[32]⟩ ++ ⟨#[66]⟩) : ByteArray) = t5 at *
            refine wp_region_seq (Below w3.heap.size w3) [(0, true), (2, true), (3, true), (7, true), (8, true), (9, true), (10, true), (11, true), (12, true), (1, false), (4, false), (5, false), (6, true), (13, true), (14, true), (15, true)] (by as_aux_lemma => kernel_rfl) (by as_aux_lemma => kernel_rfl) (by decide) (by as_aux_lemma => kernel_rfl) (Below.refl _ _).drew ?_
            intro OPS HO
            refine seq_take (o := ⟨_, _, _, _, _, _⟩) (v := ?_) (by rw [HO.out]; rfl) (by rfl) ?_ ?_
            rotate_left 1
            · first | ((intro W _; go_simp) <;> with_reducible rfl) | (intro W hW; obtain ⟨p0, p1, p2, p3, p4, p5, p6⟩ := HX.out.under hW; (go_simp <;> with_reducible rfl))
            try simp only [Act.put, List.setIfInBounds_toArray, List.set_cons_zero, List.set_cons_succ]
            refine seq_take (o := ⟨_, _, _, _, _, _⟩) (v := ?_) (by rw [HO.out]; rfl) (by rfl) ?_ ?_
            rotate_left 1
            · first | ((intro W _; go_simp) <;> with_reducible rfl) | (intro W hW; obtain ⟨p0, p1, p2, p3, p4, p5, p6⟩ := HX.out.under hW; (go_simp <;> with_reducible rfl))
            try simp only [Act.put, List.setIfInBounds_toArray, List.set_cons_zero, List.set_cons_succ]
            refine seq_take (o := ⟨_, _, _, _, _, _⟩) (v := ?_) (by rw [HO.out]; rfl) (by rfl) ?_ ?_
            rotate_left 1
            · first | ((intro W _; go_simp) <;> with_reducible rfl) | (intro W hW; obtain ⟨p0, p1, p2, p3, p4, p5, p6⟩ := HX.out.under hW; (go_simp <;> with_reducible rfl))
            try simp only [Act.put, List.setIfInBounds_toArray, List.set_cons_zero, List.set_cons_succ]
            refine seq_take (o := ⟨_, _, _, _, _, _⟩) (v := ?_) (by rw [HO.out]; rfl) (by rfl) ?_ ?_
            rotate_left 1
            · first | ((intro W _; go_simp) <;> with_reducible rfl) | (intro W hW; obtain ⟨p0, p1, p2, p3, p4, p5, p6⟩ := HX.out.under hW; (go_simp <;> with_reducible rfl))
            try simp only [Act.put, List.setIfInBounds_toArray, List.set_cons_zero, List.set_cons_succ]
            refine seq_take (o := ⟨_, _, _, _, _, _⟩) (v := ?_) (by rw [HO.out]; rfl) (by rfl) ?_ ?_
            rotate_left 1
            · first | ((intro W _; go_simp) <;> with_reducible rfl) | (intro W hW; obtain ⟨p0, p1, p2, p3, p4, p5, p6⟩ := HX.out.under hW; (go_simp <;> with_reducible rfl))
            try simp only [Act.put, List.setIfInBounds_toArray, List.set_cons_zero, List.set_cons_succ]
            refine seq_take (o := ⟨_, _, _, _, _, _⟩) (v := ?_) (by rw [HO.out]; rfl) (by rfl) ?_ ?_
            rotate_left 1
            · first | ((intro W _; go_simp) <;> with_reducible rfl) | (intro W hW; obtain ⟨p0, p1, p2, p3, p4, p5, p6⟩ := HX.out.under hW; (go_simp <;> with_reducible rfl))
            try simp only [Act.put, List.setIfInBounds_toArray, List.set_cons_zero, List.set_cons_succ]
            refine seq_take (o := ⟨_, _, _, _, _, _⟩) (v := ?_) (by rw [HO.out]; rfl) (by rfl) ?_ ?_
            rotate_left 1
            · first | ((intro W _; go_simp) <;> with_reducible rfl) | (intro W hW; obtain ⟨p0, p1, p2, p3, p4, p5, p6⟩ := HX.out.under hW; (go_simp <;> with_reducible rfl))
            try simp only [Act.put, List.setIfInBounds_toArray, List.set_cons_zero, List.set_cons_succ]
            refine seq_take (o := ⟨_, _, _, _, _, _⟩) (v := ?_) (by rw [HO.out]; rfl) (by rfl) ?_ ?_
            rotate_left 1
            · first | ((intro W _; go_simp) <;> with_reducible rfl) | (intro W hW; obtain ⟨p0, p1, p2, p3, p4, p5, p6⟩ := HX.out.under hW; (go_simp <;> with_reducible rfl))
            try simp only [Act.put, List.setIfInBounds_toArray, List.set_cons_zero, List.set_cons_succ]
            refine seq_take (o := ⟨_, _, _, _, _, _⟩) (v := ?_) (by rw [HO.out]; rfl) (by rfl) ?_ ?_
            rotate_left 1
            · first | ((intro W _; go_simp) <;> with_reducible rfl) | (intro W hW; obtain ⟨p0, p1, p2, p3, p4, p5, p6⟩ := HX.out.under hW; (go_simp <;> with_reducible rfl))
            try simp only [Act.put, List.setIfInBounds_toArray, List.set_cons_zero, List.set_cons_succ]
            have hS : Below w3.heap.size w3 w3.drew := (Below.refl _ _).drew
            refine seq_do (o := ⟨_, _, _, _, _, _⟩) (by rw [HO.out]; rfl) (by rfl) (fun K hK => ?_)
            go_wp2_with fail
            refine hK.out _ _ (bAlloc hS _) (fun _ => ?_)
            clear hK K
            try simp only [Act.put, List.setIfInBounds_toArray, List.set_cons_zero, List.set_cons_succ]
            refine seq_do (o := ⟨_, _, _, _, _, _⟩) (by rw [HO.out]; rfl) (by rfl) (fun K hK => ?_)
            go_wp2_with fail
            refine hK.out _ _ (bAlloc hS _) (fun _ => ?_)
            clear hK K
            try simp only [Act.put, List.setIfInBounds_toArray, List.set_cons_zero, List.set_cons_succ]
            refine seq_do (o := ⟨_, _, _, _, _, _⟩) (by rw [HO.out]; rfl) (by rfl) (fun K hK => ?_)
            go_wp2_with fail
            refine hK.out _ _ (bAlloc hS _) (fun _ => ?_)
            clear hK K
            try simp only [Act.put, List.setIfInBounds_toArray, List.set_cons_zero, List.set_cons_succ]
            refine seq_take (o := ⟨_, _, _, _, _, _⟩) (v := ?_) (by rw [HO.out]; rfl) (by rfl) ?_ ?_
            rotate_left 1
            · first | ((intro W _; go_simp) <;> with_reducible rfl) | (intro W hW; obtain ⟨p0, p1, p2, p3, p4, p5, p6⟩ := HX.out.under hW; (go_simp <;> with_reducible rfl))
            try simp only [Act.put, List.setIfInBounds_toArray, List.set_cons_zero, List.set_cons_succ]
            refine seq_take (o := ⟨_, _, _, _, _, _⟩) (v := ?_) (by rw [HO.out]; rfl) (by rfl) ?_ ?_
            rotate_left 1
            · first | ((intro W _; go_simp) <;> with_reducible rfl) | (intro W hW; obtain ⟨p0, p1, p2, p3, p4, p5, p6⟩ := HX.out.under hW; (go_simp <;> with_reducible rfl))
            try simp only [Act.put, List.setIfInBounds_toArray, List.set_cons_zero, List.set_cons_succ]
            refine seq_take (o := ⟨_, _, _, _, _, _⟩) (v := ?_) (by rw [HO.out]; rfl) (by rfl) ?_ ?_
            rotate_left 1
            · first | ((intro W _; go_simp) <;> with_reducible rfl) | (intro W hW; obtain ⟨p0, p1, p2, p3, p4, p5, p6⟩ := HX.out.under hW; (go_simp <;> with_reducible rfl))
            try simp only [Act.put, List.setIfInBounds_toArray, List.set_cons_zero, List.set_cons_succ]
            refine seq_take (o := ⟨_, _, _, _, _, _⟩) (v := ?_) (by rw [HO.out]; rfl) (by rfl) ?_ ?_
            rotate_left 1
            · first | ((intro W _; go_simp) <;> with_reducible rfl) | (intro W hW; obtain ⟨p0, p1, p2, p3, p4, p5, p6⟩ := HX.out.under hW; (go_simp <;> with_reducible rfl))
            try simp only [Act.put, List.setIfInBounds_toArray, List.set_cons_zero, List.set_cons_succ]
            refine seq_done ?_
            go_wp2_with fail
            go_meet
            exact ⟨_, rfl, hsf, (bAlloc (Below.refl _ _) _).drew, HTf⟩
          · have hadd := txt_add2 t (⟨#[114, 101, 109, 111, 118, 101]⟩ ++ ⟨#[32]⟩ ++ ⟨#[65]⟩) (by omega) (by decide)
            have HTf : Hid (Txt (t ++ (⟨#[114, 101, 109, 111, 118, 101]⟩ ++ ⟨#[32]⟩ ++ ⟨#[65]⟩)) _) := Lib.hid (HTx.out.add ((Txt.add rfl rfl).add rfl))
            have hsf : (t ++ (⟨#[114, 101, 109, 111, 118, 101]⟩ ++ ⟨#[32]⟩ ++ ⟨#[65]⟩) : ByteArray).size ≤ 600001000 := by rw [HTf.out.size, List.length_append, ← HTx.out.size]; simp; omega
            generalize (t ++ (⟨#[114, 101, 109, 111, 118, 101]⟩ ++ ⟨#[32]⟩ ++ ⟨#[65]⟩) : ByteArray) = t5 at *
            refine wp_region_seq (Below w3.heap.size w3) [(0, true), (2, true), (3, true), (7, true), (8, true), (9, true), (10, true), (11, true), (12, true), (1, false), (4, false), (5, false), (6, true), (13, true), (14, true), (15, true)] (by as_aux_lemma => kernel_rfl) (by as_aux_lemma => kernel_rfl) (by decide) (by as_aux_lemma => kernel_rfl) (Below.refl _ _).drew ?_
            intro OPS HO
            refine seq_take (o := ⟨_, _, _, _, _, _⟩) (v := ?_) (by rw [HO.out]; rfl) (by rfl) ?_ ?_
            rotate_left 1
            · first | ((intro W _; go_simp) <;> with_reducible rfl) | (intro W hW; obtain ⟨p0, p1, p2, p3, p4, p5, p6⟩ := HX.out.under hW; (go_simp <;> with_reducible rfl))
            try simp only [Act.put, List.setIfInBounds_toArray, List.set_cons_zero, List.set_cons_succ]
            refine seq_take (o := ⟨_, _, _, _, _, _⟩) (v := ?_) (by rw [HO.out]; rfl) (by rfl) ?_ ?_
            rotate_left 1
            · first | ((intro W _; go_simp) <;> with_reducible rfl) | (intro W hW; obtain ⟨p0, p1, p2, p3, p4, p5, p6⟩ := HX.out.under hW; (go_simp <;> with_reducible rfl))
            try simp only [Act.put, List.setIfInBounds_toArray, List.set_cons_zero, List.set_cons_succ]
            refine seq_take (o := ⟨_, _, _, _, _, _⟩) (v := ?_) (by rw [HO.out]; rfl) (by rfl) ?_ ?_
            rotate_left 1
            · first | ((intro W _; go_simp) <;> with_reducible rfl) | (intro W hW; obtain ⟨p0, p1, p2, p3, p4, p5, p6⟩ := HX.out.under hW; (go_simp <;> with_reducible rfl))
            try simp only [Act.put, List.setIfInBounds_toArray, List.set_cons_zero, List.set_cons_succ]
            refine seq_take (o := ⟨_, _, _, _, _, _⟩) (v := ?_) (by rw [HO.out]; rfl) (by rfl) ?_ ?_
            rotate_left 1
            · first | ((intro W _; go_simp) <;> with_reducible rfl) | (intro W hW; obtain ⟨p0, p1, p2, p3, p4, p5, p6⟩ := HX.out.under hW; (go_simp <;> with_reducible rfl))
            try simp only [Act.put, List.setIfInBounds_toArray, List.set_cons_zero, List.set_cons_succ]
            refine seq_take (o := ⟨_, _, _, _, _, _⟩) (v := ?_) (by rw [HO.out]; rfl) (by rfl) ?_ ?_
            rotate_left 1
            · first | ((intro W _; go_simp) <;> with_reducible rfl) | (intro W hW; obtain ⟨p0, p1, p2, p3, p4, p5, p6⟩ := HX.out.under hW; (go_simp <;> with_reducible rfl))
            try simp only [Act.put, List.setIfInBounds_toArray, List.set_cons_zero, List.set_cons_succ]
            refine seq_take (o := ⟨_, _, _, _, _, _⟩) (v := ?_) (by rw [HO.out]; rfl) (by rfl) ?_ ?_
            rotate_left 1
            · first | ((intro W _; go_simp) <;> with_reducible rfl) | (intro W hW; obtain ⟨p0, p1, p2, p3, p4, p5, p6⟩ := HX.out.under hW; (go_simp <;> with_reducible rfl))
            try simp only [Act.put, List.setIfInBounds_toArray, List.set_cons_zero, List.set_cons_succ]
            refine seq_take (o := ⟨_, _, _, _, _, _⟩) (v := ?_) (by rw [HO.out]; rfl) (by rfl) ?_ ?_
            rotate_left 1
            · first | ((intro W _; go_simp) <;> with_reducible rfl) | (intro W hW; obtain ⟨p0, p1, p2, p3, p4, p5, p6⟩ := HX.out.under hW; (go_simp <;> with_reducible rfl))
            try simp only [Act.put, List.setIfInBounds_toArray, List.set_cons_zero, List.set_cons_succ]
            refine seq_take (o := ⟨_, _, _, _, _, _⟩) (v := ?_) (by rw [HO.out]; rfl) (by rfl) ?_ ?_
            rotate_left 1
            · first | ((intro W _; go_simp) <;> with_reducible rfl) | (intro W hW; obtain ⟨p0, p1, p2, p3, p4, p5, p6⟩ := HX.out.under hW; (go_simp <;> with_reducible rfl))
            try simp only [Act.put, List.setIfInBounds_toArray, List.set_cons_zero, List.set_cons_succ]
            refine seq_take (o := ⟨_, _, _, _, _, _⟩) (v := ?_) (by rw [HO.out]; rfl) (by rfl) ?_ ?_
            rotate_left 1
            · first | ((intro W _; go_simp) <;> with_reducible rfl) | (intro W hW; obtain ⟨p0, p1, p2, p3, p4, p5, p6⟩ := HX.out.under hW; (go_simp <;> with_reducible rfl))
            try simp only [Act.put, List.setIfInBounds_toArray, List.set_cons_zero, List.set_cons_succ]
            have hS : Below w3.heap.size w3 w3.drew := (Below.refl _ _).drew
            refine seq_do (o := ⟨_, _, _, _, _, _⟩) (by rw [HO.out]; rfl) (by rfl) (fun K hK => ?_)
            go_wp2_with fail
            refine hK.out _ _ (bAlloc hS _) (fun _ => ?_)
            clear hK K
            try simp only [Act.put, List.setIfInBounds_toArray, List.set_cons_zero, List.set_cons_succ]
            refine seq_do (o := ⟨_, _, _, _, _, _⟩) (by rw [HO.out]; rfl) (by rfl) (fun K hK => ?_)
            go_wp2_with fail
            refine hK.out _ _ (bAlloc hS _) (fun _ => ?_)
            clear hK K
            try simp only [Act.put, List.setIfInBounds_toArray, List.set_cons_zero, List.set_cons_succ]
            refine seq_do (o := ⟨_, _, _, _, _, _⟩) (by rw [HO.out]; rfl) (by rfl) (fun K hK => ?_)
            go_wp2_with fail
            refine hK.out _ _ (bAlloc hS _) (fun _ => ?_)
            clear hK K
            try simp only [Act.put, List.setIfInBounds_toArray, List.set_cons_zero, List.set_cons_succ]
            refine seq_take (o := ⟨_, _, _, _, _, _⟩) (v := ?_) (by rw [HO.out]; rfl) (by rfl) ?_ ?_
            rotate_left 1
            · first | ((intro W _; go_simp) <;> with_reducible rfl) | (intro W hW; obtain ⟨p0, p1, p2, p3, p4, p5, p6⟩ := HX.out.under hW; (go_simp <;> with_reducible rfl))
            try simp only [Act.put, List.setIfInBounds_toArray, List.set_cons_zero, List.set_cons_succ]
            refine seq_take (o := ⟨_, _, _, _, _, _⟩) (v := ?_) (by rw [HO.out]; rfl) (by rfl) ?_ ?_
            rotate_left 1
            · first | ((intro W _; go_simp) <;> with_reducible rfl) | (intro W hW; obtain ⟨p0, p1, p2, p3, p4, p5, p6⟩ := HX.out.under hW; (go_simp <;> with_reducible rfl))
            try simp only [Act.put, List.setIfInBounds_toArray, List.set_cons_zero, List.set_cons_succ]
            refine seq_take (o := ⟨_, _, _, _, _, _⟩) (v := ?_) (by rw [HO.out]; rfl) (by rfl) ?_ ?_
            rotate_left 1
            · first | ((intro W _; go_simp) <;> with_reducible rfl) | (intro W hW; obtain ⟨p0, p1, p2, p3, p4, p5, p6⟩ := HX.out.under hW; (go_simp <;> with_reducible rfl))
            try simp only [Act.put, List.setIfInBounds_toArray, List.set_cons_zero, List.set_cons_succ]
            refine seq_take (o := ⟨_, _, _, _, _, _⟩) (v := ?_) (by rw [HO.out]; rfl) (by rfl) ?_ ?_
            rotate_left 1
            · first | ((intro W _; go_simp) <;> with_reducible rfl) | (intro W hW; obtain ⟨p0, p1, p2, p3, p4, p5, p6⟩ := HX.out.under hW; (go_simp <;> with_reducible rfl))
            try simp only [Act.put, List.setIfInBounds_toArray, List.set_cons_zero, List.set_cons_succ]
            refine seq_done ?_
            go_wp2_with fail
            go_meet
            exact ⟨_, rfl, hsf, (bAlloc (Below.refl _ _) _).drew, HTf⟩
          · have hadd := txt_add2 t (⟨#[114, 101, 109, 111, 118, 101]⟩ ++ ⟨#[32]⟩ ++ ⟨#[66]⟩) (by omega) (by decide)
            have HTf : Hid (Txt (t ++ (⟨#[114, 101, 109, 111, 118, 101]⟩ ++ ⟨#[32]⟩ ++ ⟨#[66]⟩)) _) := Lib.hid (HTx.out.add ((Txt.add rfl rfl).add rfl))
            have hsf : (t ++ (⟨#[114, 101, 109, 111, 118, 101]⟩ ++ ⟨#[32]⟩ ++ ⟨#[66]⟩) : ByteArray).size ≤ 600001000 := by rw [HTf.out.size, List.length_append, ← HTx.out.size]; simp; omega
            generalize (t ++ (⟨#[114, 101, 109, 111, 118, 101]⟩ ++ ⟨#[32]⟩ ++ ⟨#[66]⟩) : ByteArray) = t5 at *
            refine wp_region_seq (Below w3.heap.size w3) [(0, true), (2, true), (3, true), (7, true), (8, true), (9, true), (10, true), (11, true), (12, true), (1, false), (4, false), (5, false), (6, true), (13, true), (14, true), (15, true)] (by as_aux_lemma => kernel_rfl) (by as_aux_lemma => kernel_rfl) (by decide) (by as_aux_lemma => kernel_rfl) (Below.refl _ _).drew ?_
            intro OPS HO
            refine seq_take (o := ⟨_, _, _, _, _, _⟩) (v := ?_) (by rw [HO.out]; rfl) (by rfl) ?_ ?_
            rotate_left 1
            · first | ((intro W _; go_simp) <;> with_reducible rfl) | (intro W hW; obtain ⟨p0, p1, p2, p3, p4, p5, p6⟩ := HX.out.under hW; (go_simp <;> with_reducible rfl))
            try simp only [Act.put, List.setIfInBounds_toArray, List.set_cons_zero, List.set_cons_succ]
            refine seq_take (o := ⟨_, _, _, _, _, _⟩) (v := ?_) (by rw [HO.out]; rfl) (by rfl) ?_ ?_
            rotate_left 1
            · first | ((intro W _; go_simp) <;> with_reducible rfl) | (intro W hW; obtain ⟨p0, p1, p2, p3, p4, p5, p6⟩ := HX.out.under hW; (go_simp <;> with_reducible rfl))
            try simp only [Act.put, List.setIfInBounds_toArray, List.set_cons_zero, List.set_cons_succ]
            refine seq_take (o := ⟨_, _, _, _, _, _⟩) (v := ?_) (by rw [HO.out]; rfl) (by rfl) ?_ ?_
            rotate_left 1
            · first | ((intro W _; go_simp) <;> with_reducible rfl) | (intro W hW; obtain ⟨p0, p1, p2, p3, p4, p5, p6⟩ := HX.out.under hW; (go_simp <;> with_reducible rfl))
            try simp only [Act.put, List.setIfInBounds_toArray, List.set_cons_zero, List.set_cons_succ]
            refine seq_take (o := ⟨_, _, _, _, _, _⟩) (v := ?_) (by rw [HO.out]; rfl) (by rfl) ?_ ?_
            rotate_left 1
            · first | ((intro W _; go_simp) <;> with_reducible rfl) | (intro W hW; obtain ⟨p0, p1, p2, p3, p4, p5, p6⟩ := HX.out.under hW; (go_simp <;> with_reducible rfl))
            try simp only [Act.put, List.setIfInBounds_toArray, List.set_cons_zero, List.set_cons_succ]
            refine seq_take (o := ⟨_, _, _, _, _, _⟩) (v := ?_) (by rw [HO.out]; rfl) (by rfl) ?_ ?_
            rotate_left 1
            · first | ((intro W _; go_simp) <;> with_reducible rfl) | (intro W hW; obtain ⟨p0, p1, p2, p3, p4, p5, p6⟩ := HX.out.under hW; (go_simp <;> with_reducible rfl))
            try simp only [Act.put, List.setIfInBounds_toArray, List.set_cons_zero, List.set_cons_succ]
            refine seq_take (o := ⟨_, _, _, _, _, _⟩) (v := ?_) (by rw [HO.out]; rfl) (by rfl) ?_ ?_
            rotate_left 1
            · first | ((intro W _; go_simp) <;> with_reducible rfl) | (intro W hW; obtain ⟨p0, p1, p2, p3, p4, p5, p6⟩ := HX.out.under hW; (go_simp <;> with_reducible rfl))
            try simp only [Act.put, List.setIfInBounds_toArray, List.set_cons_zero, List.set_cons_succ]
            refine seq_take (o := ⟨_, _, _, _, _, _⟩) (v := ?_) (by rw [HO.out]; rfl) (by rfl) ?_ ?_
            rotate_left 1
            · first | ((intro W _; go_simp) <;> with_reducible rfl) | (intro W hW; obtain ⟨p0, p1, p2, p3, p4, p5, p6⟩ := HX.out.under hW; (go_simp <;> with_reducible rfl))
            try simp only [Act.put, List.setIfInBounds_toArray, List.set_cons_zero, List.set_cons_succ]
            refine seq_take (o := ⟨_, _, _, _, _, _⟩) (v := ?_) (by rw [HO.out]; rfl) (by rfl) ?_ ?_
            rotate_left 1
            · first | ((intro W _; go_simp) <;> with_reducible rfl) | (intro W hW; obtain ⟨p0, p1, p2, p3, p4, p5, p6⟩ := HX.out.under hW; (go_simp <;> with_reducible rfl))
            try simp only [Act.put, List.setIfInBounds_toArray, List.set_cons_zero, List.set_cons_succ]
            refine seq_take (o := ⟨_, _, _, _, _, _⟩) (v := ?_) (by rw [HO.out]; rfl) (by rfl) ?_ ?_
            rotate_left 1
            · first | ((intro W _; go_simp) <;> with_reducible rfl) | (intro W hW; obtain ⟨p0, p1, p2, p3, p4, p5, p6⟩ := HX.out.under hW; (go_simp <;> with_reducible rfl))
            try simp only [Act.put, List.setIfInBounds_toArray, List.set_cons_zero, List.set_cons_succ]
            have hS : Below w3.heap.size w3 w3.drew := (Below.refl _ _).drew
            refine seq_do (o := ⟨_, _, _, _, _, _⟩) (by rw [HO.out]; rfl) (by rfl) (fun K hK => ?_)
            go_wp2_with fail
            refine hK.out _ _ (bAlloc hS _) (fun _ => ?_)
            clear hK K
            try simp only [Act.put, List.setIfInBounds_toArray, List.set_cons_zero, List.set_cons_succ]
            refine seq_do (o := ⟨_, _, _, _, _, _⟩) (by rw [HO.out]; rfl) (by rfl) (fun K hK => ?_)
            go_wp2_with fail
            refine hK.out _ _ (bAlloc hS _) (fun _ => ?_)
            clear hK K
            try simp only [Act.put, List.setIfInBounds_toArray, List.set_cons_zero, List.set_cons_succ]
            refine seq_do (o := ⟨_, _, _, _, _, _⟩) (by rw [HO.out]; rfl) (by rfl) (fun K hK => ?_)
            go_wp2_with fail
            refine hK.out _ _ (bAlloc hS _) (fun _ => ?_)
            clear hK K
            try simp only [Act.put, List.setIfInBounds_toArray, List.set_cons_zero, List.set_cons_succ]
            refine seq_take (o := ⟨_, _, _, _, _, _⟩) (v := ?_) (by rw [HO.out]; rfl) (by rfl) ?_ ?_
            rotate_left 1
            · first | ((intro W _; go_simp) <;> with_reducible rfl) | (intro W hW; obtain ⟨p0, p1, p2, p3, p4, p5, p6⟩ := HX.out.under hW; (go_simp <;> with_reducible rfl))
            try simp only [Act.put, List.setIfInBounds_toArray, List.set_cons_zero, List.set_cons_succ]
            refine seq_take (o := ⟨_, _, _, _, _, _⟩) (v := ?_) (by rw [HO.out]; rfl) (by rfl) ?_ ?_
            rotate_left 1
            · first | ((intro W _; go_simp) <;> with_reducible rfl) | (intro W hW; obtain ⟨p0, p1, p2, p3, p4, p5, p6⟩ := HX.out.under hW; (go_simp <;> with_reducible rfl))
            try simp only [Act.put, List.setIfInBounds_toArray, List.set_cons_zero, List.set_cons_succ]
            refine seq_take (o := ⟨_, _, _, _, _, _⟩) (v := ?_) (by rw [HO.out]; rfl) (by rfl) ?_ ?_
            rotate_left 1
            · first | ((intro W _; go_simp) <;> with_reducible rfl) | (intro W hW; obtain ⟨p0, p1, p2, p3, p4, p5, p6⟩ := HX.out.under hW; (go_simp <;> with_reducible rfl))
            try simp only [Act.put, List.setIfInBounds_toArray, List.set_cons_zero, List.set_cons_succ]
            refine seq_take (o := ⟨_, _, _, _, _, _⟩) (v := ?_) (by rw [HO.out]; rfl) (by rfl) ?_ ?_
            rotate_left 1
            · first | ((intro W _; go_simp) <;> with_reducible rfl) | (intro W hW; obtain ⟨p0, p1, p2, p3, p4, p5, p6⟩ := HX.out.under hW; (go_simp <;> with_reducible rfl))
            try simp only [Act.put, List.setIfInBounds_toArray, List.set_cons_zero, List.set_cons_succ]
            refine seq_done ?_
            go_wp2_with fail
            go_meet
            exact ⟨_, rfl, hsf, (bAlloc (Below.refl _ _) _).drew, HTf⟩
          · have hadd := txt_add2 t (⟨#[99, 108, 101, 97, 114]⟩ ++ ⟨#[32]⟩ ++ ⟨#[65]⟩) (by omega) (by decide)
            have HTf : Hid (Txt (t ++ (⟨#[99, 108, 101, 97, 114]⟩ ++ ⟨#[32]⟩ ++ ⟨#[65]⟩)) _) := Lib.hid (HTx.out.add ((Txt.add rfl rfl).add rfl))
            have hsf : (t ++ (⟨#[99, 108, 101, 97, 114]⟩ ++ ⟨#[32]⟩ ++ ⟨#[65]⟩) : ByteArray).size ≤ 600001000 := by rw [HTf.out.size, List.length_append, ← HTx.out.size]; simp; omega
            generalize (t ++ (⟨#[99, 108, 101, 97, 114]⟩ ++ ⟨#[32]⟩ ++ ⟨#[65]⟩) : ByteArray) = t5 at *
            refine wp_region_seq (Below w3.heap.size w3) [(0, true), (2, true), (3, true), (7, true), (8, true), (9, true), (10, true), (11, true), (12, true), (1, false), (4, false), (5, false), (6, true), (13, true), (14, true), (15, true)] (by as_aux_lemma => kernel_rfl) (by as_aux_lemma => kernel_rfl) (by decide) (by as_aux_lemma => kernel_rfl) (Below.refl _ _).drew ?_
            intro OPS HO
            refine seq_take (o := ⟨_, _, _, _, _, _⟩) (v := ?_) (by rw [HO.out]; rfl) (by rfl) ?_ ?_
            rotate_left 1
            · first | ((intro W _; go_simp) <;> with_reducible rfl) | (intro W hW; obtain ⟨p0, p1, p2, p3, p4, p5, p6⟩ := HX.out.under hW; (go_simp <;> with_reducible rfl))
            try simp only [Act.put, List.setIfInBounds_toArray, List.set_cons_zero, List.set_cons_succ]
            refine seq_take (o := ⟨_, _, _, _, _, _⟩) (v := ?_) (by rw [HO.out]; rfl) (by rfl) ?_ ?_
            rotate_left 1
            · first | ((intro W _; go_simp) <;> with_reducible rfl) | (intro W hW; obtain ⟨p0, p1, p2, p3, p4, p5, p6⟩ := HX.out.under hW; (go_simp <;> with_reducible rfl))
            try simp only [Act.put, List.setIfInBounds_toArray, List.set_cons_zero, List.set_cons_succ]
            refine seq_take (o := ⟨_, _, _, _, _, _⟩) (v := ?_) (by rw [HO.out]; rfl) (by rfl) ?_ ?_
            rotate_left 1
            · first | ((intro W _; go_simp) <;> with_reducible rfl) | (intro W hW; obtain ⟨p0, p1, p2, p3, p4, p5, p6⟩ := HX.out.under hW; (go_simp <;> with_reducible rfl))
            try simp only [Act.put, List.setIfInBounds_toArray, List.set_cons_zero, List.set_cons_succ]
            refine seq_take (o := ⟨_, _, _, _, _, _⟩) (v := ?_) (by rw [HO.out]; rfl) (by rfl) ?_ ?_
            rotate_left 1
            · first | ((intro W _; go_simp) <;> with_reducible rfl) | (intro W hW; obtain ⟨p0, p1, p2, p3, p4, p5, p6⟩ := HX.out.under hW; (go_simp <;> with_reducible rfl))
            try simp only [Act.put, List.setIfInBounds_toArray, List.set_cons_zero, List.set_cons_succ]
            refine seq_take (o := ⟨_, _, _, _, _, _⟩) (v := ?_) (by rw [HO.out]; rfl) (by rfl) ?_ ?_
            rotate_left 1
            · first | ((intro W _; go_simp) <;> with_reducible rfl) | (intro W hW; obtain ⟨p0, p1, p2, p3, p4, p5, p6⟩ := HX.out.under hW; (go_simp <;> with_reducible rfl))
            try simp only [Act.put, List.setIfInBounds_toArray, List.set_cons_zero, List.set_cons_succ]
            refine seq_take (o := ⟨_, _, _, _, _, _⟩) (v := ?_) (by rw [HO.out]; rfl) (by rfl) ?_ ?_
            rotate_left 1
            · first | ((intro W _; go_simp) <;> with_reducible rfl) | (intro W hW; obtain ⟨p0, p1, p2, p3, p4, p5, p6⟩ := HX.out.under hW; (go_simp <;> with_reducible rfl))
            try simp only [Act.put, List.setIfInBounds_toArray, List.set_cons_zero, List.set_cons_succ]
            refine seq_take (o := ⟨_, _, _, _, _, _⟩) (v := ?_) (by rw [HO.out]; rfl) (by rfl) ?_ ?_
            rotate_left 1
            · first | ((intro W _; go_simp) <;> with_reducible rfl) | (intro W hW; obtain ⟨p0, p1, p2, p3, p4, p5, p6⟩ := HX.out.under hW; (go_simp <;> with_reducible rfl))
            try simp only [Act.put, List.setIfInBounds_toArray, List.set_cons_zero, List.set_cons_succ]
            refine seq_take (o := ⟨_, _, _, _, _, _⟩) (v := ?_) (by rw [HO.out]; rfl) (by rfl) ?_ ?_
            rotate_left 1
            · first | ((intro W _; go_simp) <;> with_reducible rfl) | (intro W hW; obtain ⟨p0, p1, p2, p3, p4, p5, p6⟩ := HX.out.under hW; (go_simp <;> with_reducible rfl))
            try simp only [Act.put, List.setIfInBounds_toArray, List.set_cons_zero, List.set_cons_succ]
            refine seq_take (o := ⟨_, _, _, _, _, _⟩) (v := ?_) (by rw [HO.out]; rfl) (by rfl) ?_ ?_
            rotate_left 1
            · first | ((intro W _; go_simp) <;> with_reducible rfl) | (intro W hW; obtain ⟨p0, p1, p2, p3, p4, p5, p6⟩ := HX.out.under hW; (go_simp <;> with_reducible rfl))
            try simp only [Act.put, List.setIfInBounds_toArray, List.set_cons_zero, List.set_cons_succ]
            have hS : Below w3.heap.size w3 w3.drew := (Below.refl _ _).drew
            refine seq_do (o := ⟨_, _, _, _, _, _⟩) (by rw [HO.out]; rfl) (by rfl) (fun K hK => ?_)
            go_wp2_with fail
            refine hK.out _ _ (bAlloc hS _) (fun _ => ?_)
            clear hK K
            try simp only [Act.put, List.setIfInBounds_toArray, List.set_cons_zero, List.set_cons_succ]
            refine seq_do (o := ⟨_, _, _, _, _, _⟩) (by rw [HO.out]; rfl) (by rfl) (fun K hK => ?_)
            go_wp2_with fail
            refine hK.out _ _ (bAlloc hS _) (fun _ => ?_)
            clear hK K
            try simp only [Act.put, List.setIfInBounds_toArray, List.set_cons_zero, List.set_cons_succ]
            refine seq_do (o := ⟨_, _, _, _, _, _⟩) (by rw [HO.out]; rfl) (by rfl) (fun K hK => ?_)
            go_wp2_with fail
            refine hK.out _ _ (bAlloc hS _) (fun _ => ?_)
            clear hK K
            try simp only [Act.put, List.setIfInBounds_toArray, List.set_cons_zero, List.set_cons_succ]
            refine seq_take (o := ⟨_, _, _, _, _, _⟩) (v := ?_) (by rw [HO.out]; rfl) (by rfl) ?_ ?_
            rotate_left 1
            · first | ((intro W _; go_simp) <;> with_reducible rfl) | (intro W hW; obtain ⟨p0, p1, p2, p3, p4, p5, p6⟩ := HX.out.under hW; (go_simp <;> with_reducible rfl))
            try simp only [Act.put, List.setIfInBounds_toArray, List.set_cons_zero, List.set_cons_succ]
            refine seq_take (o := ⟨_, _, _, _, _, _⟩) (v := ?_) (by rw [HO.out]; rfl) (by rfl) ?_ ?_
            rotate_left 1
            · first | ((intro W _; go_simp) <;> with_reducible rfl) | (intro W hW; obtain ⟨p0, p1, p2, p3, p4, p5, p6⟩ := HX.out.under hW; (go_simp <;> with_reducible rfl))
            try simp only [Act.put, List.setIfInBounds_toArray, List.set_cons_zero, List.set_cons_succ]
            refine seq_take (o := ⟨_, _, _, _, _, _⟩) (v := ?_) (by rw [HO.out]; rfl) (by rfl) ?_ ?_
            rotate_left 1
            · first | ((intro W _; go_simp) <;> with_reducible rfl) | (intro W hW; obtain ⟨p0, p1, p2, p3, p4, p5, p6⟩ := HX.out.under hW; (go_simp <;> with_reducible rfl))
            try simp only [Act.put, List.setIfInBounds_toArray, List.set_cons_zero, List.set_cons_succ]
            refine seq_take (o := ⟨_, _, _, _, _, _⟩) (v := ?_) (by rw [HO.out]; rfl) (by rfl) ?_ ?_
            rotate_left 1
            · first | ((intro W _; go_simp) <;> with_reducible rfl) | (intro W hW; obtain ⟨p0, p1, p2, p3, p4, p5, p6⟩ := HX.out.under hW; (go_simp <;> with_reducible rfl))
            try simp only [Act.put, List.setIfInBounds_toArray, List.set_cons_zero, List.set_cons_succ]
            refine seq_done ?_
            go_wp2_with fail
            go_meet
            exact ⟨_, rfl, hsf, (bAlloc (Below.refl _ _) _).drew, HTf⟩
          · have hadd := txt_add2 t (⟨#[99, 108, 101, 97, 114]⟩ ++ ⟨#[32]⟩ ++ ⟨#[66]⟩) (by omega) (by decide)
            have HTf : Hid (Txt (t ++ (⟨#[99, 108, 101, 97, 114]⟩ ++ ⟨#[32]⟩ ++ ⟨#[66]⟩)) _) := Lib.hid (HTx.out.add ((Txt.add rfl rfl).add rfl))
            have hsf : (t ++ (⟨#[99, 108, 101, 97, 114]⟩ ++ ⟨#[32]⟩ ++ ⟨#[66]⟩) : ByteArray).size ≤ 600001000 := by rw [HTf.out.size, List.length_append, ← HTx.out.size]; simp; omega
            generalize (t ++ (⟨#[99, 108, 101, 97, 114]⟩ ++ ⟨#[32]⟩ ++ ⟨#[66]⟩) : ByteArray) = t5 at *
            refine wp_region_seq (Below w3.heap.size w3) [(0, true), (2, true), (3, true), (7, true), (8, true), (9, true), (10, true), (11, true), (12, true), (1, false), (4, false), (5, false), (6, true), (13, true), (14, true), (15, true)] (by as_aux_lemma => kernel_rfl) (by as_aux_lemma => kernel_rfl) (by decide) (by as_aux_lemma => kernel_rfl) (Below.refl _ _).drew ?_
            intro OPS HO
            refine seq_take (o := ⟨_, _, _, _, _, _⟩) (v := ?_) (by rw [HO.out]; rfl) (by rfl) ?_ ?_
            rotate_left 1
            · first | ((intro W _; go_simp) <;> with_reducible rfl) | (intro W hW; obtain ⟨p0, p1, p2, p3, p4, p5, p6⟩ := HX.out.under hW; (go_simp <;> with_reducible rfl))
            try simp only [Act.put, List.setIfInBounds_toArray, List.set_cons_zero, List.set_cons_succ]
            refine seq_take (o := ⟨_, _, _, _, _, _⟩) (v := ?_) (by rw [HO.out]; rfl) (by rfl) ?_ ?_
            rotate_left 1
            · first | ((intro W _; go_simp) <;> with_reducible rfl) | (intro W hW; obtain ⟨p0, p1, p2, p3, p4, p5, p6⟩ := HX.out.under hW; (go_simp <;> with_reducible rfl))
            try simp only [Act.put, List.setIfInBounds_toArray, List.set_cons_zero, List.set_cons_succ]
            refine seq_take (o := ⟨_, _, _, _, _, _⟩) (v := ?_) (by rw [HO.out]; rfl) (by rfl) ?_ ?_
            rotate_left 1
            · first | ((intro W _; go_simp) <;> with_reducible rfl) | (intro W hW; obtain ⟨p0, p1, p2, p3, p4, p5, p6⟩ := HX.out.under hW; (go_simp <;> with_reducible rfl))
            try simp only [Act.put, List.setIfInBounds_toArray, List.set_cons_zero, List.set_cons_succ]
            refine seq_take (o := ⟨_, _, _, _, _, _⟩) (v := ?_) (by rw [HO.out]; rfl) (by rfl) ?_ ?_
            rotate_left 1
            · first | ((intro W _; go_simp) <;> with_reducible rfl) | (intro W hW; obtain ⟨p0, p1, p2, p3, p4, p5, p6⟩ := HX.out.under hW; (go_simp <;> with_reducible rfl))
            try simp only [Act.put, List.setIfInBounds_toArray, List.set_cons_zero, List.set_cons_succ]
            refine seq_take (o := ⟨_, _, _, _, _, _⟩) (v := ?_) (by rw [HO.out]; rfl) (by rfl) ?_ ?_
            rotate_left 1
            · first | ((intro W _; go_simp) <;> with_reducible rfl) | (intro W hW; obtain ⟨p0, p1, p2, p3, p4, p5, p6⟩ := HX.out.under hW; (go_simp <;> with_reducible rfl))
            try simp only [Act.put, List.setIfInBounds_toArray, List.set_cons_zero, List.set_cons_succ]
            refine seq_take (o := ⟨_, _, _, _, _, _⟩) (v := ?_) (by rw [HO.out]; rfl) (by rfl) ?_ ?_
            rotate_left 1
            · first | ((intro W _; go_simp) <;> with_reducible rfl) | (intro W hW; obtain ⟨p0, p1, p2, p3, p4, p5, p6⟩ := HX.out.under hW; (go_simp <;> with_reducible rfl))
            try simp only [Act.put, List.setIfInBounds_toArray, List.set_cons_zero, List.set_cons_succ]
            refine seq_take (o := ⟨_, _, _, _, _, _⟩) (v := ?_) (by rw [HO.out]; rfl) (by rfl) ?_ ?_
            rotate_left 1
            · first | ((intro W _; go_simp) <;> with_reducible rfl) | (intro W hW; obtain ⟨p0, p1, p2, p3, p4, p5, p6⟩ := HX.out.under hW; (go_simp <;> with_reducible rfl))
            try simp only [Act.put, List.setIfInBounds_toArray, List.set_cons_zero, List.set_cons_succ]
            refine seq_take (o := ⟨_, _, _, _, _, _⟩) (v := ?_) (by rw [HO.out]; rfl) (by rfl) ?_ ?_
            rotate_left 1
            · first | ((intro W _; go_simp) <;> with_reducible rfl) | (intro W hW; obtain ⟨p0, p1, p2, p3, p4, p5, p6⟩ := HX.out.under hW; (go_simp <;> with_reducible rfl))
            try simp only [Act.put, List.setIfInBounds_toArray, List.set_cons_zero, List.set_cons_succ]
            refine seq_take (o := ⟨_, _, _, _, _, _⟩) (v := ?_) (by rw [HO.out]; rfl) (by rfl) ?_ ?_
            rotate_left 1
            · first | ((intro W _; go_simp) <;> with_reducible rfl) | (intro W hW; obtain ⟨p0, p1, p2, p3, p4, p5, p6⟩ := HX.out.under hW; (go_simp <;> with_reducible rfl))
            try simp only [Act.put, List.setIfInBounds_toArray, List.set_cons_zero, List.set_cons_succ]
            have hS : Below w3.heap.size w3 w3.drew := (Below.refl _ _).drew
            refine seq_do (o := ⟨_, _, _, _, _, _⟩) (by rw [HO.out]; rfl) (by rfl) (fun K hK => ?_)
            go_wp2_with fail
            refine hK.out _ _ (bAlloc hS _) (fun _ => ?_)
            clear hK K
            try simp only [Act.put, List.setIfInBounds_toArray, List.set_cons_zero, List.set_cons_succ]
            refine seq_do (o := ⟨_, _, _, _, _, _⟩) (by rw [HO.out]; rfl) (by rfl) (fun K hK => ?_)
            go_wp2_with fail
            refine hK.out _ _ (bAlloc hS _) (fun _ => ?_)
            clear hK K
            try simp only [Act.put, List.setIfInBounds_toArray, List.set_cons_zero, List.set_cons_succ]
            refine seq_do (o := ⟨_, _, _, _, _, _⟩) (by rw [HO.out]; rfl) (by rfl) (fun K hK => ?_)
            go_wp2_with fail
            refine hK.out _ _ (bAlloc hS _) (fun _ => ?_)
            clear hK K
            try simp only [Act.put, List.setIfInBounds_toArray, List.set_cons_zero, List.set_cons_succ]
            refine seq_take (o := ⟨_, _, _, _, _, _⟩) (v := ?_) (by rw [HO.out]; rfl) (by rfl) ?_ ?_
            rotate_left 1
            · first | ((intro W _; go_simp) <;> with_reducible rfl) | (intro W hW; obtain ⟨p0, p1, p2, p3, p4, p5, p6⟩ := HX.out.under hW; (go_simp <;> with_reducible rfl))
            try simp only [Act.put, List.setIfInBounds_toArray, List.set_cons_zero, List.set_cons_succ]
            refine seq_take (o := ⟨_, _, _, _, _, _⟩) (v := ?_) (by rw [HO.out]; rfl) (by rfl) ?_ ?_
            rotate_left 1
            · first | ((intro W _; go_simp) <;> with_reducible rfl) | (intro W hW; obtain ⟨p0, p1, p2, p3, p4, p5, p6⟩ := HX.out.under hW; (go_simp <;> with_reducible rfl))
            try simp only [Act.put, List.setIfInBounds_toArray, List.set_cons_zero, List.set_cons_succ]
            refine seq_take (o := ⟨_, _, _, _, _, _⟩) (v := ?_) (by rw [HO.out]; rfl) (by rfl) ?_ ?_
            rotate_left 1
            · first | ((intro W _; go_simp) <;> with_reducible rfl) | (intro W hW; obtain ⟨p0, p1, p2, p3, p4, p5, p6⟩ := HX.out.under hW; (go_simp <;> with_reducible rfl))
            try simp only [Act.put, List.setIfInBounds_toArray, List.set_cons_zero, List.set_cons_succ]
            refine seq_take (o := ⟨_, _, _, _, _, _⟩) (v := ?_) (by rw [HO.out]; rfl) (by rfl) ?_ ?_
            rotate_left 1
            · first | ((intro W _; go_simp) <;> with_reducible rfl) | (intro W hW; obtain ⟨p0, p1, p2, p3, p4, p5, p6⟩ := HX.out.under hW; (go_simp <;> with_reducible rfl))
            try simp only [Act.put, List.setIfInBounds_toArray, List.set_cons_zero, List.set_cons_succ]
            refine seq_done ?_
            go_wp2_with fail
            go_meet
            exact ⟨_, rfl, hsf, (bAlloc (Below.refl _ _) _).drew, HTf⟩
        case rest =>
          obtain ⟨t5, rfl, hs5, hb3, HT5⟩ := hcut
          obtain ⟨wa, rfl⟩ : ∃ wa : World, wa = wc := ⟨_, rfl⟩
          obtain ⟨p0, p1, p2, p3, p4, p5, p6⟩ := HX.out.under hb3
          have hn1 := Wh.num_size size HAn.out.1.1 HAn.out.1.2
          have hn2 := Wh.num_size time HAn.out.2.1 HAn.out.2.2
          have hq1 := Wh.quo_size hf
          have hq2 := Wh.quo_size ht
          have HI1 := Lib.hid (fun W (hb : Below wa.heap.size wa W) => itoa_any size W (HT.out.under (bTrans hb5 (bTrans hbr (bTrans hbx (bTrans hb3 hb))))) HAn.out.1.1 HAn.out.1.2)
          have HI2 := Lib.hid (fun W (hb : Below wa.heap.size wa W) => itoa_any time W (HT.out.under (bTrans hb5 (bTrans hbr (bTrans hbx (bTrans hb3 hb))))) HAn.out.2.1 HAn.out.2.2)
          have HQ1 := Lib.hid (fun W => quotePath_any frm W (by omega))
          have HQ2 := Lib.hid (fun W => quotePath_any dst W (by omega))
          change Hid (∀ W, Below wa.heap.size wa W → Calls _ _ _ _ fun e w' => e = .returned (.string (Wh.num size)) ∧ _) at HI1
          change Hid (∀ W, Below wa.heap.size wa W → Calls _ _ _ _ fun e w' => e = .returned (.string (Wh.num time)) ∧ _) at HI2
          change Hid (∀ W, Calls _ _ _ _ fun e w' => e = .returned (.string (Wh.quo frm)) ∧ _) at HQ1
          change Hid (∀ W, Calls _ _ _ _ fun e w' => e = .returned (.string (Wh.quo dst)) ∧ _) at HQ2
          rw [actLine] at HSt
          simp only [] at HSt
          generalize (Wh.wordK kind).data.toList ++ [32] ++ (Wh.wordS side).data.toList = L1 at *
          generalize hA1 : (Wh.num size) = A1 at *
          generalize hA2 : (Wh.num time) = A2 at *
          generalize hA3 : (Wh.quo frm) = A3 at *
          generalize hA4 : (Wh.quo dst) = A4 at *
          clear hA1 hA2 hA3 hA4
          go_upto_if 43 with fail
          go_cut [5] (fun s5 wx => ∃ t6 : ByteArray, s5 = .string t6 ∧ t6.size ≤ 600002000 ∧ Below w3.heap.size w3 wx ∧ Hid (Txt t6 (Wh.linesText ((d.acts.take k).map Wh.actWords) ++ L1 ++ (if kind = 1 then [32] ++ A1.data.toList ++ [32] ++ A2.data.toList else []))))
          case first =>
            cases c1 : (kind == 1)
            · have HC1 : Hid (¬ kind = 1) := Lib.hid (by simpa using c1)
              go_wp2_with fail
              go_meet
              exact ⟨_, rfl, by omega, hb3, Lib.hid (by rw [if_neg HC1.out, List.append_nil]; exact HT5.out)⟩
            · have HC1 : Hid (kind = 1) := Lib.hid (by simpa using c1)
              have e1 := txt_add2 ⟨#[32]⟩ A1 (by decide) (by omega)
              have f1 : Txt (⟨#[32]⟩ ++ A1) ([32] ++ A1.data.toList) := Txt.add rfl rfl
              have g1 : (⟨#[32]⟩ ++ A1 : ByteArray).size ≤ 30 := by rw [f1.size, List.length_append, ← Lib.size_eq]; simp; omega
              have F1 := Lib.hid f1
              clear f1
              generalize (⟨#[32]⟩ ++ A1 : ByteArray) = B1 at *
              have e2 := txt_add2 B1 ⟨#[32]⟩ (by omega) (by decide)
              have f2 : Txt (B1 ++ ⟨#[32]⟩) ([32] ++ A1.data.toList ++ [32]) := F1.out.add rfl
              have g2 : (B1 ++ ⟨#[32]⟩ : ByteArray).size ≤ 31 := by rw [f2.size, List.length_append, ← F1.out.size]; simp; omega
              have F2 := Lib.hid f2
              clear f2
              generalize (B1 ++ ⟨#[32]⟩ : ByteArray) = B2 at *
              have e3 := txt_add B2 A2 (by omega)
              have f3 : Txt (B2 ++ A2) ([32] ++ A1.data.toList ++ [32] ++ A2.data.toList) := F2.out.add rfl
              have g3 : (B2 ++ A2 : ByteArray).size ≤ 60 := by rw [f3.size, List.length_append, ← F2.out.size, ← Lib.size_eq]; omega
              have F3 := Lib.hid f3
              clear f3
              generalize (B2 ++ A2 : ByteArray) = B3 at *
              have e4 := txt_add t5 B3 (by omega)
              have f4 := HT5.out.add F3.out
              have g4 : (t5 ++ B3 : ByteArray).size ≤ 600002000 := by rw [f4.size, List.length_append, ← HT5.out.size, ← F3.out.size]; omega
              have F4 := Lib.hid f4
              clear f4
              generalize (t5 ++ B3 : ByteArray) = B4 at *
              go_wp2_with fail
              refine wp_region_seq (Below w3.heap.size w3) [(0, true), (1, true), (2, true), (6, true), (7, true), (3, false), (4, true), (5, true), (8, false), (9, true), (10, true), (11, true)] (by as_aux_lemma => kernel_rfl) (by as_aux_lemma => kernel_rfl) (by decide) (by as_aux_lemma => kernel_rfl) hb3.drew ?_
              intro OPS HO
              refine seq_take (o := ⟨_, _, _, _, _, _⟩) (v := ?_) (by rw [HO.out]; rfl) (by rfl) ?_ ?_
              rotate_left 1
              · first | ((intro W _; go_simp) <;> with_reducible rfl) | (intro W hW; obtain ⟨p0, p1, p2, p3, p4, p5, p6⟩ := HX.out.under hW; (go_simp <;> with_reducible rfl))
              try simp only [Act.put, List.setIfInBounds_toArray, List.set_cons_zero, List.set_cons_succ]
              refine seq_take (o := ⟨_, _, _, _, _, _⟩) (v := ?_) (by rw [HO.out]; rfl) (by rfl) ?_ ?_
              rotate_left 1
              · first | ((intro W _; go_simp) <;> with_reducible rfl) | (intro W hW; obtain ⟨p0, p1, p2, p3, p4, p5, p6⟩ := HX.out.under hW; (go_simp <;> with_reducible rfl))
              try simp only [Act.put, List.setIfInBounds_toArray, List.set_cons_zero, List.set_cons_succ]
              refine seq_take (o := ⟨_, _, _, _, _, _⟩) (v := ?_) (by rw [HO.out]; rfl) (by rfl) ?_ ?_
              rotate_left 1
              · first | ((intro W _; go_simp) <;> with_reducible rfl) | (intro W hW; obtain ⟨p0, p1, p2, p3, p4, p5, p6⟩ := HX.out.under hW; (go_simp <;> with_reducible rfl))
              try simp only [Act.put, List.setIfInBounds_toArray, List.set_cons_zero, List.set_cons_succ]
              refine seq_take (o := ⟨_, _, _, _, _, _⟩) (v := ?_) (by rw [HO.out]; rfl) (by rfl) ?_ ?_
              rotate_left 1
              · first | ((intro W _; go_simp) <;> with_reducible rfl) | (intro W hW; obtain ⟨p0, p1, p2, p3, p4, p5, p6⟩ := HX.out.under hW; (go_simp <;> with_reducible rfl))
              try simp only [Act.put, List.setIfInBounds_toArray, List.set_cons_zero, List.set_cons_succ]
              refine seq_take (o := ⟨_, _, _, _, _, _⟩) (v := ?_) (by rw [HO.out]; rfl) (by rfl) ?_ ?_
              rotate_left 1
              · first | ((intro W _; go_simp) <;> with_reducible rfl) | (intro W hW; obtain ⟨p0, p1, p2, p3, p4, p5, p6⟩ := HX.out.under hW; (go_simp <;> with_reducible rfl))
              try simp only [Act.put, List.setIfInBounds_toArray, List.set_cons_zero, List.set_cons_succ]
              have hS : Below w3.heap.size w3 wa.drew := hb3.drew
              have hSc : Below wa.heap.size wa wa.drew := (Below.refl _ _).drew
              refine seq_do (o := ⟨_, _, _, _, _, _⟩) (by rw [HO.out]; rfl) (by rfl) (fun K hK => ?_)
              go_wp2_with (go_at_call 37; refine (HI1.out _ hSc).mono ?_; rintro e w5 ⟨rfl, hb6⟩; replace hS := bTrans hS hb6; replace hSc := bTrans hSc hb6; clear hb6)
              refine hK.out _ _ hS (fun _ => ?_)
              clear hK K
              try simp only [Act.put, List.setIfInBounds_toArray, List.set_cons_zero, List.set_cons_succ]
              refine seq_take (o := ⟨_, _, _, _, _, _⟩) (v := ?_) (by rw [HO.out]; rfl) (by rfl) ?_ ?_
              rotate_left 1
              · first | ((intro W _; go_simp) <;> with_reducible rfl) | (intro W hW; obtain ⟨p0, p1, p2, p3, p4, p5, p6⟩ := HX.out.under hW; (go_simp <;> with_reducible rfl))
              try simp only [Act.put, List.setIfInBounds_toArray, List.set_cons_zero, List.set_cons_succ]
              refine seq_take (o := ⟨_, _, _, _, _, _⟩) (v := ?_) (by rw [HO.out]; rfl) (by rfl) ?_ ?_
              rotate_left 1
              · first | ((intro W _; go_simp) <;> with_reducible rfl) | (intro W hW; obtain ⟨p0, p1, p2, p3, p4, p5, p6⟩ := HX.out.under hW; (go_simp <;> with_reducible rfl))
              try simp only [Act.put, List.setIfInBounds_toArray, List.set_cons_zero, List.set_cons_succ]
              refine seq_do (o := ⟨_, _, _, _, _, _⟩) (by rw [HO.out]; rfl) (by rfl) (fun K hK => ?_)
              go_wp2_with (go_at_call 37; refine (HI2.out _ hSc).mono ?_; rintro e w6 ⟨rfl, hb6⟩; replace hS := bTrans hS hb6; replace hSc := bTrans hSc hb6; clear hb6)
              refine hK.out _ _ hS (fun _ => ?_)
              clear hK K
              try simp only [Act.put, List.setIfInBounds_toArray, List.set_cons_zero, List.set_cons_succ]
              refine seq_take (o := ⟨_, _, _, _, _, _⟩) (v := ?_) (by rw [HO.out]; rfl) (by rfl) ?_ ?_
              rotate_left 1
              · first | ((intro W _; go_simp) <;> with_reducible rfl) | (intro W hW; obtain ⟨p0, p1, p2, p3, p4, p5, p6⟩ := HX.out.under hW; (go_simp <;> with_reducible rfl))
              try simp only [Act.put, List.setIfInBounds_toArray, List.set_cons_zero, List.set_cons_succ]
              refine seq_take (o := ⟨_, _, _, _, _, _⟩) (v := ?_) (by rw [HO.out]; rfl) (by rfl) ?_ ?_
              rotate_left 1
              · first | ((intro W _; go_simp) <;> with_reducible rfl) | (intro W hW; obtain ⟨p0, p1, p2, p3, p4, p5, p6⟩ := HX.out.under hW; (go_simp <;> with_reducible rfl))
              try simp only [Act.put, List.setIfInBounds_toArray, List.set_cons_zero, List.set_cons_succ]
              refine seq_take (o := ⟨_, _, _, _, _, _⟩) (v := ?_) (by rw [HO.out]; rfl) (by rfl) ?_ ?_
              rotate_left 1
              · first | ((intro W _; go_simp) <;> with_reducible rfl) | (intro W hW; obtain ⟨p0, p1, p2, p3, p4, p5, p6⟩ := HX.out.under hW; (go_simp <;> with_reducible rfl))
              try simp only [Act.put, List.setIfInBounds_toArray, List.set_cons_zero, List.set_cons_succ]
              refine seq_done ?_
              go_wp2_with fail
              go_meet
              exact ⟨_, rfl, g4, hS, Lib.hid (by rw [if_pos HC1.out]; exact F4.out)⟩
          case rest =>
            clear HI1 HI2 p0 p1 p2 p3 p4 p5 p6 HT5
            obtain ⟨t6, rfl, hs6, hb6, HT6⟩ := hcut
            obtain ⟨wb, rfl⟩ : ∃ wb : World, wb = wc := ⟨_, rfl⟩
            obtain ⟨p0, p1, p2, p3, p4, p5, p6⟩ := HX.out.under hb6
            have e1 := txt_add2 ⟨#[32]⟩ A3 (by decide) (by omega)
            have f1 : Txt (⟨#[32]⟩ ++ A3) ([32] ++ A3.data.toList) := Txt.add rfl rfl
            have g1 : (⟨#[32]⟩ ++ A3 : ByteArray).size ≤ 4100 := by rw [f1.size, List.length_append, ← Lib.size_eq]; simp; omega
            have F1 := Lib.hid f1
            clear f1
            generalize (⟨#[32]⟩ ++ A3 : ByteArray) = B1 at *
            have e2 := txt_add t6 B1 (by omega)
            have f2 := HT6.out.add F1.out
            have g2 : (t6 ++ B1 : ByteArray).size ≤ 600007000 := by rw [f2.size, List.length_append, ← HT6.out.size, ← F1.out.size]; omega
            have F2 := Lib.hid f2
            clear f2
            generalize (t6 ++ B1 : ByteArray) = B2 at *
            go_upto_region 12 with (go_at_call 40; refine (HQ1.out _).mono ?_; rintro e w8 ⟨rfl, hb8⟩)
            clear e1 e2 F1 g1 HT6 p0 p1 p2 p3 p4 p5 p6
            have hb9 := bTrans hb6 hb8
            obtain ⟨p0, p1, p2, p3, p4, p5, p6⟩ := HX.out.under hb9
            go_upto_if 63 with fail
            go_cut [5] (fun s5 wx => ∃ t7 : ByteArray, s5 = .string t7 ∧ t7.size ≤ 600012000 ∧ Below w3.heap.size w3 wx ∧ Hid (Txt t7 (Wh.linesText ((d.acts.take k).map Wh.actWords) ++ L1 ++ (if kind = 1 then [32] ++ A1.data.toList ++ [32] ++ A2.data.toList else []) ++ ([32] ++ A3.data.toList) ++ (if dst.data.toList.isEmpty then [] else [32] ++ A4.data.toList))))
            case first =>
              cases d0 : dst.toList.isEmpty
              case true =>
                have d1 : dst.toList = [] := List.isEmpty_iff.1 d0
                have HD0 : Hid (dst.data.toList.isEmpty = true) := Lib.hid (by rw [← Lib.toList_data]; exact d0)
                clear d0
                go_wp2_with fail
                go_meet
                exact ⟨_, rfl, by omega, hb9, Lib.hid (by rw [HD0.out, if_pos rfl, List.append_nil]; exact F2.out)⟩
              case false =>
                have d1 : ¬ dst.toList = [] := fun e => by rw [e] at d0; cases d0
                have HD0 : Hid (dst.data.toList.isEmpty = false) := Lib.hid (by rw [← Lib.toList_data]; exact d0)
                clear d0
                have e1 := txt_add2 ⟨#[32]⟩ A4 (by decide) (by omega)
                have f1 : Txt (⟨#[32]⟩ ++ A4) ([32] ++ A4.data.toList) := Txt.add rfl rfl
                have g1 : (⟨#[32]⟩ ++ A4 : ByteArray).size ≤ 4100 := by rw [f1.size, List.length_append, ← Lib.size_eq]; simp; omega
                have F1 := Lib.hid f1
                clear f1
                generalize (⟨#[32]⟩ ++ A4 : ByteArray) = B3 at *
                have e2 := txt_add B2 B3 (by omega)
                have f2 := F2.out.add F1.out
                have g3 : (B2 ++ B3 : ByteArray).size ≤ 600012000 := by rw [f2.size, List.length_append, ← F2.out.size, ← F1.out.size]; omega
                have F3 := Lib.hid f2
                clear f2
                generalize (B2 ++ B3 : ByteArray) = B4 at *
                go_wp2_with (go_at_call 40; refine (HQ2.out _).mono ?_; rintro e w10 ⟨rfl, hb10⟩)
                go_meet
                exact ⟨_, rfl, g3, bTrans hb9 hb10, Lib.hid (by rw [HD0.out, if_neg (show ¬ (false = true) by decide)]; exact F3.out)⟩
            case rest =>
              obtain ⟨t7, rfl, hs7, hb7, HT7⟩ := hcut
              obtain ⟨wd, rfl⟩ : ∃ wd : World, wd = wc := ⟨_, rfl⟩
              have e1 := txt_add2 t7 ⟨#[10]⟩ (by omega) (by decide)
              have f1 : Txt (t7 ++ ⟨#[10]⟩) _ := HT7.out.add rfl
              have F1 := Lib.hid f1
              clear f1 HT7 p0 p1 p2 p3 p4 p5 p6 HQ1 HQ2
              generalize (t7 ++ ⟨#[10]⟩ : ByteArray) = t8 at *
              go_wp2_with fail
              go_roundg g
              case measure => omega
              case rel => exact ⟨k + 1, t8, by omega, by go_num, rfl, bTrans hbr (bTrans hbx hb7), Lib.hid (by rw [HSt.out]; simpa using F1.out)⟩
      · have HT1 : Hid ((Wh.linesText (d.acts.map Wh.actWords)).length ≤ 600000000) := Lib.hid (by
          have h1 := Wh.linesText_len (l := d.acts.map Wh.actWords) (fun z hz => by
            obtain ⟨t, ht, rfl⟩ := List.mem_map.1 hz
            exact Wh.actWords_ok (HA.out t ht) (HN.out.acts t ht))
          have h2 : (d.acts.map Wh.actWords).length ≤ 20000 := by simp; omega
          omega)
        rw [List.take_of_length_le (by omega)] at HTx
        have HP2 : Hid (Wh.linesText (Wh.dealLines d) = Wh.linesText (d.acts.map Wh.actWords) ++ (Wh.linesText (d.refused.map Wh.refWords) ++ (Wh.linesText (d.equal.map Wh.eqWords) ++ Wh.linesText (d.conf.map Wh.confWords)))) := Lib.hid (by simp [Wh.dealLines, Wh.linesText])
        rw [HP2.out] at HP
        have ht1 := HT1.out
        clear HP2 HT1 HA
        generalize Wh.linesText (d.acts.map Wh.actWords) = T1 at *
        go_wp2_with fail
        go_loopg [5, 76] d.refused.length (fun g s i wx => ∃ (k : Nat) (t : ByteArray), k + g = d.refused.length ∧ i = .int .i64 k ∧ s = .string t ∧ Below w2.heap.size w2 wx ∧ Hid (Txt t (T1 ++ Wh.linesText ((d.refused.take k).map Wh.refWords))))
        case atStart => exact ⟨0, t, by omega, rfl, rfl, hbr, by simpa [Wh.linesText] using HTx⟩
        case round =>
          clear hk hlt HTx k0 k1 k2 k3 k4 hbr
          obtain ⟨k, t, hk, rfl, rfl, hbr, HTx⟩ := hrel
          obtain ⟨k0, k1, k2, k3, k4⟩ := HB3.out.under hbr
          have HRz : Hid (∀ y ∈ d.refused, Wh.okLine (Wh.refWords y)) := Lib.hid (fun y hy => Wh.refWords_ok (Wh.pathsErr_size HPa.out (by simp only [Wh.Deal.paths, List.mem_append, List.mem_map]; exact .inl (.inl ⟨y, hy, rfl⟩))) (HN.out.refs y hy))
          by_cases hlt : k < d.refused.length
          · obtain ⟨g, rfl⟩ : ∃ g, gk = g + 1 := ⟨gk - 1, by omega⟩
            obtain ⟨y, hx⟩ : ∃ y, d.refused[k]? = some y := ⟨_, List.getElem?_eq_getElem hlt⟩
            obtain ⟨ba, off, ha, hba, r0, r1⟩ := refRow (HD.out.refs.under (bTrans hb5 hbr)) hx
            have hmem := List.mem_of_getElem? hx
            have HRn := Lib.hid (HN.out.refs y hmem)
            have hps : y.path.size ≤ 1024 := Wh.pathsErr_size HPa.out (by simp only [Wh.Deal.paths, List.mem_append, List.mem_map]; exact .inl (.inl ⟨y, hmem, rfl⟩))
            have HSt := Lib.hid (Wh.linesText_step (f := Wh.refWords) hx)
            have HX := Lib.hid (refBox_new wr y 72)
            have hbx : Below wr.heap.size wr (wr.alloc (.cells #[.string y.path, .int .i64 y.err] 72)) := bAlloc (Below.refl _ _) _
            have hsz : t.size ≤ 800000000 := by
              rw [HTx.out.size]
              have h1 := Wh.linesText_len (l := (d.refused.take k).map Wh.refWords) (fun z hz => by
                obtain ⟨t, ht, rfl⟩ := List.mem_map.1 hz
                exact HRz.out t (List.mem_of_mem_take ht))
              have h2 : ((d.refused.take k).map Wh.refWords).length ≤ 5000 := by simp; omega
              rw [List.length_append]
              omega
            subst ha
            clear hx hmem HRz
            go_upto_region 19 with fail
            generalize wr.alloc _ = w3 at *
            clear r0 r1 k0 k1 k2 k3 k4
            have hn1 := Wh.num_size y.err HRn.out.1 HRn.out.2
            have hq1 := Wh.quo_size hps
            have HI1 := Lib.hid (fun W (hb : Below w3.heap.size w3 W) => itoa_any y.err W (HT.out.under (bTrans hb5 (bTrans hbr (bTrans hbx hb)))) HRn.out.1 HRn.out.2)
            have HQ1 := Lib.hid (fun W => quotePath_any y.path W (by omega))
            change Hid (∀ W, Below w3.heap.size w3 W → Calls _ _ _ _ fun e w' => e = .returned (.string (Wh.num y.err)) ∧ _) at HI1
            change Hid (∀ W, Calls _ _ _ _ fun e w' => e = .returned (.string (Wh.quo y.path)) ∧ _) at HQ1
            have HL : Hid (Wh.lineOf (Wh.refWords y) = ((([114, 101, 102, 117, 115, 101, 100, 32] ++ (Wh.num y.err).data.toList) ++ [32]) ++ (Wh.quo y.path).data.toList) ++ [10]) := Lib.hid (by simp [Wh.lineOf, Wh.refWords, Lib.join])
            rw [HL.out] at HSt
            clear HL
            generalize hA1 : (Wh.num y.err) = A1 at *
            generalize hA2 : (Wh.quo y.path) = A2 at *
            clear hA1 hA2
            have e1 := txt_add2 ⟨#[114, 101, 102, 117, 115, 101, 100, 32]⟩ A1 (by decide) (by omega)
            have f1 : Txt (⟨#[114, 101, 102, 117, 115, 101, 100, 32]⟩ ++ A1) ([114, 101, 102, 117, 115, 101, 100, 32] ++ A1.data.toList) := Txt.add rfl rfl
            have g1 : (⟨#[114, 101, 102, 117, 115, 101, 100, 32]⟩ ++ A1 : ByteArray).size ≤ 40 := by rw [f1.size, List.length_append, ← Lib.size_eq]; simp; omega
            have F1 := Lib.hid f1
            clear f1
            generalize (⟨#[114, 101, 102, 117, 115, 101, 100, 32]⟩ ++ A1 : ByteArray) = B1 at *
            have e2 := txt_add2 B1 ⟨#[32]⟩ (by omega) (by decide)
            have f2 : Txt (B1 ++ ⟨#[32]⟩) _ := F1.out.add (rfl : Txt ⟨#[32]⟩ [32])
            have g2 : (B1 ++ ⟨#[32]⟩ : ByteArray).size ≤ 41 := by rw [f2.size, List.length_append, ← F1.out.size]; simp; omega
            have F2 := Lib.hid f2
            clear f2
            generalize (B1 ++ ⟨#[32]⟩ : ByteArray) = B2 at *
            have e3 := txt_add2 B2 A2 (by omega) (by omega)
            have f3 : Txt (B2 ++ A2) _ := F2.out.add (rfl : Txt A2 A2.data.toList)
            have g3 : (B2 ++ A2 : ByteArray).size ≤ 5000 := by rw [f3.size, List.length_append, ← F2.out.size, ← Lib.size_eq]; omega
            have F3 := Lib.hid f3
            clear f3
            generalize (B2 ++ A2 : ByteArray) = B3 at *
            have e4 := txt_add2 B3 ⟨#[10]⟩ (by omega) (by decide)
            have f4 : Txt (B3 ++ ⟨#[10]⟩) _ := F3.out.add (rfl : Txt ⟨#[10]⟩ [10])
            have g4 : (B3 ++ ⟨#[10]⟩ : ByteArray).size ≤ 5001 := by rw [f4.size, List.length_append, ← F3.out.size]; simp; omega
            have F4 := Lib.hid f4
            clear f4
            generalize (B3 ++ ⟨#[10]⟩ : ByteArray) = B4 at *
            have e5 := txt_add2 t B4 (by omega) (by omega)
            have F5 := Lib.hid (HTx.out.add F4.out)
            generalize (t ++ B4 : ByteArray) = B5 at *
            refine wp_region_seq (Below w3.heap.size w3) [(0, true), (1, true), (2, true), (6, true), (7, true), (3, false), (4, true), (5, true), (8, false), (9, true), (10, true), (11, true), (12, true)] (by as_aux_lemma => kernel_rfl) (by as_aux_lemma => kernel_rfl) (by decide) (by as_aux_lemma => kernel_rfl) (Below.refl _ _).drew ?_
            intro OPS HO
            refine seq_take (o := ⟨_, _, _, _, _, _⟩) (v := ?_) (by rw [HO.out]; rfl) (by rfl) ?_ ?_
            rotate_left 1
            · first | ((intro W _; go_simp) <;> with_reducible rfl) | (intro W hW; obtain ⟨p0, p1, p2⟩ := HX.out.under hW; (go_simp <;> with_reducible rfl))
            try simp only [Act.put, List.setIfInBounds_toArray, List.set_cons_zero, List.set_cons_succ]
            refine seq_take (o := ⟨_, _, _, _, _, _⟩) (v := ?_) (by rw [HO.out]; rfl) (by rfl) ?_ ?_
            rotate_left 1
            · first | ((intro W _; go_simp) <;> with_reducible rfl) | (intro W hW; obtain ⟨p0, p1, p2⟩ := HX.out.under hW; (go_simp <;> with_reducible rfl))
            try simp only [Act.put, List.setIfInBounds_toArray, List.set_cons_zero, List.set_cons_succ]
            refine seq_take (o := ⟨_, _, _, _, _, _⟩) (v := ?_) (by rw [HO.out]; rfl) (by rfl) ?_ ?_
            rotate_left 1
            · first | ((intro W _; go_simp) <;> with_reducible rfl) | (intro W hW; obtain ⟨p0, p1, p2⟩ := HX.out.under hW; (go_simp <;> with_reducible rfl))
            try simp only [Act.put, List.setIfInBounds_toArray, List.set_cons_zero, List.set_cons_succ]
            refine seq_take (o := ⟨_, _, _, _, _, _⟩) (v := ?_) (by rw [HO.out]; rfl) (by rfl) ?_ ?_
            rotate_left 1
            · first | ((intro W _; go_simp) <;> with_reducible rfl) | (intro W hW; obtain ⟨p0, p1, p2⟩ := HX.out.under hW; (go_simp <;> with_reducible rfl))
            try simp only [Act.put, List.setIfInBounds_toArray, List.set_cons_zero, List.set_cons_succ]
            refine seq_take (o := ⟨_, _, _, _, _, _⟩) (v := ?_) (by rw [HO.out]; rfl) (by rfl) ?_ ?_
            rotate_left 1
            · first | ((intro W _; go_simp) <;> with_reducible rfl) | (intro W hW; obtain ⟨p0, p1, p2⟩ := HX.out.under hW; (go_simp <;> with_reducible rfl))
            try simp only [Act.put, List.setIfInBounds_toArray, List.set_cons_zero, List.set_cons_succ]
            have hS : Below w3.heap.size w3 w3.drew := (Below.refl _ _).drew
            refine seq_do (o := ⟨_, _, _, _, _, _⟩) (by rw [HO.out]; rfl) (by rfl) (fun K hK => ?_)
            go_wp2_with (go_at_call 37; refine (HI1.out _ hS).mono ?_; rintro e w5 ⟨rfl, hb6⟩; replace hS := bTrans hS hb6; clear hb6)
            refine hK.out _ _ hS (fun _ => ?_)
            clear hK K
            try simp only [Act.put, List.setIfInBounds_toArray, List.set_cons_zero, List.set_cons_succ]
            refine seq_take (o := ⟨_, _, _, _, _, _⟩) (v := ?_) (by rw [HO.out]; rfl) (by rfl) ?_ ?_
            rotate_left 1
            · first | ((intro W _; go_simp) <;> with_reducible rfl) | (intro W hW; obtain ⟨p0, p1, p2⟩ := HX.out.under hW; (go_simp <;> with_reducible rfl))
            try simp only [Act.put, List.setIfInBounds_toArray, List.set_cons_zero, List.set_cons_succ]
            refine seq_take (o := ⟨_, _, _, _, _, _⟩) (v := ?_) (by rw [HO.out]; rfl) (by rfl) ?_ ?_
            rotate_left 1
            · first | ((intro W _; go_simp) <;> with_reducible rfl) | (intro W hW; obtain ⟨p0, p1, p2⟩ := HX.out.under hW; (go_simp <;> with_reducible rfl))
            try simp only [Act.put, List.setIfInBounds_toArray, List.set_cons_zero, List.set_cons_succ]
            refine seq_do (o := ⟨_, _, _, _, _, _⟩) (by rw [HO.out]; rfl) (by rfl) (fun K hK => ?_)
            go_wp2_with (go_at_call 40; refine (HQ1.out _).mono ?_; rintro e w6 ⟨rfl, hb6⟩; replace hS := bTrans hS hb6; clear hb6)
            refine hK.out _ _ hS (fun _ => ?_)
            clear hK K
            try simp only [Act.put, List.setIfInBounds_toArray, List.set_cons_zero, List.set_cons_succ]
            refine seq_take (o := ⟨_, _, _, _, _, _⟩) (v := ?_) (by rw [HO.out]; rfl) (by rfl) ?_ ?_
            rotate_left 1
            · first | ((intro W _; go_simp) <;> with_reducible rfl) | (intro W hW; obtain ⟨p0, p1, p2⟩ := HX.out.under hW; (go_simp <;> with_reducible rfl))
            try simp only [Act.put, List.setIfInBounds_toArray, List.set_cons_zero, List.set_cons_succ]
            refine seq_take (o := ⟨_, _, _, _, _, _⟩) (v := ?_) (by rw [HO.out]; rfl) (by rfl) ?_ ?_
            rotate_left 1
            · first | ((intro W _; go_simp) <;> with_reducible rfl) | (intro W hW; obtain ⟨p0, p1, p2⟩ := HX.out.under hW; (go_simp <;> with_reducible rfl))
            try simp only [Act.put, List.setIfInBounds_toArray, List.set_cons_zero, List.set_cons_succ]
            refine seq_take (o := ⟨_, _, _, _, _, _⟩) (v := ?_) (by rw [HO.out]; rfl) (by rfl) ?_ ?_
            rotate_left 1
            · first | ((intro W _; go_simp) <;> with_reducible rfl) | (intro W hW; obtain ⟨p0, p1, p2⟩ := HX.out.under hW; (go_simp <;> with_reducible rfl))
            try simp only [Act.put, List.setIfInBounds_toArray, List.set_cons_zero, List.set_cons_succ]
            refine seq_take (o := ⟨_, _, _, _, _, _⟩) (v := ?_) (by rw [HO.out]; rfl) (by rfl) ?_ ?_
            rotate_left 1
            · first | ((intro W _; go_simp) <;> with_reducible rfl) | (intro W hW; obtain ⟨p0, p1, p2⟩ := HX.out.under hW; (go_simp <;> with_reducible rfl))
            try simp only [Act.put, List.setIfInBounds_toArray, List.set_cons_zero, List.set_cons_succ]
            refine seq_done ?_
            go_wp2_with fail
            go_roundg g
            case measure => omega
            case rel => exact ⟨k + 1, B5, by omega, by go_num, rfl, bTrans hbr (bTrans hbx hS), Lib.hid (by rw [HSt.out, ← List.append_assoc]; exact F5.out)⟩
          · have HT2 : Hid ((T1 ++ Wh.linesText (d.refused.map Wh.refWords)).length ≤ 800000000) := Lib.hid (by
              have h1 := Wh.linesText_len (l := d.refused.map Wh.refWords) (fun z hz => by
                obtain ⟨t, ht, rfl⟩ := List.mem_map.1 hz
                exact HRz.out t ht)
              have h2 : (d.refused.map Wh.refWords).length ≤ 5000 := by simp; omega
              rw [List.length_append]
              omega)
            rw [List.take_of_length_le (by omega)] at HTx
            rw [← List.append_assoc] at HP
            have ht2 := HT2.out
            clear HT2 HRz ht1 HN
            generalize T1 ++ Wh.linesText (d.refused.map Wh.refWords) = T2 at *
            go_wp2_with fail
            go_loopg [5, 96] d.equal.length (fun g s i wx => ∃ (k : Nat) (t : ByteArray), k + g = d.equal.length ∧ i = .int .i64 k ∧ s = .string t ∧ Below w2.heap.size w2 wx ∧ Hid (Txt t (T2 ++ Wh.linesText ((d.equal.take k).map Wh.eqWords))))
            case atStart => exact ⟨0, t, by omega, rfl, rfl, hbr, by simpa [Wh.linesText] using HTx⟩
            case round =>
              clear hk hlt HTx k0 k1 k2 k3 k4 hbr
              obtain ⟨k, t, hk, rfl, rfl, hbr, HTx⟩ := hrel
              obtain ⟨k0, k1, k2, k3, k4⟩ := HB3.out.under hbr
              have HRz : Hid (∀ y ∈ d.equal, Wh.okLine (Wh.eqWords y)) := Lib.hid (fun y hy => Wh.eqWords_ok (Wh.pathsErr_size HPa.out (by simp only [Wh.Deal.paths, List.mem_append, List.mem_map]; exact .inl (.inr ‹_›))))
              by_cases hlt : k < d.equal.length
              · obtain ⟨g, rfl⟩ : ∃ g, gk = g + 1 := ⟨gk - 1, by omega⟩
                obtain ⟨y, hx⟩ : ∃ y, d.equal[k]? = some y := ⟨_, List.getElem?_eq_getElem hlt⟩
                obtain ⟨ba, off, ha, hba, r0⟩ := (HD.out.equal.under (bTrans hb5 hbr)).at (k := k) (u := .string y) (by simp [hx])
                have hy := List.mem_of_getElem? hx
                have hps : y.size ≤ 1024 := Wh.pathsErr_size HPa.out (by simp only [Wh.Deal.paths, List.mem_append, List.mem_map]; exact .inl (.inr ‹_›))
                have HSt := Lib.hid (Wh.linesText_step (f := Wh.eqWords) hx)
                have hsz : t.size ≤ 1000000000 := by
                  rw [HTx.out.size]
                  have h1 := Wh.linesText_len (l := (d.equal.take k).map Wh.eqWords) (fun z hz => by
                    obtain ⟨t, ht, rfl⟩ := List.mem_map.1 hz
                    exact HRz.out t (List.mem_of_mem_take ht))
                  have h2 : ((d.equal.take k).map Wh.eqWords).length ≤ 5000 := by simp; omega
                  rw [List.length_append]
                  omega
                subst ha
                clear hx hy HRz
                have hq1 := Wh.quo_size hps
                have HQ1 := Lib.hid (fun W => quotePath_any y W (by omega))
                change Hid (∀ W, Calls _ _ _ _ fun e w' => e = .returned (.string (Wh.quo y)) ∧ _) at HQ1
                have HL : Hid (Wh.lineOf (Wh.eqWords y) = ([101, 113, 117, 97, 108, 32] ++ (Wh.quo y).data.toList) ++ [10]) := Lib.hid (by simp [Wh.lineOf, Wh.eqWords, Lib.join])
                rw [HL.out] at HSt
                clear HL
                generalize hA1 : (Wh.quo y) = A1 at *
                clear hA1
                have e1 := txt_add2 ⟨#[101, 113, 117, 97, 108, 32]⟩ A1 (by decide) (by omega)
                have f1 : Txt (⟨#[101, 113, 117, 97, 108, 32]⟩ ++ A1) ([101, 113, 117, 97, 108, 32] ++ A1.data.toList) := Txt.add rfl rfl
                have g1 : (⟨#[101, 113, 117, 97, 108, 32]⟩ ++ A1 : ByteArray).size ≤ 5000 := by rw [f1.size, List.length_append, ← Lib.size_eq]; simp; omega
                have F1 := Lib.hid f1
                clear f1
                generalize (⟨#[101, 113, 117, 97, 108, 32]⟩ ++ A1 : ByteArray) = B1 at *
                have e2 := txt_add2 B1 ⟨#[10]⟩ (by omega) (by decide)
                have f2 : Txt (B1 ++ ⟨#[10]⟩) _ := F1.out.add (rfl : Txt ⟨#[10]⟩ [10])
                have g2 : (B1 ++ ⟨#[10]⟩ : ByteArray).size ≤ 5001 := by rw [f2.size, List.length_append, ← F1.out.size]; simp; omega
                have F2 := Lib.hid f2
                clear f2
                generalize (B1 ++ ⟨#[10]⟩ : ByteArray) = B2 at *
                have e3 := txt_add2 t B2 (by omega) (by omega)
                have F3 := Lib.hid (HTx.out.add F2.out)
                generalize (t ++ B2 : ByteArray) = B3 at *
                go_wp2_with (go_at_call 40; refine (HQ1.out _).mono ?_; rintro e w6 ⟨rfl, hb6⟩)
                go_roundg g
                case measure => omega
                case rel => exact ⟨k + 1, B3, by omega, by go_num, rfl, bTrans hbr hb6, Lib.hid (by rw [HSt.out, ← List.append_assoc]; exact F3.out)⟩
              · have HT2 : Hid ((T2 ++ Wh.linesText (d.equal.map Wh.eqWords)).length ≤ 1000000000) := Lib.hid (by
                  have h1 := Wh.linesText_len (l := d.equal.map Wh.eqWords) (fun z hz => by
                    obtain ⟨t, ht, rfl⟩ := List.mem_map.1 hz
                    exact HRz.out t ht)
                  have h2 : (d.equal.map Wh.eqWords).length ≤ 5000 := by simp; omega
                  rw [List.length_append]
                  omega)
                rw [List.take_of_length_le (by omega)] at HTx
                rw [← List.append_assoc] at HP
                have ht3 := HT2.out
                clear HT2 HRz ht2
                generalize T2 ++ Wh.linesText (d.equal.map Wh.eqWords) = T3 at *
                go_wp2_with fail
                go_loopg [5, 110] d.conf.length (fun g s i wx => ∃ (k : Nat) (t : ByteArray), k + g = d.conf.length ∧ i = .int .i64 k ∧ s = .string t ∧ Below w2.heap.size w2 wx ∧ Hid (Txt t (T3 ++ Wh.linesText ((d.conf.take k).map Wh.confWords))))
                case atStart => exact ⟨0, t, by omega, rfl, rfl, hbr, by simpa [Wh.linesText] using HTx⟩
                case round =>
                  clear hk hlt HTx k0 k1 k2 k3 k4 hbr
                  obtain ⟨k, t, hk, rfl, rfl, hbr, HTx⟩ := hrel
                  obtain ⟨k0, k1, k2, k3, k4⟩ := HB3.out.under hbr
                  have HRz : Hid (∀ y ∈ d.conf, Wh.okLine (Wh.confWords y)) := Lib.hid (fun y hy => Wh.confWords_ok (Wh.pathsErr_size HPa.out (by simp only [Wh.Deal.paths, List.mem_append, List.mem_map]; exact .inr ‹_›)))
                  by_cases hlt : k < d.conf.length
                  · obtain ⟨g, rfl⟩ : ∃ g, gk = g + 1 := ⟨gk - 1, by omega⟩
                    obtain ⟨y, hx⟩ : ∃ y, d.conf[k]? = some y := ⟨_, List.getElem?_eq_getElem hlt⟩
                    obtain ⟨ba, off, ha, hba, r0⟩ := (HD.out.conf.under (bTrans hb5 hbr)).at (k := k) (u := .string y) (by simp [hx])
                    have hy := List.mem_of_getElem? hx
                    have hps : y.size ≤ 1024 := Wh.pathsErr_size HPa.out (by simp only [Wh.Deal.paths, List.mem_append, List.mem_map]; exact .inr ‹_›)
                    have HSt := Lib.hid (Wh.linesText_step (f := Wh.confWords) hx)
                    have hsz : t.size ≤ 1200000000 := by
                      rw [HTx.out.size]
                      have h1 := Wh.linesText_len (l := (d.conf.take k).map Wh.confWords) (fun z hz => by
                        obtain ⟨t, ht, rfl⟩ := List.mem_map.1 hz
                        exact HRz.out t (List.mem_of_mem_take ht))
                      have h2 : ((d.conf.take k).map Wh.confWords).length ≤ 5000 := by simp; omega
                      rw [List.length_append]
                      omega
                    subst ha
                    clear hx hy HRz
                    have hq1 := Wh.quo_size hps
                    have HQ1 := Lib.hid (fun W => quotePath_any y W (by omega))
                    change Hid (∀ W, Calls _ _ _ _ fun e w' => e = .returned (.string (Wh.quo y)) ∧ _) at HQ1
                    have HL : Hid (Wh.lineOf (Wh.confWords y) = ([99, 111, 110, 102, 108, 105, 99, 116, 32] ++ (Wh.quo y).data.toList) ++ [10]) := Lib.hid (by simp [Wh.lineOf, Wh.confWords, Lib.join])
                    rw [HL.out] at HSt
                    clear HL
                    generalize hA1 : (Wh.quo y) = A1 at *
                    clear hA1
                    have e1 := txt_add2 ⟨#[99, 111, 110, 102, 108, 105, 99, 116, 32]⟩ A1 (by decide) (by omega)
                    have f1 : Txt (⟨#[99, 111, 110, 102, 108, 105, 99, 116, 32]⟩ ++ A1) ([99, 111, 110, 102, 108, 105, 99, 116, 32] ++ A1.data.toList) := Txt.add rfl rfl
                    have g1 : (⟨#[99, 111, 110, 102, 108, 105, 99, 116, 32]⟩ ++ A1 : ByteArray).size ≤ 5000 := by rw [f1.size, List.length_append, ← Lib.size_eq]; simp; omega
                    have F1 := Lib.hid f1
                    clear f1
                    generalize (⟨#[99, 111, 110, 102, 108, 105, 99, 116, 32]⟩ ++ A1 : ByteArray) = B1 at *
                    have e2 := txt_add2 B1 ⟨#[10]⟩ (by omega) (by decide)
                    have f2 : Txt (B1 ++ ⟨#[10]⟩) _ := F1.out.add (rfl : Txt ⟨#[10]⟩ [10])
                    have g2 : (B1 ++ ⟨#[10]⟩ : ByteArray).size ≤ 5001 := by rw [f2.size, List.length_append, ← F1.out.size]; simp; omega
                    have F2 := Lib.hid f2
                    clear f2
                    generalize (B1 ++ ⟨#[10]⟩ : ByteArray) = B2 at *
                    have e3 := txt_add2 t B2 (by omega) (by omega)
                    have F3 := Lib.hid (HTx.out.add F2.out)
                    generalize (t ++ B2 : ByteArray) = B3 at *
                    go_wp2_with (go_at_call 40; refine (HQ1.out _).mono ?_; rintro e w6 ⟨rfl, hb6⟩)
                    go_roundg g
                    case measure => omega
                    case rel => exact ⟨k + 1, B3, by omega, by go_num, rfl, bTrans hbr hb6, Lib.hid (by rw [HSt.out, ← List.append_assoc]; exact F3.out)⟩
                  · have HT2 : Hid ((T3 ++ Wh.linesText (d.conf.map Wh.confWords)).length ≤ 1200000000) := Lib.hid (by
                      have h1 := Wh.linesText_len (l := d.conf.map Wh.confWords) (fun z hz => by
                        obtain ⟨t, ht, rfl⟩ := List.mem_map.1 hz
                        exact HRz.out t ht)
                      have h2 : (d.conf.map Wh.confWords).length ≤ 5000 := by simp; omega
                      rw [List.length_append]
                      omega)
                    rw [List.take_of_length_le (by omega)] at HTx
                    clear HT2 HRz
                    generalize T3 ++ Wh.linesText (d.conf.map Wh.confWords) = T4 at *
                    go_wp2_with fail
                    go_ret2
                    exact HP.out _ _ HTx.out (bTrans hb5 hbr)
end Go.Proofs.YtjcpcmiijadmcaaDoor
