/-
  seal.valueAt.
-/
import Derived.Test.YtjcpcmiijadmcaaDoorFld2
namespace Go.Proofs.YtjcpcmiijadmcaaDoor
open Go.RowKit Wh.Fld

def yOf (xs : List Share) (j i : Nat) : F := ((xs[i]?.bind (fun s => s.d.data.toList[j]?)).map UInt8.toBitVec).getD 0#8
theorem yOf_at {xs : List Share} {i j : Nat} {s : Share} {b : UInt8} (h : xs[i]? = some s) (hb : s.d.data.toList[j]? = some b) : yOf xs j i = b.toBitVec := by
  unfold yOf
  rw [h, Option.bind_some, hb]
  rfl
/-- What valueAt returns. -/
def valT (xs : List Share) (m : Nat) (z : F) : ByteArray := ⟨((List.range m).map (fun j => UInt8.ofBitVec (valTo (xOf xs) (yOf xs j) z xs.length xs.length))).toArray⟩

theorem RowB.own {w0 w : World} {g : Nat} {bs : List F} (h : RowB w g bs) (hg : w0.heap.size ≤ g) (hl : bs.length ≤ 1000000) (hb : Below w0.heap.size w0 w) : OwnB w0 w (some ⟨g, 0, none⟩) bs.length (bs.map UInt8.ofBitVec) := by
  have e : (bs.map UInt8.ofBitVec).map vb = bs.map vf := by
    rw [List.map_map]
    rfl
  unfold OwnB
  rw [e, List.length_map]
  refine ⟨⟨by simp, .inr ⟨g, bs.length, (bs.map vf).toArray, rfl, hg, h, Nat.le_refl _, Nat.le_trans hl (by decide), by simp, by simp [List.take_of_length_le]⟩⟩, hb⟩
theorem RowB.set_other {w : World} {g k : Nat} {bs : List F} (h : RowB w g bs) (hk : g ≠ k) (i : Nat) (v : Value) : RowB (w.setCell ⟨k, i, none⟩ v) g bs := by
  unfold RowB
  rw [row_other hk]
  exact h

set_option maxHeartbeats 2000000 in
set_option maxRecDepth 100000 in
theorem valueAt_any (xs : List Share) (a : Option Addr) (c m : Nat) (z : F) (w : World) (hH : HoldsR w a 2 (xs.map shareCells)) (hl : xs.length ≤ 255) (h0 : 0 < xs.length) (hm : m ≤ 1024) (hd : ∀ s ∈ xs, s.d.size = m) :
    Calls Tryd.prog 44 #[.slice a xs.length c, vf z] w fun e w' => e = .returned (.string (valT xs m z)) ∧ Below w.heap.size w w' := by
  have HH := Lib.hid hH
  have HD := Lib.hid hd
  have HW := Lib.hid (weights_any xs a c z w hH hl)
  obtain ⟨s0, hs0⟩ : ∃ s, xs[0]? = some s := ⟨_, List.getElem?_eq_getElem h0⟩
  have HS0 := Lib.hid hs0
  clear hH hd hs0
  go_enter Tryd.func44, Tryd.ntmps44
  go_wp2_with fail
  refine HW.out.mono ?_
  rintro e w1 ⟨gw, rfl, hR1, hg1, hb1⟩
  have HR1 := Lib.hid hR1
  clear hR1 HW
  obtain ⟨b0, o0, ha, hb0, r0, r1⟩ := shareRow (HH.out.under hb1) HS0.out
  have hsz0 : s0.d.size = m := HD.out s0 (List.mem_of_getElem? HS0.out)
  have hmk := fun W => make_bytes m W (by omega)
  subst ha
  rw [Nat.zero_mul, Nat.add_zero] at r0
  rw [Nat.zero_mul, Nat.add_zero] at r1
  go_wp2_with fail
  clear r0 r1 hsz0 hmk HS0
  have HR0 : Hid (RowB (w1.alloc (.cells (Array.replicate m (vf 0#8)) 5)) w1.heap.size ((List.range m).map (fun j => valTo (xOf xs) (yOf xs j) z xs.length 0))) := Lib.hid (by
    unfold RowB
    rw [heap_alloc_new]
    congr 2
    apply Array.toList_inj.1
    have e : (List.range m).map (fun j => valTo (xOf xs) (yOf xs j) z xs.length 0) = List.replicate m 0#8 := by
      apply List.ext_getElem
      · simp
      · intro i h1 h2
        simp [valTo]
    rw [e]
    simp)
  have hb2 : Below w1.heap.size w1 (w1.alloc (.cells (Array.replicate m (vf 0#8)) 5)) := bAlloc (Below.refl _ _) _
  have HR2 := Lib.hid (HR1.out.under hb2)
  have hgw := HR1.out.lt
  have hw1 := hb1.size
  replace hb2 := bTrans hb1 hb2
  clear HR1 hb1 hb0
  generalize w1.alloc (.cells (Array.replicate m (vf 0#8)) 5) = w2 at *
  generalize w1.heap.size = gb at *
  clear w1
  go_loopg [21] xs.length (fun g i wx => ∃ k : Nat, k + g = xs.length ∧ i = .int .i64 k ∧ Below w.heap.size w wx ∧ Hid (RowB wx gw ((List.range xs.length).map (fun i => wtTo (xOf xs) z i xs.length))) ∧ Hid (RowB wx gb ((List.range m).map (fun j => valTo (xOf xs) (yOf xs j) z xs.length k))))
  case atStart => exact ⟨0, by omega, rfl, hb2, HR2, HR0⟩
  case round =>
    clear HR0 hb2 HR2
    obtain ⟨k, hk, rfl, hb, HRw, HR⟩ := hrel
    by_cases hlt : k < xs.length
    · obtain ⟨g, rfl⟩ : ∃ g, gk = g + 1 := ⟨gk - 1, by omega⟩
      obtain ⟨s, hx⟩ : ∃ s, xs[k]? = some s := ⟨_, List.getElem?_eq_getElem hlt⟩
      obtain ⟨ba, off, ha, hba, r0, r1⟩ := shareRow (HH.out.under hb) hx
      have HX := Lib.hid hx
      have hsd : s.d.size = m := HD.out s (List.mem_of_getElem? hx)
      have HSd := Lib.hid hsd
      cases ha
      have HBx := Lib.hid (shareBox_new wr s 39)
      have hbx : Below wr.heap.size wr (wr.alloc (.cells #[.int .i64 s.x.toNat, .string s.d] 39)) := bAlloc (Below.refl _ _) _
      have hsz := HR.out.lt
      clear hx hsd
      go_upto_region 6 with fail
      generalize wr.alloc _ = w3 at *
      have HR3 := Lib.hid (HR.out.under hbx)
      have HRw3 := Lib.hid (HRw.out.under hbx)
      have hb3 := bTrans hb hbx
      clear HR HRw hbx r0 r1 hb
      obtain ⟨wo, rfl⟩ : ∃ wo : World, wo = wr := ⟨_, rfl⟩
      have HWk : Hid (((List.range xs.length).map (fun i => wtTo (xOf xs) z i xs.length))[k]? = some (wtTo (xOf xs) z k xs.length)) := Lib.hid (by rw [List.getElem?_map, List.getElem?_range hlt]; rfl)
      generalize (List.range xs.length).map (fun i => wtTo (xOf xs) z i xs.length) = WS at *
      go_wp2_with fail
      go_loopg [28] m (fun g i wx => ∃ q : Nat, q + g = m ∧ i = .int .i64 q ∧ Below w.heap.size w wx ∧ Hid (ShareBox wx wo.heap.size s) ∧ Hid (RowB wx gw WS) ∧ Hid (RowB wx gb ((List.range m).map (fun j => valTo (xOf xs) (yOf xs j) z xs.length (if j < q then k + 1 else k)))))
      case atStart => exact ⟨0, by omega, rfl, hb3, HBx, HRw3, by simpa using HR3⟩
      case round =>
        clear HR3 HBx HRw3 hb3
        obtain ⟨q, hq, rfl, hb, HBx, HRw, HR⟩ := hrel
        by_cases hlt2 : q < m
        · obtain ⟨g2, rfl⟩ : ∃ g2, gk = g2 + 1 := ⟨gk - 1, by omega⟩
          obtain ⟨b, hbq⟩ : ∃ b, s.d.data.toList[q]? = some b := ⟨_, List.getElem?_eq_getElem (by rw [← Lib.size_eq, HSd.out]; exact hlt2)⟩
          have hqs : q < s.d.size := by rw [HSd.out]; exact hlt2
          have HY := Lib.hid (yOf_at HX.out hbq)
          have hib : s.d[q] = b := by
            have h1 := (List.getElem?_eq_some_iff.1 hbq).2
            rw [← h1]
            rfl
          clear hbq
          have hBx0 := HBx.out.1
          have hgl := HR.out.lt
          generalize hB : (List.range m).map (fun j => valTo (xOf xs) (yOf xs j) z xs.length (if j < q then k + 1 else k)) = B at *
          have hBq : B[q]? = some (valTo (xOf xs) (yOf xs q) z xs.length k) := by
            rw [← hB, List.getElem?_map, List.getElem?_range hlt2]
            simp
          have HBs : Hid ((List.range m).map (fun j => valTo (xOf xs) (yOf xs j) z xs.length (if j < q + 1 then k + 1 else k)) = B.set q (valTo (xOf xs) (yOf xs q) z xs.length k ^^^ mul (wtTo (xOf xs) z k xs.length) b.toBitVec)) := Lib.hid (by
            rw [← hB]
            apply List.ext_getElem
            · simp
            · intro i h1 h2
              rw [List.getElem_set]
              by_cases e : q = i
              · subst e
                simp only [List.getElem_map, List.getElem_range, if_true]
                rw [if_pos (by omega)]
                show valTo _ _ _ _ _ ^^^ mul _ _ = _
                rw [HY.out]
              · simp only [List.getElem_map, List.getElem_range, if_neg e]
                by_cases e2 : i < q
                · rw [if_pos e2, if_pos (by omega)]
                · rw [if_neg e2, if_neg (by omega)])
          clear hB
          obtain ⟨q1, q2⟩ := HR.out.cell hBq
          obtain ⟨q3, q4⟩ := HRw.out.cell HWk.out
          obtain ⟨p0, p1, p2⟩ := HBx.out
          have hbb : ((b.toNat : Nat) : Int) = (b.toBitVec.toNat : Int) := rfl
          generalize b.toBitVec = bv at *
          generalize valTo (xOf xs) (yOf xs q) z xs.length k = o at *
          generalize wtTo (xOf xs) z k xs.length = wk at *
          have x1 := bits_xor o (mul wk bv)
          generalize o ^^^ mul wk bv = ow at *
          clear hBq
          go_wp2_with fail
          --R9
          refine wp_region_seqT (fun W => W = wr.drew) 15 [(0, true), (1, true), (2, true), (3, true), (4, true), (5, true), (6, true), (7, true), (8, true), (9, true), (10, true), (11, true), (12, false), (13, true), (14, true), (15, false)] (by as_aux_lemma => kernel_rfl) (by as_aux_lemma => kernel_rfl) (by as_aux_lemma => kernel_rfl) (by decide) (by as_aux_lemma => kernel_rfl) (by decide) rfl ?_
          intro OPS HO
          refine seqT_take (o := ⟨_, _, _, _, _, _⟩) (v := ?_) (by rw [HO.out]; rfl) (by rfl) ?_ ?_
          rotate_left 1
          · first | ((intro W _; go_simp) <;> with_reducible rfl) | (intro W hW; subst hW; (go_simp <;> with_reducible rfl))
          try simp only [Act.put, List.setIfInBounds_toArray, List.set_cons_zero, List.set_cons_succ]
          refine seqT_take (o := ⟨_, _, _, _, _, _⟩) (v := ?_) (by rw [HO.out]; rfl) (by rfl) ?_ ?_
          rotate_left 1
          · first | ((intro W _; go_simp) <;> with_reducible rfl) | (intro W hW; subst hW; (go_simp <;> with_reducible rfl))
          try simp only [Act.put, List.setIfInBounds_toArray, List.set_cons_zero, List.set_cons_succ]
          refine seqT_take (o := ⟨_, _, _, _, _, _⟩) (v := ?_) (by rw [HO.out]; rfl) (by rfl) ?_ ?_
          rotate_left 1
          · first | ((intro W _; go_simp) <;> with_reducible rfl) | (intro W hW; subst hW; (go_simp <;> with_reducible rfl))
          try simp only [Act.put, List.setIfInBounds_toArray, List.set_cons_zero, List.set_cons_succ]
          refine seqT_take (o := ⟨_, _, _, _, _, _⟩) (v := ?_) (by rw [HO.out]; rfl) (by rfl) ?_ ?_
          rotate_left 1
          · first | ((intro W _; go_simp) <;> with_reducible rfl) | (intro W hW; subst hW; (go_simp <;> with_reducible rfl))
          try simp only [Act.put, List.setIfInBounds_toArray, List.set_cons_zero, List.set_cons_succ]
          refine seqT_take (o := ⟨_, _, _, _, _, _⟩) (v := ?_) (by rw [HO.out]; rfl) (by rfl) ?_ ?_
          rotate_left 1
          · first | ((intro W _; go_simp) <;> with_reducible rfl) | (intro W hW; subst hW; (go_simp <;> with_reducible rfl))
          try simp only [Act.put, List.setIfInBounds_toArray, List.set_cons_zero, List.set_cons_succ]
          refine seqT_take (o := ⟨_, _, _, _, _, _⟩) (v := ?_) (by rw [HO.out]; rfl) (by rfl) ?_ ?_
          rotate_left 1
          · first | ((intro W _; go_simp) <;> with_reducible rfl) | (intro W hW; subst hW; (go_simp <;> with_reducible rfl))
          try simp only [Act.put, List.setIfInBounds_toArray, List.set_cons_zero, List.set_cons_succ]
          refine seqT_take (o := ⟨_, _, _, _, _, _⟩) (v := ?_) (by rw [HO.out]; rfl) (by rfl) ?_ ?_
          rotate_left 1
          · first | ((intro W _; go_simp) <;> with_reducible rfl) | (intro W hW; subst hW; (go_simp <;> with_reducible rfl))
          try simp only [Act.put, List.setIfInBounds_toArray, List.set_cons_zero, List.set_cons_succ]
          refine seqT_take (o := ⟨_, _, _, _, _, _⟩) (v := ?_) (by rw [HO.out]; rfl) (by rfl) ?_ ?_
          rotate_left 1
          · first | ((intro W _; go_simp) <;> with_reducible rfl) | (intro W hW; subst hW; (go_simp <;> with_reducible rfl))
          try simp only [Act.put, List.setIfInBounds_toArray, List.set_cons_zero, List.set_cons_succ]
          refine seqT_take (o := ⟨_, _, _, _, _, _⟩) (v := ?_) (by rw [HO.out]; rfl) (by rfl) ?_ ?_
          rotate_left 1
          · first | ((intro W _; go_simp) <;> with_reducible rfl) | (intro W hW; subst hW; (go_simp <;> with_reducible rfl))
          try simp only [Act.put, List.setIfInBounds_toArray, List.set_cons_zero, List.set_cons_succ]
          refine seqT_take (o := ⟨_, _, _, _, _, _⟩) (v := ?_) (by rw [HO.out]; rfl) (by rfl) ?_ ?_
          rotate_left 1
          · first | ((intro W _; go_simp) <;> with_reducible rfl) | (intro W hW; subst hW; (go_simp <;> with_reducible rfl))
          try simp only [Act.put, List.setIfInBounds_toArray, List.set_cons_zero, List.set_cons_succ]
          refine seqT_take (o := ⟨_, _, _, _, _, _⟩) (v := ?_) (by rw [HO.out]; rfl) (by rfl) ?_ ?_
          rotate_left 1
          · first | ((intro W _; go_simp) <;> with_reducible rfl) | (intro W hW; subst hW; (go_simp <;> with_reducible rfl))
          try simp only [Act.put, List.setIfInBounds_toArray, List.set_cons_zero, List.set_cons_succ]
          refine seqT_take (o := ⟨_, _, _, _, _, _⟩) (v := ?_) (by rw [HO.out]; rfl) (by rfl) ?_ ?_
          rotate_left 1
          · first | ((intro W _; go_simp) <;> with_reducible rfl) | (intro W hW; subst hW; (go_simp <;> with_reducible rfl))
          try simp only [Act.put, List.setIfInBounds_toArray, List.set_cons_zero, List.set_cons_succ]
          refine seqT_do (o := ⟨_, _, _, _, _, _⟩) (by rw [HO.out]; rfl) (by rfl) (fun K hK => ?_)
          try simp only [hib, hbb]
          go_wp2_with (go_at_call 42; (with_reducible refine (times_any _ _ _).mono ?_); rintro e w' ⟨rfl, rfl⟩)
          refine hK.out _ _ (fun _ => rfl) ?_
          clear hK K
          try simp only [Act.put, List.setIfInBounds_toArray, List.set_cons_zero, List.set_cons_succ]
          refine seqT_take (o := ⟨_, _, _, _, _, _⟩) (v := ?_) (by rw [HO.out]; rfl) (by rfl) ?_ ?_
          rotate_left 1
          · first | ((intro W _; go_simp) <;> with_reducible rfl) | (intro W hW; subst hW; (go_simp <;> with_reducible rfl))
          try simp only [Act.put, List.setIfInBounds_toArray, List.set_cons_zero, List.set_cons_succ]
          refine seqT_take (o := ⟨_, _, _, _, _, _⟩) (v := ?_) (by rw [HO.out]; rfl) (by rfl) ?_ ?_
          rotate_left 1
          · first | ((intro W _; go_simp) <;> with_reducible rfl) | (intro W hW; subst hW; (go_simp <;> with_reducible rfl))
          try simp only [Act.put, List.setIfInBounds_toArray, List.set_cons_zero, List.set_cons_succ]
          refine seqT_do (o := ⟨_, _, _, _, _, _⟩) (by rw [HO.out]; rfl) (by rfl) (fun K hK => ?_)
          try simp only [x1]
          go_wp2_with fail
          refine hK.out _ _ (fun h => absurd rfl h) ?_
          clear hK K
          try simp only [Act.put, List.setIfInBounds_toArray, List.set_cons_zero, List.set_cons_succ]
          refine seqT_done ?_
          --END9
          go_wp2_with fail
          go_roundg g2
          case measure => omega
          case rel => exact ⟨q + 1, by omega, by go_num, (hb.drew).setCell (p := ⟨gb, q, none⟩) (by show _ ≤ gb; omega) _, Lib.hid (HBx.out.drew.set (by omega) q _), Lib.hid (HRw.out.drew.set_other (by omega) q _), Lib.hid (by rw [HBs.out]; exact HR.out.drew.set q ow)⟩
        · obtain rfl : q = m := by omega
          have HB2 : Hid ((List.range q).map (fun j => valTo (xOf xs) (yOf xs j) z xs.length (if j < q then k + 1 else k)) = (List.range q).map (fun j => valTo (xOf xs) (yOf xs j) z xs.length (k + 1))) := Lib.hid (by
            apply List.map_congr_left
            intro i hi
            rw [if_pos (List.mem_range.1 hi)])
          rw [HB2.out] at HR
          clear HB2
          go_wp2_with fail
          go_roundg g
          case measure => omega
          case rel => exact ⟨k + 1, by omega, by go_num, hb, HRw, HR⟩
    · obtain rfl : k = xs.length := by omega
      have hO := HR.out.own (w0 := w) (by omega) (by simp; omega) hb
      have hcv := convB hO
      have HT : Hid (valT xs m z = ⟨(((List.range m).map (fun j => valTo (xOf xs) (yOf xs j) z xs.length xs.length)).map UInt8.ofBitVec).toArray⟩) := Lib.hid (by rw [List.map_map]; rfl)
      simp only [List.length_map, List.length_range] at hcv
      rw [← HT.out] at hcv
      obtain ⟨VT, hVT⟩ : ∃ VT, VT = valT xs m z := ⟨_, rfl⟩
      rw [← hVT] at hcv
      have HV := Lib.hid hVT
      clear hVT HT
      clear hO HR HRw
      go_wp2_with fail
      go_ret
      exact ⟨congrArg (fun x => Ending.returned (Value.string x)) HV.out, hb⟩
end Go.Proofs.YtjcpcmiijadmcaaDoor
