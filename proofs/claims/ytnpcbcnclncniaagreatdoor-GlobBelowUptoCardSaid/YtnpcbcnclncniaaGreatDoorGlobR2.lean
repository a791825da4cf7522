/-
  wherryref1.showParts.
-/
import Derived.Test.YtnpcbcnclncniaaGreatDoorGlobR1
namespace Go.Proofs.YtnpcbcnclncniaaGreatDoor
open Go.RowKit

theorem str_eq {a : ByteArray} {l : List UInt8} (h : a.data.toList = l) : a = ⟨l.toArray⟩ := by
  apply ByteArray.ext
  apply Array.toList_inj.1
  rw [h]
theorem size_of_toList {a : ByteArray} {l : List UInt8} (h : a.data.toList = l) : a.size = l.length := by rw [Lib.size_eq, h]

set_option maxHeartbeats 8000000 in
set_option maxRecDepth 100000 in
theorem showParts_any : ∀ (n : Nat) (s : Sl (P n)) (d : Bool) (w : World), SOk w n s → Good n s.xs → szL n s.xs ≤ 1048576 →
    Calls Tryz.prog 58 #[.slice s.a s.xs.length s.c, .bool d] w fun e w' => e = .returned (.string ⟨(txt n d s.xs).toArray⟩) ∧ Below w.heap.size w w' := by
  intro n
  induction n with
  | zero =>
    intro s d w _ _ _
    obtain ⟨a, c, xs⟩ := s
    cases xs with
    | cons x _ => exact nomatch x
    | nil =>
      go_enter Tryz.func58, Tryz.ntmps58
      go_wp2_with fail
      refine wp_loop_rounds 1 ?_
      rw [rounds_succ]
      go_wp2_with fail
      go_ret
      exact ⟨rfl, Below.refl _ _⟩
  | succ n ih =>
    rintro ⟨sa, sc, xs⟩ d w hs hg hz
    have hlen : xs.length ≤ 1048576 := Nat.le_trans (len_le_sz (n + 1) xs) hz
    simp only [] at hz hg
    have HS := Lib.hid hs
    have HG := Lib.hid hg
    have HIH := Lib.hid ih
    clear hs hg ih
    go_enter Tryz.func58, Tryz.ntmps58
    go_wp2_with fail
    go_loopg [5, 14] xs.length (fun g s5 i wx => ∃ (k : Nat) (B : ByteArray), k + g = xs.length ∧ i = .int .i64 k ∧ s5 = .string B ∧ Below w.heap.size w wx ∧ Hid (B.data.toList = txt (n + 1) d (xs.take k)))
    case atStart => exact ⟨0, ⟨#[]⟩, by omega, rfl, rfl, Below.refl _ _, Lib.hid rfl⟩
    case round =>
      obtain ⟨k, B, hk, rfl, rfl, hb, HB⟩ := hrel
      by_cases hlt : k < xs.length
      · obtain ⟨g, rfl⟩ : ∃ g, gk = g + 1 := ⟨gk - 1, by omega⟩
        obtain ⟨p, hx⟩ : ∃ p : P (n + 1), xs[k]? = some p := ⟨_, List.getElem?_eq_getElem hlt⟩
        have hmem := List.mem_of_getElem? hx
        obtain ⟨ba, off, ha, hba, r0, r1, r2, r3, r4⟩ := partRow (p := pt n p) ((HS.out.under hb).1) hx
        have HPo : Hid (POk w (n + 1) p) := Lib.hid (HS.out.2 p hmem)
        obtain ⟨⟨kd1, kd6⟩, hbad, hrg, hways⟩ := HG.out p hmem
        have hsp : sz (n + 1) p ≤ 1048576 := Nat.le_trans (le_sum (List.mem_map.2 ⟨p, hmem, rfl⟩)) hz
        have hszp : sz (n + 1) p = 1 + (pt n p).text.size + (pt n p).rg.xs.length + ((pt n p).ways.xs.map (fun s => 1 + szL n s.xs)).sum := rfl
        have hrl : (pt n p).rg.xs.length ≤ 1048576 := by omega
        have htl : (pt n p).text.size ≤ 1048576 := by omega
        have hws : ((pt n p).ways.xs.map (fun s => 1 + szL n s.xs)).sum ≤ 1048576 := by omega
        have hwl : (pt n p).ways.xs.length ≤ 1048576 := by
          have := sum_mono (xs := (pt n p).ways.xs) (f := fun _ => 1) (g := fun s => 1 + szL n s.xs) (fun s _ => by omega)
          rw [sum_ones1] at this
          omega
        have hBs : B.size + 6 * sz (n + 1) p ≤ 6291456 := by
          have h1 := txt_len (n + 1) d (xs.take k)
          have h2 : szL (n + 1) (xs.take (k + 1)) ≤ szL (n + 1) xs := sum_take_le _ _ _
          have h3 : szL (n + 1) (xs.take (k + 1)) = szL (n + 1) (xs.take k) + sz (n + 1) p := by
            unfold szL
            rw [take_map_snoc _ hx, List.sum_append]
            simp
          rw [size_of_toList HB.out]
          omega
        rw [hszp] at hBs
        obtain ⟨E, hE⟩ : ∃ E, txtOf (fun s => txt n true s.xs) d (pt n p) = E := ⟨_, rfl⟩
        have HT : Hid (txt (n + 1) d (xs.take (k + 1)) = B.data.toList ++ E) := Lib.hid (by
          rw [← hE, HB.out]
          show (xs.take (k + 1)).flatMap _ = (xs.take k).flatMap _ ++ _
          rw [flat_snoc hx])
        have HE := Lib.hid hE
        have HPo2 : Hid (SlHolds w 2 rgCells (pt n p).rg ∧ SlHolds w 1 (fun s : Sl (P n) => [s.val]) (pt n p).ways ∧ ∀ s ∈ (pt n p).ways.xs, SOk w n s) := Lib.hid ⟨HPo.out.2.1, HPo.out.2.2.2.1, HPo.out.2.2.2.2⟩
        have HRg := Lib.hid hrg
        have HWs := Lib.hid hways
        have HBad := Lib.hid hbad
        clear HPo hx hsp hszp hmem hE hrg hways hbad HB
        obtain ⟨oA, hoA⟩ : ∃ oA, txt (n + 1) d (xs.take (k + 1)) = oA := ⟨_, rfl⟩
        rw [hoA] at HT
        have HOA := Lib.hid hoA
        clear hoA
        generalize pt n p = q at *
        obtain ⟨kind, text, neg, ⟨ra, rc, rxs⟩, ⟨wa, wcap, wxs⟩⟩ := q
        simp only [] at *
        subst ha
        have hbx := bAlloc (Below.refl wr.heap.size wr) (.cells #[.int .i64 kind, .string text, .bool neg, .slice ra rxs.length rc, .slice wa wxs.length wcap] 92)
        have HX5 := Lib.hid (BoxIs.new wr #[.int .i64 kind, .string text, .bool neg, .slice ra rxs.length rc, .slice wa wxs.length wcap] 92)
        have hb5 := bTrans hb hbx
        clear hbx
        go_upto_region 5 with fail
        generalize wr.alloc _ = w5 at *
        generalize wr.heap.size = zx at *
        clear r0 r1 r2 r3 r4
        obtain ⟨q0, q1, q2, q3, q4, q5⟩ := HX5.out.part (p := (⟨kind, text, neg, ⟨ra, rc, rxs⟩, ⟨wa, wcap, wxs⟩⟩ : PartOf (P n)))
        simp only [] at q1 q2 q3 q4 q5
        rcases (by omega : kind = 1 ∨ kind = 2 ∨ kind = 3 ∨ kind = 4 ∨ kind = 5 ∨ kind = 6) with rfl | rfl | rfl | rfl | rfl | rfl
        · as_aux_lemma =>
            have HT2 : Hid (oA = B.data.toList ++ escL (spc d) text.data.toList) := Lib.hid (by rw [HT.out, ← HE.out]; rfl)
            clear HT HE
            obtain ⟨wo, rfl⟩ : ∃ wo : World, wo = wr := ⟨_, rfl⟩
            go_wp2_with fail
            go_loopg [5, 25] text.size (fun g s5 i wx => ∃ (j : Nat) (C : ByteArray), j + g = text.size ∧ i = .int .i64 j ∧ s5 = .string C ∧ w5 = wx ∧ C.size ≤ B.size + j * 2 ∧ Hid (C.data.toList = B.data.toList ++ escL (spc d) (text.data.toList.take j)))
            case atStart => exact ⟨0, B, by omega, rfl, rfl, rfl, by omega, Lib.hid (by simp [escL])⟩
            case round =>
              obtain ⟨j, C, hj, rfl, rfl, rfl, hCs, HC⟩ := hrel
              by_cases hlt2 : j < text.size
              · obtain ⟨g2, rfl⟩ : ∃ g2, gk = g2 + 1 := ⟨gk - 1, by omega⟩
                obtain ⟨ch, hch⟩ : ∃ ch : UInt8, text[j]'hlt2 = ch := ⟨_, rfl⟩
                have hcl : text.data.toList[j]? = some ch := by rw [← hch]; exact Lib.data_getElem? text j hlt2
                have hTk : text.data.toList.take (j + 1) = text.data.toList.take j ++ [ch] := by rw [List.take_add_one, hcl]; rfl
                have HTk : Hid (B.data.toList ++ escL (spc d) (text.data.toList.take (j + 1)) = C.data.toList ++ esc1 (spc d) ch) := Lib.hid (by rw [hTk, escL_snoc, ← List.append_assoc, ← HC.out])
                have hX1 : (text.extract j (j + 1)).data.toList = [ch] := by
                  rw [Lib.extract_data]
                  have : (text.data.toList.drop j) = ch :: text.data.toList.drop (j + 1) := by
                    have hl := (List.getElem?_eq_some_iff.1 hcl).1
                    rw [List.drop_eq_getElem_cons hl, (List.getElem?_eq_some_iff.1 hcl).2]
                  rw [this, show j + 1 - j = 1 by omega]
                  rfl
                have hX2 : (text.extract j (j + 1)).size = 1 := size_of_toList hX1
                obtain ⟨J, hJ, hJC⟩ := idx_has ⟨#[92, 42, 63, 91, 93, 123, 125]⟩ ch
                have HJC := Lib.hid (hJC ch.toNat rfl)
                have HSp : Hid (spc d ch = (decide (0 ≤ J) || (d && ch == 44))) := Lib.hid (by rw [← hJ]; rfl)
                have HX1 := Lib.hid hX1
                obtain ⟨Y0, hY0, hz0, hadd0⟩ := cat C ⟨#[92]⟩ (by show _ + 1 ≤ _; omega)
                have hz0 : Y0.size = C.size + 1 := hz0
                have HY0 : Hid (Y0.data.toList = C.data.toList ++ [92]) := Lib.hid hY0
                obtain ⟨Y1, hY1, hz1, hadd1⟩ := cat C (text.extract j (j + 1)) (by omega)
                have HY1 : Hid (Y1.data.toList = C.data.toList ++ [ch]) := Lib.hid (by rw [hY1, hX1])
                obtain ⟨Y2, hY2, hz2, hadd2⟩ := cat Y0 (text.extract j (j + 1)) (by omega)
                have HY2 : Hid (Y2.data.toList = C.data.toList ++ [92, ch]) := Lib.hid (by rw [hY2, hX1, hY0]; simp)
                have hs1 : Y1.size ≤ B.size + (j + 1) * 2 := by omega
                have hs2 : Y2.size ≤ B.size + (j + 1) * 2 := by omega
                clear hJ hJC hTk hcl hX1 hX2 hY0 hY1 hY2 hz0 hz1 hz2 HX1 HC
                have hsp : (0 ≤ J ∧ spc d ch = true) ∨ (¬ 0 ≤ J ∧ d = true ∧ ((ch.toNat : Int) == 44) = true ∧ spc d ch = true) ∨ (¬ 0 ≤ J ∧ d = true ∧ ((ch.toNat : Int) == 44) = false ∧ spc d ch = false) ∨ (¬ 0 ≤ J ∧ d = false ∧ spc d ch = false) := by
                  have h := HSp.out
                  by_cases h0 : 0 ≤ J
                  · rw [decide_eq_true h0] at h
                    exact .inl ⟨h0, h⟩
                  · rw [decide_eq_false h0] at h
                    cases d
                    · exact .inr (.inr (.inr ⟨h0, rfl, h⟩))
                    · have h4 : ((ch.toNat : Int) == 44) = (ch == 44) := by
                        rw [Bool.eq_iff_iff]
                        simp only [beq_iff_eq]
                        constructor
                        · intro e
                          exact UInt8.toNat_inj.1 (by simpa using (by omega : ch.toNat = 44))
                        · rintro rfl
                          rfl
                      rw [← h4] at h
                      cases h5 : ((ch.toNat : Int) == 44)
                      · rw [h5] at h
                        exact .inr (.inr (.inl ⟨h0, rfl, rfl, h⟩))
                      · rw [h5] at h
                        exact .inr (.inl ⟨h0, rfl, rfl, h⟩)
                have HE1 : Hid (esc1 (spc d) ch = if spc d ch then [92, ch] else [ch]) := Lib.hid rfl
                generalize esc1 (spc d) ch = e1 at *
                clear HSp
                rcases hsp with ⟨h0, h1⟩ | ⟨h0, h2, h3, h1⟩ | ⟨h0, h2, h3, h1⟩ | ⟨h0, h2, h1⟩
                · have HF : Hid (Y2.data.toList = B.data.toList ++ escL (spc d) (text.data.toList.take (j + 1))) := Lib.hid (by rw [HTk.out, HE1.out, h1, HY2.out]; rfl)
                  clear HTk HE1 HY0 HY1 HY2 h1
                  go_wp2_with (go_at_call 55; refine (HJC.out _).mono ?_; rintro e w6 ⟨rfl, rfl⟩)
                  go_roundg g2
                  case measure => omega
                  case rel => exact ⟨j + 1, Y2, by omega, by go_num, rfl, rfl, hs2, HF⟩
                · have HF : Hid (Y2.data.toList = B.data.toList ++ escL (spc d) (text.data.toList.take (j + 1))) := Lib.hid (by rw [HTk.out, HE1.out, h1, HY2.out]; rfl)
                  clear HTk HE1 HY0 HY1 HY2 h1
                  subst h2
                  go_wp2_with (go_at_call 55; refine (HJC.out _).mono ?_; rintro e w6 ⟨rfl, rfl⟩)
                  go_roundg g2
                  case measure => omega
                  case rel => exact ⟨j + 1, Y2, by omega, by go_num, rfl, rfl, hs2, HF⟩
                · have HF : Hid (Y1.data.toList = B.data.toList ++ escL (spc d) (text.data.toList.take (j + 1))) := Lib.hid (by rw [HTk.out, HE1.out, h1, HY1.out]; rfl)
                  clear HTk HE1 HY0 HY1 HY2 h1
                  subst h2
                  go_wp2_with (go_at_call 55; refine (HJC.out _).mono ?_; rintro e w6 ⟨rfl, rfl⟩)
                  go_roundg g2
                  case measure => omega
                  case rel => exact ⟨j + 1, Y1, by omega, by go_num, rfl, rfl, hs1, HF⟩
                · have HF : Hid (Y1.data.toList = B.data.toList ++ escL (spc d) (text.data.toList.take (j + 1))) := Lib.hid (by rw [HTk.out, HE1.out, h1, HY1.out]; rfl)
                  clear HTk HE1 HY0 HY1 HY2 h1
                  subst h2
                  go_wp2_with (go_at_call 55; refine (HJC.out _).mono ?_; rintro e w6 ⟨rfl, rfl⟩)
                  go_roundg g2
                  case measure => omega
                  case rel => exact ⟨j + 1, Y1, by omega, by go_num, rfl, rfl, hs1, HF⟩
              · have HF : Hid (C.data.toList = oA) := Lib.hid (by rw [HC.out, HT2.out, List.take_of_length_le (by rw [← Lib.size_eq]; omega)])
                clear HC HT2
                go_wp2_with fail
                go_roundg g
                case measure => omega
                case rel => exact ⟨k + 1, C, by omega, by go_num, rfl, hb5, Lib.hid (HF.out.trans HOA.out.symm)⟩
        · as_aux_lemma =>
            obtain ⟨Y, hY, _, hadd⟩ := cat B ⟨#[63]⟩ (by show _ + 1 ≤ _; omega)
            have HF : Hid (Y.data.toList = oA) := Lib.hid (by rw [hY, HT.out, ← HE.out]; rfl)
            clear HT HE hY
            go_wp2_with fail
            go_roundg g
            case measure => omega
            case rel => exact ⟨k + 1, Y, by omega, by go_num, rfl, hb5, Lib.hid (HF.out.trans HOA.out.symm)⟩
        · as_aux_lemma =>
            obtain ⟨Y, hY, _, hadd⟩ := cat B ⟨#[42]⟩ (by show _ + 1 ≤ _; omega)
            have HF : Hid (Y.data.toList = oA) := Lib.hid (by rw [hY, HT.out, ← HE.out]; rfl)
            clear HT HE hY
            go_wp2_with fail
            go_roundg g
            case measure => omega
            case rel => exact ⟨k + 1, Y, by omega, by go_num, rfl, hb5, Lib.hid (HF.out.trans HOA.out.symm)⟩
        · as_aux_lemma =>
            obtain ⟨Y, hY, _, hadd⟩ := cat B ⟨#[42, 42]⟩ (by show _ + 2 ≤ _; omega)
            have HF : Hid (Y.data.toList = oA) := Lib.hid (by rw [hY, HT.out, ← HE.out]; rfl)
            clear HT HE hY
            go_wp2_with fail
            go_roundg g
            case measure => omega
            case rel => exact ⟨k + 1, Y, by omega, by go_num, rfl, hb5, Lib.hid (HF.out.trans HOA.out.symm)⟩
        · as_aux_lemma =>
            have HC := Lib.hid (showSet_any (⟨5, text, neg, ⟨ra, rc, rxs⟩, ⟨wa, wcap, wxs⟩⟩ : PartOf (P n)) w5 (HPo2.out.1.under hb5) HRg.out hrl)
            simp only [] at HC
            have hl := setTxt_len neg rxs
            have hsX : (⟨(setTxt neg rxs).toArray⟩ : ByteArray).size ≤ 3 + rxs.length * 5 := by rw [Lib.size_eq]; exact hl
            have HX : Hid ((⟨(setTxt neg rxs).toArray⟩ : ByteArray).data.toList = setTxt neg rxs) := Lib.hid rfl
            generalize (⟨(setTxt neg rxs).toArray⟩ : ByteArray) = BX at *
            obtain ⟨Y, hY, _, hadd⟩ := cat B BX (by omega)
            have HF : Hid (Y.data.toList = oA) := Lib.hid (by rw [hY, HT.out, ← HE.out, HX.out]; rfl)
            clear HT HE hY hl hsX HX
            go_wp2_with fail
            refine HC.out.mono ?_
            rintro e w6 ⟨rfl, hb6⟩
            clear q0 q1 q2 q3 q4 q5
            go_wp2_with fail
            go_roundg g
            case measure => omega
            case rel => exact ⟨k + 1, Y, by omega, by go_num, rfl, bTrans hb5 hb6, Lib.hid (HF.out.trans HOA.out.symm)⟩
        · as_aux_lemma =>
            have hwne : wxs ≠ [] := ways_some (p := (⟨6, text, neg, ⟨ra, rc, rxs⟩, ⟨wa, wcap, wxs⟩⟩ : PartOf (P n))) rfl HBad.out
            have HT2 : Hid (oA = B.data.toList ++ waysTxt (wxs.map (fun s => txt n true s.xs))) := Lib.hid (by rw [HT.out, ← HE.out]; rfl)
            clear HT HE
            obtain ⟨ys, hys⟩ : ∃ ys : List ByteArray, wxs.map (fun s => (⟨(txt n true s.xs).toArray⟩ : ByteArray)) = ys := ⟨_, rfl⟩
            have hyl : ys.length = wxs.length := by rw [← hys, List.length_map]
            have HYs := Lib.hid hys
            have hyt : ys.map (·.data.toList) = wxs.map (fun s => txt n true s.xs) := by
              rw [← hys, List.map_map]
              rfl
            have hjl : (Lib.join (ys.map (·.data.toList)) [44]).length ≤ 6 * (wxs.map (fun s => 1 + szL n s.xs)).sum := by
              rw [hyt]
              have h1 := join_len (wxs.map (fun s => txt n true s.xs))
              rw [List.map_map] at h1
              have h2 := sum_mono (xs := wxs) (f := (fun x : List UInt8 => x.length + 1) ∘ (fun s : Sl (P n) => txt n true s.xs)) (g := fun s => 6 * (1 + szL n s.xs)) (fun s _ => by
                have := txt_len n true s.xs
                show (txt n true s.xs).length + 1 ≤ _
                omega)
              have h5 : (wxs.map (fun s => 6 * (1 + szL n s.xs))).sum = 6 * (wxs.map (fun s => 1 + szL n s.xs)).sum := sum_six (fun s : Sl (P n) => szL n s.xs) _
              omega
            obtain ⟨JT, hJT⟩ : ∃ JT, Lib.join (ys.map (·.data.toList)) [44] = JT := ⟨_, rfl⟩
            have HT3 : Hid (oA = B.data.toList ++ ([123] ++ JT ++ [125])) := Lib.hid (by rw [HT2.out, ← hJT, hyt]; rfl)
            have HJT := Lib.hid hJT
            rw [hJT] at hjl
            have hwpos : 0 < wxs.length := List.length_pos_iff.2 hwne
            clear HT2 hyt hys hJT hwne
            obtain ⟨wo, rfl⟩ : ∃ wo : World, wo = wr := ⟨_, rfl⟩
            go_wp2_with fail
            clear q0 q1 q2 q3 q4 q5
            go_loopg [9, 78] wxs.length (fun g s9 i wx => ∃ (j : Nat) (a' : Option Addr) (cap : Nat), j + g = wxs.length ∧ i = .int .i64 j ∧ s9 = .slice a' j cap ∧ Hid (OwnS w5 wx a' cap (ys.take j)))
            case atStart => exact ⟨0, none, 0, by omega, rfl, rfl, Lib.hid (by rw [List.take_zero]; exact OwnS.nil (Below.refl _ _))⟩
            case round =>
              obtain ⟨j, a', cap, hj, rfl, rfl, HW⟩ := hrel
              have htl : (ys.take j).length = j := by rw [List.length_take]; omega
              by_cases hlt2 : j < wxs.length
              · obtain ⟨g2, rfl⟩ : ∃ g2, gk = g2 + 1 := ⟨gk - 1, by omega⟩
                obtain ⟨t, hx⟩ : ∃ t : Sl (P n), wxs[j]? = some t := ⟨_, List.getElem?_eq_getElem hlt2⟩
                have hbw := bTrans hb5 HW.out.below
                obtain ⟨bw, ow, ha, hbwl, r0⟩ := wayRow (HPo2.out.2.1.under hbw) hx
                have hmem := List.mem_of_getElem? hx
                have hszt : 1 + szL n t.xs ≤ (wxs.map (fun s => 1 + szL n s.xs)).sum := le_sum (List.mem_map.2 ⟨t, hmem, rfl⟩)
                have HC := Lib.hid (HIH.out t true wr ((HPo2.out.2.2 t hmem).under hbw) (HWs.out t hmem) (by omega))
                have HYj : Hid (ys[j]? = some (⟨(txt n true t.xs).toArray⟩ : ByteArray)) := Lib.hid (by rw [← HYs.out, List.getElem?_map, hx]; rfl)
                generalize (⟨(txt n true t.xs).toArray⟩ : ByteArray) = y at *
                have HTL := Lib.hid htl
                simp only [] at ha
                cases ha
                clear hx hmem htl
                go_wp2_with fail
                refine HC.out.mono ?_
                rintro e w6 ⟨rfl, hb6⟩
                have HW6 := Lib.hid (OwnS.under HW.out hb6)
                have hl1 : (ys.take j).length + 1 ≤ 8796093022208 := by rw [HTL.out]; omega
                clear r0
                go_wp2_with (at_builtin; refine wp_appS HW6.out y hl1 rfl (.tmp 82) (.tmp 85) rfl (by rw [HTL.out]; rfl) rfl ?_; rw [HTL.out]; intro g5 cap5 w7 hO7)
                have HO7 : Hid (OwnS w5 w7 (some ⟨g5, 0, none⟩) cap5 (ys.take (j + 1))) := Lib.hid (by
                  rw [List.take_add_one, HYj.out]
                  exact hO7)
                clear hO7 HW6 HW
                go_wp2_with fail
                go_roundg g2
                case measure => omega
                case rel => exact ⟨j + 1, some ⟨g5, 0, none⟩, cap5, by omega, by go_num, rfl, HO7⟩
              · obtain rfl : j = wxs.length := by omega
                have HW2 : Hid (OwnS w5 wr a' cap ys) := Lib.hid (by
                  have := HW.out
                  rw [List.take_of_length_le (by omega)] at this
                  exact this)
                obtain ⟨bk, o, ha, hbk, -⟩ := (Own.holds HW2.out).at (k := 0) (u := .string (ys[0]'(by omega))) (by rw [List.getElem?_map, List.getElem?_eq_getElem (by omega)]; rfl)
                subst ha
                have HJ := Lib.hid (Tryz.strings_Join bk o cap ys ⟨#[44]⟩ wr (fun m y hy => by
                  obtain ⟨bk', o', e, _, hc⟩ := (Own.holds HW2.out).at (k := m) (u := .string y) (by rw [List.getElem?_map, hy]; rfl)
                  cases e
                  exact hc) hbk (by omega) (by have := Own.cap HW2.out; exact this) (by
                  show (Lib.join (ys.map (·.data.toList)) [44]).length ≤ _
                  rw [HJT.out]
                  omega))
                have HJ : Hid (Calls Tryz.prog 93 #[.slice (some ⟨bk, o, none⟩) ys.length cap, .string ⟨#[44]⟩] wr fun e w' => e = .returned (.string ⟨JT.toArray⟩) ∧ Below wr.heap.size wr w') := Lib.hid (by
                  rw [← HJT.out]
                  exact HJ.out)
                rw [hyl] at HJ
                have hJs : (⟨JT.toArray⟩ : ByteArray).size = JT.length := by rw [Lib.size_eq]
                have HJs : Hid ((⟨JT.toArray⟩ : ByteArray).data.toList = JT) := Lib.hid rfl
                generalize (⟨JT.toArray⟩ : ByteArray) = JB at *
                obtain ⟨Y0, hY0, hz0, hadd0⟩ := cat ⟨#[123]⟩ JB (by show 1 + _ ≤ _; omega)
                have hz0 : Y0.size = 1 + JB.size := hz0
                obtain ⟨Y1, hY1, hz1, hadd1⟩ := cat Y0 ⟨#[125]⟩ (by show _ + 1 ≤ _; omega)
                have hz1 : Y1.size = Y0.size + 1 := hz1
                obtain ⟨Y2, hY2, _, hadd2⟩ := cat B Y1 (by omega)
                have HF : Hid (Y2.data.toList = oA) := Lib.hid (by rw [HT3.out, hY2, hY1, hY0, HJs.out])
                have hbw := bTrans hb5 HW2.out.below
                clear hY0 hY1 hY2 hz0 hz1 hJs HJs HW HT3 HJT
                have HTL := Lib.hid htl
                have HYL := Lib.hid hyl
                clear hyl
                go_wp2_with fail
                refine HJ.out.mono ?_
                rintro e w6 ⟨rfl, hb6⟩
                go_wp2_with fail
                go_roundg g
                case measure => omega
                case rel => exact ⟨k + 1, Y2, by omega, by go_num, rfl, bTrans hbw hb6, Lib.hid (HF.out.trans HOA.out.symm)⟩
      · obtain rfl : k = xs.length := by omega
        rw [List.take_of_length_le (Nat.le_refl _)] at HB
        have HF := Lib.hid (str_eq HB.out)
        clear HB
        go_wp2_with fail
        go_ret
        exact ⟨ret_strv HF.out, hb⟩
end Go.Proofs.YtnpcbcnclncniaaGreatDoor
