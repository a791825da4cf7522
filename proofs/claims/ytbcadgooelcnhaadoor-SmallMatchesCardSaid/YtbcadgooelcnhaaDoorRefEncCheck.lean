/-
  The reference's CheckEncoding, walked.
-/
import Derived.Test.YtbcadgooelcnhaaDoorEncCheck
namespace Go.Proofs.YtbcadgooelcnhaaDoor
open Go.RowKit

set_option maxHeartbeats 4000000 in
set_option maxRecDepth 100000 in
theorem refCheckEncoding_any (x : Wh.Enc) (a : Option Addr) (c : Nat) (w : World) (hE : Env w) (hH : Holds w a (x.names.map Value.string)) (hl : x.names.length ≤ 9223372036854775807) (hz : ∀ s ∈ x.names, s.size ≤ 9223372036854775807)
    (hf : x.forbid.size ≤ 9223372036854775807) (hh : x.head.size ≤ 9223372036854775807) (ht : x.tail.size ≤ 9223372036854775807) (hm : -9223372036854775808 ≤ x.max ∧ x.max ≤ 9223372036854775807) :
    Calls Tryd.prog 52 #[encVal x a c] w fun e w' => e = .returned (.int .i64 (Wh.encErr x)) ∧ Below w.heap.size w w' := by
  obtain ⟨f, h, t, ns, cs, m⟩ := x
  simp only [encVal] at *
  have HE := Lib.hid hE
  have HH := Lib.hid hH
  have HZ := Lib.hid hz
  clear hE hH hz
  go_enter Tryd.func52, Tryd.ntmps52
  go_wp2_with fail
  have hW1 : ∃ W1, (w.alloc (.cells #[.string f, .string h, .string t, .slice a ns.length c, .bool cs, .int .i64 m] 61)).alloc (.cells #[.string f, .string h, .string t] 9) = W1 := ⟨_, rfl⟩
  obtain ⟨W1, hW1⟩ := hW1
  have hb1 : Below w.heap.size w W1 := by rw [← hW1]; exact bAlloc (bAlloc (Below.refl _ _) _) _
  have hsz : W1.heap.size = w.heap.size + 2 := by rw [← hW1]; simp
  have q3 : W1.cell? ⟨w.heap.size, 3, none⟩ = some (.slice a ns.length c) := by rw [← hW1]; simp [go_sem]
  have q4 : W1.cell? ⟨w.heap.size, 4, none⟩ = some (.bool cs) := by rw [← hW1]; simp [go_sem]
  have q5 : W1.cell? ⟨w.heap.size, 5, none⟩ = some (.int .i64 m) := by rw [← hW1]; simp [go_sem]
  have hS : ∀ (k : Nat) (s : ByteArray), [f, h, t][k]? = some s → W1.cell? ⟨w.heap.size + 1, k, none⟩ = some (.string s) := by
    intro k s hk
    rw [← hW1, World.cell?_alloc_at _ _ _ _ (by simp)]
    rcases k with _ | _ | _ | k <;> simp at hk <;> simp [hk]
  rw [hW1]
  have HS := Lib.hid hS
  have HSZ := Lib.hid hsz
  clear hW1 hS hsz
  have HFL : Hid (∀ s ∈ [f, h, t], s.size ≤ 9223372036854775807) := Lib.hid (by simp [hf, hh, ht])
  go_loopg [17] 3 (fun g s17 wx => ∃ k : Nat, k + g = 3 ∧ s17 = .int .i64 k ∧ wx = W1 ∧ Hid (([f, h, t].take k).all (fun s => Wh.formOk cs s.data.toList) = true))
  case atStart => exact ⟨0, by omega, rfl, rfl, Lib.hid rfl⟩
  case round =>
    obtain ⟨k, hk, rfl, rfl, HA⟩ := hrel
    by_cases hlt : k < 3
    · obtain ⟨g, rfl⟩ : ∃ g, gk = g + 1 := ⟨gk - 1, by omega⟩
      obtain ⟨s, hs⟩ : ∃ s, [f, h, t][k]? = some s := ⟨_, List.getElem?_eq_getElem (by simpa using hlt)⟩
      have hcs := HS.out k s hs
      have hsz := HFL.out s (List.mem_of_getElem? hs)
      have Hs := Lib.hid hs
      clear hs
      have hk3 : decide ((k : Int) < 3) = true := decide_eq_true (by omega)
      go_wp2_with fail
      go_loopg [23] s.size (fun g i wx => ∃ j : Nat, j + g = s.size ∧ i = .int .i64 j ∧ wx = wr ∧ Hid (Wh.formOk cs (s.data.toList.drop j) = Wh.formOk cs s.data.toList))
      case atStart => exact ⟨0, by omega, rfl, rfl, Lib.hid rfl⟩
      case round =>
        obtain ⟨j, hj, rfl, rfl, HF⟩ := hrel
        by_cases hjl : j < s.size
        · obtain ⟨g2, rfl⟩ : ∃ g2, gk = g2 + 1 := ⟨gk - 1, by omega⟩
          obtain ⟨x, hx⟩ : ∃ x : UInt8, s[j]'hjl = x := ⟨_, rfl⟩
          have hxl : s.data.toList[j]? = some x := by rw [← hx]; exact Lib.data_getElem? s j hjl
          have hx8 := x.toNat_lt
          have ex : (s.extract (j + 1) s.size).data.toList = s.data.toList.drop (j + 1) := Lib.extract_to_end s (j + 1)
          have hback : ((x.toNat : Int)).toNat.toUInt8 = x := by simp
          have hB := fun W => Tryd.strings_IndexByte (s.extract (j + 1) s.size) x.toNat W
          rw [ex, hback] at hB
          have hcon := Lib.contains_iff_indexByte (s.data.toList.drop (j + 1)) x
          generalize Lib.indexByte (s.data.toList.drop (j + 1)) x = v at *
          have hL := fun W => alnum_any x W
          have Hx := Lib.hid hxl
          have HX : Hid ((s.data.toList.drop (j + 1)).contains x = true ∨ Wh.okB cs x = false → Wh.encErr ⟨f, h, t, ns, cs, m⟩ = 6) := Lib.hid (fun hh => Wh.encErr_form (by
            rw [List.all_eq_false]
            refine ⟨s, List.mem_of_getElem? Hs.out, ?_⟩
            have e1 := HF.out
            rw [Wh.formOk_drop Hx.out] at e1
            show ¬ Wh.formOk cs s.data.toList = true
            rw [← e1]
            rcases hh with hh | hh
            · rw [hh]; simp
            · rw [hh]; simp))
          have HY : Hid ((s.data.toList.drop (j + 1)).contains x = false → Wh.okB cs x = true → Wh.formOk cs (s.data.toList.drop (j + 1)) = Wh.formOk cs s.data.toList) := Lib.hid (fun h1 h2 => by
            have e1 := HF.out
            rw [Wh.formOk_drop Hx.out, h1, h2] at e1
            simpa using e1)
          have e37 := Wh.byte_is x 37 37 rfl
          have e47 := Wh.byte_is x 47 47 rfl
          have e94 := Wh.byte_is x 94 94 rfl
          clear ex hxl hback
          cases c1 : (s.data.toList.drop (j + 1)).contains x
          case true =>
            rw [c1] at hcon
            have hv : 0 ≤ v := of_decide_eq_true hcon.symm
            clear e37 e47 e94 hcon
            have HK := Lib.hid (HX.out (.inl c1))
            have HB := Lib.hid hB
            have HL := Lib.hid hL
            clear hB hL
            go_wp2_with (first | (go_at_call 59; refine (HB.out _).mono ?_; rintro e w' ⟨rfl, rfl⟩) | (go_at_call 89; refine (HL.out _).mono ?_; rintro e w' ⟨rfl, rfl⟩))
            go_ret
            exact ⟨ret_int HK.out.symm, hb1⟩
          rw [c1] at hcon
          have hv : ¬ 0 ≤ v := of_decide_eq_false hcon.symm
          clear hcon
          cases c2 : (Wh.digit x || Wh.letter x)
          case true =>
            rw [c2] at hL
            clear e37 e47 e94
            have HK := Lib.hid (HX.out (.inr (by rw [Bool.or_comm] at c2; simp only [Wh.okB, c2]; rfl)))
            have HB := Lib.hid hB
            have HL := Lib.hid hL
            clear hB hL
            go_wp2_with (first | (go_at_call 59; refine (HB.out _).mono ?_; rintro e w' ⟨rfl, rfl⟩) | (go_at_call 89; refine (HL.out _).mono ?_; rintro e w' ⟨rfl, rfl⟩))
            go_ret
            exact ⟨ret_int HK.out.symm, hb1⟩
          rw [c2] at hL
          have c3 : (Wh.letter x || Wh.digit x) = false := by rw [Bool.or_comm]; exact c2
          cases c4 : (x == 37)
          case true =>
            rw [c4] at e37
            clear e47 e94
            have HK := Lib.hid (HX.out (.inr (by simp [Wh.okB, c4])))
            have HB := Lib.hid hB
            have HL := Lib.hid hL
            clear hB hL
            go_wp2_with (first | (go_at_call 59; refine (HB.out _).mono ?_; rintro e w' ⟨rfl, rfl⟩) | (go_at_call 89; refine (HL.out _).mono ?_; rintro e w' ⟨rfl, rfl⟩))
            go_ret
            exact ⟨ret_int HK.out.symm, hb1⟩
          rw [c4] at e37
          cases c5 : (x == 47)
          case true =>
            rw [c5] at e47
            clear e94
            have HK := Lib.hid (HX.out (.inr (by simp [Wh.okB, c5])))
            have HB := Lib.hid hB
            have HL := Lib.hid hL
            clear hB hL
            go_wp2_with (first | (go_at_call 59; refine (HB.out _).mono ?_; rintro e w' ⟨rfl, rfl⟩) | (go_at_call 89; refine (HL.out _).mono ?_; rintro e w' ⟨rfl, rfl⟩))
            go_ret
            exact ⟨ret_int HK.out.symm, hb1⟩
          rw [c5] at e47
          cases c6 : (x == 94)
          case false =>
            rw [c6] at e94
            have HK := Lib.hid (HY.out c1 (by simp only [Wh.okB, c3, c4, c5, c6, Bool.and_false]; rfl))
            have HB := Lib.hid hB
            have HL := Lib.hid hL
            clear hB hL
            go_wp2_with (first | (go_at_call 59; refine (HB.out _).mono ?_; rintro e w' ⟨rfl, rfl⟩) | (go_at_call 89; refine (HL.out _).mono ?_; rintro e w' ⟨rfl, rfl⟩))
            go_roundg g2
            case measure => omega
            case rel => exact ⟨j + 1, by omega, by go_num, rfl, HK⟩
          rw [c6] at e94
          cases cs
          case true =>
            have HK := Lib.hid (HX.out (.inr (by simp [Wh.okB, c6])))
            have HB := Lib.hid hB
            have HL := Lib.hid hL
            clear hB hL
            go_wp2_with (first | (go_at_call 59; refine (HB.out _).mono ?_; rintro e w' ⟨rfl, rfl⟩) | (go_at_call 89; refine (HL.out _).mono ?_; rintro e w' ⟨rfl, rfl⟩))
            go_ret
            exact ⟨ret_int HK.out.symm, hb1⟩
          case false =>
            have HK := Lib.hid (HY.out c1 (by simp only [Wh.okB, c3, c4, c5]; rfl))
            have HB := Lib.hid hB
            have HL := Lib.hid hL
            clear hB hL
            go_wp2_with (first | (go_at_call 59; refine (HB.out _).mono ?_; rintro e w' ⟨rfl, rfl⟩) | (go_at_call 89; refine (HL.out _).mono ?_; rintro e w' ⟨rfl, rfl⟩))
            go_roundg g2
            case measure => omega
            case rel => exact ⟨j + 1, by omega, by go_num, rfl, HK⟩
        · have hfin := HF.out
          rw [List.drop_eq_nil_of_le (by rw [← Lib.size_eq]; omega)] at hfin
          have HF2 : Hid (Wh.formOk cs s.data.toList = true) := Lib.hid hfin.symm
          clear hfin
          go_wp2_with fail
          go_roundg g
          case measure => omega
          case rel => exact ⟨k + 1, by omega, by go_num, rfl, Lib.hid (by rw [List.take_add_one, Hs.out, List.all_append, HA.out]; simp [HF2.out])⟩
    · have hall := HA.out
      rw [List.take_of_length_le (by simp; omega)] at hall
      have HALL := Lib.hid hall
      clear hall HS HFL HA
      have hk4 : decide ((k : Int) < 3) = false := decide_eq_false (by omega)
      obtain ⟨wo, rfl⟩ : ∃ wo : World, wo = wr := ⟨_, rfl⟩
      go_wp2_with fail
      go_loopg [61] ns.length (fun g i wx => ∃ j : Nat, j + g = ns.length ∧ i = .int .i64 j ∧ Below wo.heap.size wo wx ∧ Hid (Wh.namesErrAt ns j = Wh.namesErrAt ns 0))
      case atStart => exact ⟨0, by omega, rfl, Below.refl _ _, Lib.hid rfl⟩
      case round =>
        obtain ⟨j, hj, rfl, hb2, HN⟩ := hrel
        have hwo : w.heap.size < wo.heap.size := by have := HSZ.out; omega
        have p3 : wr.cell? ⟨w.heap.size, 3, none⟩ = some (.slice a ns.length c) := (hb2.cell (p := ⟨w.heap.size, 3, none⟩) hwo).trans q3
        have p5 : wr.cell? ⟨w.heap.size, 5, none⟩ = some (.int .i64 m) := (hb2.cell (p := ⟨w.heap.size, 5, none⟩) hwo).trans q5
        clear q3 q4 q5
        by_cases hjl : j < ns.length
        · obtain ⟨g2, rfl⟩ : ∃ g2, gk = g2 + 1 := ⟨gk - 1, by omega⟩
          obtain ⟨n, hn⟩ : ∃ n, ns[j]? = some n := ⟨_, List.getElem?_eq_getElem hjl⟩
          obtain ⟨ba, off, ha, hba, hca⟩ := (HH.out.under (bTrans hb1 hb2)).at (k := j) (u := .string n) (by simp [hn])
          have hns := HZ.out n (List.mem_of_getElem? hn)
          have Hn := Lib.hid hn
          clear hn
          subst ha
          have h1 := fun W => refIsName_any n W hns
          have h2 := fun W => lower_any n W hns
          obtain ⟨F, hF⟩ : ∃ F : ByteArray, F = ⟨(Wh.lower n.data.toList).toArray⟩ := ⟨_, rfl⟩
          have hFe : (F.toList == n.toList) = (Wh.lower n.data.toList == n.data.toList) := by rw [hF, Lib.toList_data, Lib.toList_data]
          rw [← hF] at h2
          have HK : Hid (Wh.nameOk n.data.toList = false → Wh.encErr ⟨f, h, t, ns, cs, m⟩ = 2) := Lib.hid (fun hh => by
            have e1 : Wh.namesErrAt ns 0 = 2 := HN.out.symm.trans (Wh.namesErr_name Hn.out hh)
            rw [Wh.encErr_names HALL.out (by show Wh.namesErrAt ns 0 ≠ 0; rw [e1]; decide)]
            exact e1)
          clear hF
          cases c1 : Wh.isName n.data.toList
          case false =>
            rw [c1] at h1
            have HF := Lib.hid (HK.out (by simp [Wh.nameOk, c1]))
            have H1 := Lib.hid h1
            clear h1 h2 hFe
            go_wp2_with fail
            refine (H1.out _).mono ?_
            rintro e w2 ⟨rfl, hb3⟩
            go_wp2_with fail
            go_ret
            exact ⟨ret_int HF.out.symm, bTrans (bTrans hb1 hb2) hb3⟩
          rw [c1] at h1
          have h255 : n.size ≤ 255 := by have := (Wh.name_facts c1).2.1; rw [Lib.size_eq]; exact this
          have h3 := fun W => containsAny_any n ⟨#[37, 94]⟩ W (by omega) (by decide) (by decide)
          have e0 : (⟨#[37, 94]⟩ : ByteArray).data.toList = [37, 94] := rfl
          rw [e0] at h3
          clear e0
          cases c2 : (Wh.lower n.data.toList == n.data.toList)
          case false =>
            rw [c2] at hFe
            have HF := Lib.hid (HK.out (by simp only [Wh.nameOk, c1, c2]; rfl))
            have H1 := Lib.hid h1
            have H2 := Lib.hid h2
            clear h1 h2 h3
            go_wp2_with fail
            refine (H1.out _).mono ?_
            rintro e w2 ⟨rfl, hb3⟩
            go_wp2_with fail
            refine (H2.out _).mono ?_
            rintro e w3 ⟨rfl, hb4⟩
            go_wp2_with fail
            go_ret
            exact ⟨ret_int HF.out.symm, bTrans (bTrans (bTrans hb1 hb2) hb3) hb4⟩
          rw [c2] at hFe
          cases c3 : Lib.containsAny n.data.toList [37, 94]
          case true =>
            rw [c3] at h3
            have HF := Lib.hid (HK.out (by simp only [Wh.nameOk, c1, c2, c3]; rfl))
            have H1 := Lib.hid h1
            have H2 := Lib.hid h2
            have H3 := Lib.hid h3
            clear h1 h2 h3
            go_wp2_with fail
            refine (H1.out _).mono ?_
            rintro e w2 ⟨rfl, hb3⟩
            go_wp2_with fail
            refine (H2.out _).mono ?_
            rintro e w3 ⟨rfl, hb4⟩
            go_wp2_with fail
            refine (H3.out _).mono ?_
            rintro e w4 ⟨rfl, hb5⟩
            go_wp2_with fail
            go_ret
            exact ⟨ret_int HF.out.symm, bTrans (bTrans (bTrans (bTrans hb1 hb2) hb3) hb4) hb5⟩
          rw [c3] at h3
          have HOK : Hid (Wh.nameOk n.data.toList = true) := Lib.hid (by simp only [Wh.nameOk, c1, c2, c3]; rfl)
          have H1 := Lib.hid h1
          have H2 := Lib.hid h2
          have H3 := Lib.hid h3
          clear h1 h2 h3 c1 c2 c3
          go_wp2_with fail
          refine (H1.out _).mono ?_
          rintro e w2 ⟨rfl, hb3⟩
          go_wp2_with fail
          refine (H2.out _).mono ?_
          rintro e w3 ⟨rfl, hb4⟩
          go_wp2_with fail
          refine (H3.out _).mono ?_
          rintro e w4 ⟨rfl, hb5⟩
          have hbx := bTrans (bTrans hb3 hb4) hb5
          have hb6 := bTrans hb2 hbx
          have hwr : w.heap.size < wr.heap.size := by have := hb2.size; omega
          have r3 : w4.cell? ⟨w.heap.size, 3, none⟩ = some (.slice (some ⟨ba, off, none⟩) ns.length c) := (hbx.cell (p := ⟨w.heap.size, 3, none⟩) hwr).trans p3
          have HH4 := Lib.hid (HH.out.under (bTrans hb1 hb6))
          clear p3 p5 hb3 hb4 hb5 hbx hca hba
          rcases j with _ | j
          · have HN2 := Lib.hid ((Wh.namesErr_first Hn.out HOK.out).symm.trans HN.out)
            go_wp2_with fail
            go_roundg g2
            case measure => omega
            case rel => exact ⟨1, by omega, rfl, hb6, HN2⟩
          · obtain ⟨p, hp⟩ : ∃ p, ns[j]? = some p := ⟨_, List.getElem?_eq_getElem (by omega)⟩
            obtain ⟨ba', off', ha', _, hcp⟩ := HH4.out.at (k := j) (u := .string p) (by simp [hp])
            cases ha'
            have Hp := Lib.hid hp
            clear hp
            cases c4 : Op.bytesLess p.toList n.toList
            · have HF : Hid (Wh.encErr ⟨f, h, t, ns, cs, m⟩ = 10) := Lib.hid (by
                have e1 : Wh.namesErrAt ns 0 = 10 := HN.out.symm.trans (Wh.namesErr_order Hn.out Hp.out HOK.out c4)
                rw [Wh.encErr_names HALL.out (by show Wh.namesErrAt ns 0 ≠ 0; rw [e1]; decide)]
                exact e1)
              go_wp2_with fail
              go_ret
              exact ⟨ret_int HF.out.symm, bTrans hb1 hb6⟩
            · have HN2 := Lib.hid ((Wh.namesErr_next Hn.out Hp.out HOK.out c4).symm.trans HN.out)
              go_wp2_with fail
              go_roundg g2
              case measure => omega
              case rel => exact ⟨j + 1 + 1, by omega, by go_num, hb6, HN2⟩
        · have HZ0 : Hid (Wh.namesErrAt ns 0 = 0) := Lib.hid (HN.out.symm.trans (Wh.namesErr_end (by omega)))
          by_cases c1 : m < 3
          · have HF := Lib.hid (Wh.encErr_max (x := ⟨f, h, t, ns, cs, m⟩) HALL.out HZ0.out (.inl c1))
            go_wp2_with fail
            go_ret
            exact ⟨ret_int HF.out.symm, bTrans hb1 hb2⟩
          by_cases c2 : 255 < m
          · have HF := Lib.hid (Wh.encErr_max (x := ⟨f, h, t, ns, cs, m⟩) HALL.out HZ0.out (.inr c2))
            go_wp2_with fail
            go_ret
            exact ⟨ret_int HF.out.symm, bTrans hb1 hb2⟩
          · have HF := Lib.hid (Wh.encErr_ok (x := ⟨f, h, t, ns, cs, m⟩) HALL.out HZ0.out (by show ¬ (m < 3 ∨ 255 < m); omega))
            go_wp2_with fail
            go_ret
            exact ⟨ret_int HF.out.symm, bTrans hb1 hb2⟩
end Go.Proofs.YtbcadgooelcnhaaDoor
