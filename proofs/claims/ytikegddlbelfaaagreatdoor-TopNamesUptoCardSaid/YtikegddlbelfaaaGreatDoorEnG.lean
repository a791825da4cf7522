/-
  The texts EncCheck, RefEncCheck, EncLaw, in one.
-/
import Derived.Test.YtikegddlbelfaaaGreatDoorBytes
import Derived.Test.YtikegddlbelfaaaGreatDoorRefPaths
namespace Go.Proofs.YtikegddlbelfaaaGreatDoor
open Go.RowKit

/-- An encoding as a value. -/
def encVal (x : Wh.Enc) (a : Option Addr) (c : Nat) : Value := .agg #[.string x.forbid, .string x.head, .string x.tail, .slice a x.names.length c, .bool x.cs, .int .i64 x.max]

/-- Its cells, once it is boxed. -/
def encCells (x : Wh.Enc) (a : Option Addr) (c : Nat) : Array Value := #[.string x.forbid, .string x.head, .string x.tail, .slice a x.names.length c, .bool x.cs, .int .i64 x.max]

set_option maxHeartbeats 4000000 in
set_option maxRecDepth 100000 in
theorem checkEncoding_any (x : Wh.Enc) (a : Option Addr) (c : Nat) (w : World) (hE : Env w) (hH : Holds w a (x.names.map Value.string)) (hl : x.names.length ≤ 9223372036854775807) (hz : ∀ s ∈ x.names, s.size ≤ 9223372036854775807)
    (hf : x.forbid.size ≤ 9223372036854775807) (hh : x.head.size ≤ 9223372036854775807) (ht : x.tail.size ≤ 9223372036854775807) (hm : -9223372036854775808 ≤ x.max ∧ x.max ≤ 9223372036854775807) :
    Calls Tryz.prog 8 #[encVal x a c] w fun e w' => e = .returned (.int .i64 (Wh.encErr x)) ∧ Below w.heap.size w w' := by
  obtain ⟨f, h, t, ns, cs, m⟩ := x
  simp only [encVal] at *
  have HE := Lib.hid hE
  have HH := Lib.hid hH
  have HZ := Lib.hid hz
  clear hE hH hz
  go_enter Tryz.func8, Tryz.ntmps8
  go_wp2_with fail
  have hW1 : ∃ W1, (w.alloc (.cells #[.string f, .string h, .string t, .slice a ns.length c, .bool cs, .int .i64 m] 24)).alloc (.cells #[.string f, .string h, .string t] 9) = W1 := ⟨_, rfl⟩
  obtain ⟨W1, hW1⟩ := hW1
  have hb1 : Below w.heap.size w W1 := by rw [← hW1]; exact bAlloc (bAlloc (Below.refl _ _) _) _
  have hsz : W1.heap.size = w.heap.size + 2 := by rw [← hW1]; simp
  have q3 : W1.cell? ⟨w.heap.size, 3, none⟩ = some (.slice a ns.length c) := by rw [← hW1]; simp [go_sem]
  have q4 : W1.cell? ⟨w.heap.size, 4, none⟩ = some (.bool cs) := by rw [← hW1]; simp [go_sem]
  have q5 : W1.cell? ⟨w.heap.size, 5, none⟩ = some (.int .i64 m) := by rw [← hW1]; simp [go_sem]
  have hS : ∀ (k : Nat) (s : ByteArray), [f, h, t][k]? = some s → W1.cell? ⟨w.heap.size + 1, k, none⟩ = some (.string s) := by
    intro k s hk
    rw [← hW1, World.cell?_alloc_at _ _ _ _ (by simp)]
    rcases k with _ | _ | _ | k <;> simp at hk <;> simp [hk]
  rw [hW1]
  have HS := Lib.hid hS
  have HSZ := Lib.hid hsz
  clear hW1 hS hsz
  have HFL : Hid (∀ s ∈ [f, h, t], s.size ≤ 9223372036854775807) := Lib.hid (by simp [hf, hh, ht])
  go_loopg [17] 3 (fun g s17 wx => ∃ k : Nat, k + g = 3 ∧ s17 = .int .i64 k ∧ wx = W1 ∧ Hid (([f, h, t].take k).all (fun s => Wh.formOk cs s.data.toList) = true))
  case atStart => exact ⟨0, by omega, rfl, rfl, Lib.hid rfl⟩
  case round =>
    obtain ⟨k, hk, rfl, rfl, HA⟩ := hrel
    by_cases hlt : k < 3
    · obtain ⟨g, rfl⟩ : ∃ g, gk = g + 1 := ⟨gk - 1, by omega⟩
      obtain ⟨s, hs⟩ : ∃ s, [f, h, t][k]? = some s := ⟨_, List.getElem?_eq_getElem (by simpa using hlt)⟩
      have hcs := HS.out k s hs
      have hsz := HFL.out s (List.mem_of_getElem? hs)
      have Hs := Lib.hid hs
      clear hs
      have hk3 : decide ((k : Int) < 3) = true := decide_eq_true (by omega)
      go_wp2_with fail
      go_loopg [23] s.size (fun g i wx => ∃ j : Nat, j + g = s.size ∧ i = .int .i64 j ∧ wx = wr ∧ Hid (Wh.formOk cs (s.data.toList.take j) = true))
      case atStart => exact ⟨0, by omega, rfl, rfl, Lib.hid rfl⟩
      case round =>
        obtain ⟨j, hj, rfl, rfl, HF⟩ := hrel
        by_cases hjl : j < s.size
        · obtain ⟨g2, rfl⟩ : ∃ g2, gk = g2 + 1 := ⟨gk - 1, by omega⟩
          obtain ⟨x, hx⟩ : ∃ x : UInt8, s[j]'hjl = x := ⟨_, rfl⟩
          have hxl : s.data.toList[j]? = some x := by rw [← hx]; exact Lib.data_getElem? s j hjl
          have hx8 := x.toNat_lt
          have ex : (s.extract 0 j).data.toList = s.data.toList.take j := Lib.extract_from_zero s j
          have hB := fun W => hasByte_any (s.extract 0 j) x W
          rw [ex] at hB
          have hL := fun W => letter_any x W
          have hD := fun W => digit_any x W
          have Hx := Lib.hid hxl
          have HX : Hid ((s.data.toList.take j).contains x = true ∨ Wh.okB cs x = false → Wh.encErr ⟨f, h, t, ns, cs, m⟩ = 6) := Lib.hid (fun hh => Wh.encErr_form (by
            rw [List.all_eq_false]
            exact ⟨s, List.mem_of_getElem? Hs.out, by simp [Wh.formOk_bad Hx.out hh]⟩))
          have e37 := Wh.byte_is x 37 37 rfl
          have e47 := Wh.byte_is x 47 47 rfl
          have e94 := Wh.byte_is x 94 94 rfl
          clear ex hxl
          cases c1 : (s.data.toList.take j).contains x
          case true =>
            rw [c1] at hB
            clear e37 e47 e94
            have HK := Lib.hid (HX.out (.inl c1))
            have HB := Lib.hid hB
            have HL := Lib.hid hL
            have HD := Lib.hid hD
            clear hB hL hD
            go_wp2_with (first | (go_at_call 21; refine (HB.out _).mono ?_; rintro e w' ⟨rfl, rfl⟩) | (go_at_call 22; refine (HL.out _).mono ?_; rintro e w' ⟨rfl, rfl⟩) | (go_at_call 23; refine (HD.out _).mono ?_; rintro e w' ⟨rfl, rfl⟩))
            go_ret
            exact ⟨ret_int HK.out.symm, hb1⟩
          rw [c1] at hB
          cases c2 : Wh.letter x
          case true =>
            rw [c2] at hL
            clear e37 e47 e94
            have HK := Lib.hid (HX.out (.inr (by simp [Wh.okB, c2])))
            have HB := Lib.hid hB
            have HL := Lib.hid hL
            have HD := Lib.hid hD
            clear hB hL hD
            go_wp2_with (first | (go_at_call 21; refine (HB.out _).mono ?_; rintro e w' ⟨rfl, rfl⟩) | (go_at_call 22; refine (HL.out _).mono ?_; rintro e w' ⟨rfl, rfl⟩) | (go_at_call 23; refine (HD.out _).mono ?_; rintro e w' ⟨rfl, rfl⟩))
            go_ret
            exact ⟨ret_int HK.out.symm, hb1⟩
          rw [c2] at hL
          cases c3 : Wh.digit x
          case true =>
            rw [c3] at hD
            clear e37 e47 e94
            have HK := Lib.hid (HX.out (.inr (by simp [Wh.okB, c3])))
            have HB := Lib.hid hB
            have HL := Lib.hid hL
            have HD := Lib.hid hD
            clear hB hL hD
            go_wp2_with (first | (go_at_call 21; refine (HB.out _).mono ?_; rintro e w' ⟨rfl, rfl⟩) | (go_at_call 22; refine (HL.out _).mono ?_; rintro e w' ⟨rfl, rfl⟩) | (go_at_call 23; refine (HD.out _).mono ?_; rintro e w' ⟨rfl, rfl⟩))
            go_ret
            exact ⟨ret_int HK.out.symm, hb1⟩
          rw [c3] at hD
          cases c4 : (x == 37)
          case true =>
            rw [c4] at e37
            clear e47 e94
            have HK := Lib.hid (HX.out (.inr (by simp [Wh.okB, c4])))
            have HB := Lib.hid hB
            have HL := Lib.hid hL
            have HD := Lib.hid hD
            clear hB hL hD
            go_wp2_with (first | (go_at_call 21; refine (HB.out _).mono ?_; rintro e w' ⟨rfl, rfl⟩) | (go_at_call 22; refine (HL.out _).mono ?_; rintro e w' ⟨rfl, rfl⟩) | (go_at_call 23; refine (HD.out _).mono ?_; rintro e w' ⟨rfl, rfl⟩))
            go_ret
            exact ⟨ret_int HK.out.symm, hb1⟩
          rw [c4] at e37
          cases c5 : (x == 47)
          case true =>
            rw [c5] at e47
            clear e94
            have HK := Lib.hid (HX.out (.inr (by simp [Wh.okB, c5])))
            have HB := Lib.hid hB
            have HL := Lib.hid hL
            have HD := Lib.hid hD
            clear hB hL hD
            go_wp2_with (first | (go_at_call 21; refine (HB.out _).mono ?_; rintro e w' ⟨rfl, rfl⟩) | (go_at_call 22; refine (HL.out _).mono ?_; rintro e w' ⟨rfl, rfl⟩) | (go_at_call 23; refine (HD.out _).mono ?_; rintro e w' ⟨rfl, rfl⟩))
            go_ret
            exact ⟨ret_int HK.out.symm, hb1⟩
          rw [c5] at e47
          cases cs
          case false =>
            clear e94
            have HK := Lib.hid (Wh.formOk_step Hx.out HF.out c1 (by simp [Wh.okB, c2, c3, c4, c5]))
            have HB := Lib.hid hB
            have HL := Lib.hid hL
            have HD := Lib.hid hD
            clear hB hL hD
            go_wp2_with (first | (go_at_call 21; refine (HB.out _).mono ?_; rintro e w' ⟨rfl, rfl⟩) | (go_at_call 22; refine (HL.out _).mono ?_; rintro e w' ⟨rfl, rfl⟩) | (go_at_call 23; refine (HD.out _).mono ?_; rintro e w' ⟨rfl, rfl⟩))
            go_roundg g2
            case measure => omega
            case rel => exact ⟨j + 1, by omega, by go_num, rfl, HK⟩
          cases c6 : (x == 94)
          case true =>
            rw [c6] at e94
            have HK := Lib.hid (HX.out (.inr (by simp [Wh.okB, c6])))
            have HB := Lib.hid hB
            have HL := Lib.hid hL
            have HD := Lib.hid hD
            clear hB hL hD
            go_wp2_with (first | (go_at_call 21; refine (HB.out _).mono ?_; rintro e w' ⟨rfl, rfl⟩) | (go_at_call 22; refine (HL.out _).mono ?_; rintro e w' ⟨rfl, rfl⟩) | (go_at_call 23; refine (HD.out _).mono ?_; rintro e w' ⟨rfl, rfl⟩))
            go_ret
            exact ⟨ret_int HK.out.symm, hb1⟩
          case false =>
            rw [c6] at e94
            have HK := Lib.hid (Wh.formOk_step Hx.out HF.out c1 (by simp [Wh.okB, c2, c3, c4, c5, c6]))
            have HB := Lib.hid hB
            have HL := Lib.hid hL
            have HD := Lib.hid hD
            clear hB hL hD
            go_wp2_with (first | (go_at_call 21; refine (HB.out _).mono ?_; rintro e w' ⟨rfl, rfl⟩) | (go_at_call 22; refine (HL.out _).mono ?_; rintro e w' ⟨rfl, rfl⟩) | (go_at_call 23; refine (HD.out _).mono ?_; rintro e w' ⟨rfl, rfl⟩))
            go_roundg g2
            case measure => omega
            case rel => exact ⟨j + 1, by omega, by go_num, rfl, HK⟩
        · have hfin := HF.out
          rw [List.take_of_length_le (by rw [← Lib.size_eq]; omega)] at hfin
          have HF2 := Lib.hid hfin
          clear hfin
          go_wp2_with fail
          go_roundg g
          case measure => omega
          case rel => exact ⟨k + 1, by omega, by go_num, rfl, Lib.hid (by rw [List.take_add_one, Hs.out, List.all_append, HA.out]; simp [HF2.out])⟩
    · have hall := HA.out
      rw [List.take_of_length_le (by simp; omega)] at hall
      have HALL := Lib.hid hall
      clear hall HS HFL HA
      have hk4 : decide ((k : Int) < 3) = false := decide_eq_false (by omega)
      obtain ⟨wo, rfl⟩ : ∃ wo : World, wo = wr := ⟨_, rfl⟩
      go_wp2_with fail
      go_loopg [63] ns.length (fun g i wx => ∃ j : Nat, j + g = ns.length ∧ i = .int .i64 j ∧ Below wo.heap.size wo wx ∧ Hid (Wh.namesErrAt ns j = Wh.namesErrAt ns 0))
      case atStart => exact ⟨0, by omega, rfl, Below.refl _ _, Lib.hid rfl⟩
      case round =>
        obtain ⟨j, hj, rfl, hb2, HN⟩ := hrel
        have hwo : w.heap.size < wo.heap.size := by have := HSZ.out; omega
        have p3 : wr.cell? ⟨w.heap.size, 3, none⟩ = some (.slice a ns.length c) := (hb2.cell (p := ⟨w.heap.size, 3, none⟩) hwo).trans q3
        have p5 : wr.cell? ⟨w.heap.size, 5, none⟩ = some (.int .i64 m) := (hb2.cell (p := ⟨w.heap.size, 5, none⟩) hwo).trans q5
        clear q3 q4 q5
        by_cases hjl : j < ns.length
        · obtain ⟨g2, rfl⟩ : ∃ g2, gk = g2 + 1 := ⟨gk - 1, by omega⟩
          obtain ⟨n, hn⟩ : ∃ n, ns[j]? = some n := ⟨_, List.getElem?_eq_getElem hjl⟩
          obtain ⟨ba, off, ha, hba, hca⟩ := (HH.out.under (bTrans hb1 hb2)).at (k := j) (u := .string n) (by simp [hn])
          have hns := HZ.out n (List.mem_of_getElem? hn)
          have Hn := Lib.hid hn
          clear hn
          subst ha
          have h1 := fun W => isName_any n W hns
          have h2 := fun W => fold_any n W hns
          obtain ⟨F, hF⟩ : ∃ F : ByteArray, F = ⟨(Wh.lower n.data.toList).toArray⟩ := ⟨_, rfl⟩
          have hFe : (F.toList == n.toList) = (Wh.lower n.data.toList == n.data.toList) := by rw [hF, Lib.toList_data, Lib.toList_data]
          rw [← hF] at h2
          have HK : Hid (Wh.nameOk n.data.toList = false → Wh.encErr ⟨f, h, t, ns, cs, m⟩ = 2) := Lib.hid (fun hh => by
            have e1 : Wh.namesErrAt ns 0 = 2 := HN.out.symm.trans (Wh.namesErr_name Hn.out hh)
            rw [Wh.encErr_names HALL.out (by show Wh.namesErrAt ns 0 ≠ 0; rw [e1]; decide)]
            exact e1)
          clear hF
          cases c1 : Wh.isName n.data.toList
          case false =>
            rw [c1] at h1
            have HF := Lib.hid (HK.out (by simp [Wh.nameOk, c1]))
            have H1 := Lib.hid h1
            clear h1 h2 hFe
            go_wp2_with fail
            refine (H1.out _).mono ?_
            rintro e w2 ⟨rfl, hb3⟩
            go_wp2_with fail
            go_ret
            exact ⟨ret_int HF.out.symm, bTrans (bTrans hb1 hb2) hb3⟩
          rw [c1] at h1
          have h255 : n.size ≤ 255 := by have := (Wh.name_facts c1).2.1; rw [Lib.size_eq]; exact this
          have h3 := fun W => containsAny_any n ⟨#[37, 94]⟩ W (by omega) (by decide) (by decide)
          have e0 : (⟨#[37, 94]⟩ : ByteArray).data.toList = [37, 94] := rfl
          rw [e0] at h3
          clear e0
          cases c2 : (Wh.lower n.data.toList == n.data.toList)
          case false =>
            rw [c2] at hFe
            have HF := Lib.hid (HK.out (by simp only [Wh.nameOk, c1, c2]; rfl))
            have H1 := Lib.hid h1
            have H2 := Lib.hid h2
            clear h1 h2 h3
            go_wp2_with fail
            refine (H1.out _).mono ?_
            rintro e w2 ⟨rfl, hb3⟩
            go_wp2_with fail
            refine (H2.out _).mono ?_
            rintro e w3 ⟨rfl, hb4⟩
            go_wp2_with fail
            go_ret
            exact ⟨ret_int HF.out.symm, bTrans (bTrans (bTrans hb1 hb2) hb3) hb4⟩
          rw [c2] at hFe
          cases c3 : Lib.containsAny n.data.toList [37, 94]
          case true =>
            rw [c3] at h3
            have HF := Lib.hid (HK.out (by simp only [Wh.nameOk, c1, c2, c3]; rfl))
            have H1 := Lib.hid h1
            have H2 := Lib.hid h2
            have H3 := Lib.hid h3
            clear h1 h2 h3
            go_wp2_with fail
            refine (H1.out _).mono ?_
            rintro e w2 ⟨rfl, hb3⟩
            go_wp2_with fail
            refine (H2.out _).mono ?_
            rintro e w3 ⟨rfl, hb4⟩
            go_wp2_with fail
            refine (H3.out _).mono ?_
            rintro e w4 ⟨rfl, hb5⟩
            go_wp2_with fail
            go_ret
            exact ⟨ret_int HF.out.symm, bTrans (bTrans (bTrans (bTrans hb1 hb2) hb3) hb4) hb5⟩
          rw [c3] at h3
          have HOK : Hid (Wh.nameOk n.data.toList = true) := Lib.hid (by simp only [Wh.nameOk, c1, c2, c3]; rfl)
          have H1 := Lib.hid h1
          have H2 := Lib.hid h2
          have H3 := Lib.hid h3
          clear h1 h2 h3 c1 c2 c3
          go_wp2_with fail
          refine (H1.out _).mono ?_
          rintro e w2 ⟨rfl, hb3⟩
          go_wp2_with fail
          refine (H2.out _).mono ?_
          rintro e w3 ⟨rfl, hb4⟩
          go_wp2_with fail
          refine (H3.out _).mono ?_
          rintro e w4 ⟨rfl, hb5⟩
          have hbx := bTrans (bTrans hb3 hb4) hb5
          have hb6 := bTrans hb2 hbx
          have hwr : w.heap.size < wr.heap.size := by have := hb2.size; omega
          have r3 : w4.cell? ⟨w.heap.size, 3, none⟩ = some (.slice (some ⟨ba, off, none⟩) ns.length c) := (hbx.cell (p := ⟨w.heap.size, 3, none⟩) hwr).trans p3
          have HH4 := Lib.hid (HH.out.under (bTrans hb1 hb6))
          clear p3 p5 hb3 hb4 hb5 hbx hca hba
          rcases j with _ | j
          · have HN2 := Lib.hid ((Wh.namesErr_first Hn.out HOK.out).symm.trans HN.out)
            go_wp2_with fail
            go_roundg g2
            case measure => omega
            case rel => exact ⟨1, by omega, rfl, hb6, HN2⟩
          · obtain ⟨p, hp⟩ : ∃ p, ns[j]? = some p := ⟨_, List.getElem?_eq_getElem (by omega)⟩
            obtain ⟨ba', off', ha', _, hcp⟩ := HH4.out.at (k := j) (u := .string p) (by simp [hp])
            cases ha'
            have hflip := Wh.bytesLess_flip n.toList p.toList
            have Hp := Lib.hid hp
            clear hp
            cases c4 : Op.bytesLess p.toList n.toList
            · rw [c4] at hflip
              have HF : Hid (Wh.encErr ⟨f, h, t, ns, cs, m⟩ = 10) := Lib.hid (by
                have e1 : Wh.namesErrAt ns 0 = 10 := HN.out.symm.trans (Wh.namesErr_order Hn.out Hp.out HOK.out c4)
                rw [Wh.encErr_names HALL.out (by show Wh.namesErrAt ns 0 ≠ 0; rw [e1]; decide)]
                exact e1)
              clear c4
              go_wp2_with fail
              go_ret
              exact ⟨ret_int HF.out.symm, bTrans hb1 hb6⟩
            · rw [c4] at hflip
              have HN2 := Lib.hid ((Wh.namesErr_next Hn.out Hp.out HOK.out c4).symm.trans HN.out)
              clear c4
              go_wp2_with fail
              go_roundg g2
              case measure => omega
              case rel => exact ⟨j + 1 + 1, by omega, by go_num, hb6, HN2⟩
        · have HZ0 : Hid (Wh.namesErrAt ns 0 = 0) := Lib.hid (HN.out.symm.trans (Wh.namesErr_end (by omega)))
          by_cases c1 : m < 3
          · have HF := Lib.hid (Wh.encErr_max (x := ⟨f, h, t, ns, cs, m⟩) HALL.out HZ0.out (.inl c1))
            go_wp2_with fail
            go_ret
            exact ⟨ret_int HF.out.symm, bTrans hb1 hb2⟩
          by_cases c2 : 255 < m
          · have HF := Lib.hid (Wh.encErr_max (x := ⟨f, h, t, ns, cs, m⟩) HALL.out HZ0.out (.inr c2))
            go_wp2_with fail
            go_ret
            exact ⟨ret_int HF.out.symm, bTrans hb1 hb2⟩
          · have HF := Lib.hid (Wh.encErr_ok (x := ⟨f, h, t, ns, cs, m⟩) HALL.out HZ0.out (by show ¬ (m < 3 ∨ 255 < m); omega))
            go_wp2_with fail
            go_ret
            exact ⟨ret_int HF.out.symm, bTrans hb1 hb2⟩
end Go.Proofs.YtikegddlbelfaaaGreatDoor
namespace Go.Proofs.YtikegddlbelfaaaGreatDoor
open Go.RowKit

end Go.Proofs.YtikegddlbelfaaaGreatDoor
namespace Go.Proofs.YtikegddlbelfaaaGreatDoor
open Go.RowKit

/-- An encoding that came in: what is known of its parts. -/
structure EncOk (x : Wh.Enc) (a : Option Addr) (w : World) : Prop where
  holds : Holds w a (x.names.map Value.string)
  len : x.names.length ≤ 9223372036854775807
  sizes : ∀ s ∈ x.names, s.size ≤ 9223372036854775807
  forbid : x.forbid.size ≤ 9223372036854775807
  head : x.head.size ≤ 9223372036854775807
  tail : x.tail.size ≤ 9223372036854775807
  max : -9223372036854775808 ≤ x.max ∧ x.max ≤ 9223372036854775807

theorem EncOk.under {x : Wh.Enc} {a : Option Addr} {w w' : World} (h : EncOk x a w) (hb : Below w.heap.size w w') : EncOk x a w' := { h with holds := h.holds.under hb }

theorem checkEnc (x : Wh.Enc) (a : Option Addr) (c : Nat) (w : World) (hE : Env w) (hX : EncOk x a w) :
    Calls Tryz.prog 8 #[encVal x a c] w fun e w' => e = .returned (.int .i64 (Wh.encErr x)) ∧ Below w.heap.size w w' :=
  checkEncoding_any x a c w hE hX.holds hX.len hX.sizes hX.forbid hX.head hX.tail hX.max
theorem err_ne {e : Int} (h : e ≠ 0) : (e != 0) = true := by simp [h]
theorem err_ne0 {e : Int} (h : e ≠ 0) : (e == 0) = false := by simp [h]

set_option maxHeartbeats 1000000 in
set_option maxRecDepth 100000 in
theorem encode_bad (x : Wh.Enc) (a : Option Addr) (c : Nat) (s : ByteArray) (w : World) (hE : Env w) (hX : EncOk x a w) (he : Wh.encErr x ≠ 0) :
    Calls Tryz.prog 9 #[encVal x a c, .string s] w fun e w' => e = .returned (.tuple #[.string ⟨#[]⟩, .int .i64 (Wh.encErr x)]) ∧ Below w.heap.size w w' := by
  have HC := Lib.hid (fun W (hb : Below w.heap.size w W) => checkEnc x a c W (hE.under hb) (hX.under hb))
  clear hE hX
  unfold encVal at *
  have h1 := err_ne he
  generalize Wh.encErr x = E at *
  clear he
  go_enter Tryz.func9, Tryz.ntmps9
  go_wp2_with fail
  refine (HC.out _ (bAlloc (Below.refl _ _) _)).mono ?_
  rintro e w1 ⟨rfl, hb1⟩
  go_wp2_with fail
  go_ret2
  exact ⟨rfl, bTrans (bAlloc (Below.refl _ _) _) hb1⟩

set_option maxHeartbeats 1000000 in
set_option maxRecDepth 100000 in
theorem decode_bad (x : Wh.Enc) (a : Option Addr) (c : Nat) (s : ByteArray) (w : World) (hE : Env w) (hX : EncOk x a w) (he : Wh.encErr x ≠ 0) :
    Calls Tryz.prog 13 #[encVal x a c, .string s] w fun e w' => e = .returned (.tuple #[.string ⟨#[]⟩, .int .i64 (Wh.encErr x)]) ∧ Below w.heap.size w w' := by
  have HC := Lib.hid (fun W (hb : Below w.heap.size w W) => checkEnc x a c W (hE.under hb) (hX.under hb))
  clear hE hX
  unfold encVal at *
  have h1 := err_ne he
  generalize Wh.encErr x = E at *
  clear he
  go_enter Tryz.func13, Tryz.ntmps13
  go_wp2_with fail
  refine (HC.out _ (bAlloc (Below.refl _ _) _)).mono ?_
  rintro e w1 ⟨rfl, hb1⟩
  go_wp2_with fail
  go_ret2
  exact ⟨rfl, bTrans (bAlloc (Below.refl _ _) _) hb1⟩

/-- A block that holds an encoding. -/
def EncBox (w : World) (b : Nat) (x : Wh.Enc) (a : Option Addr) (c : Nat) : Prop :=
  b < w.heap.size ∧ w.cell? ⟨b, 0, none⟩ = some (.string x.forbid) ∧ w.cell? ⟨b, 1, none⟩ = some (.string x.head) ∧ w.cell? ⟨b, 2, none⟩ = some (.string x.tail) ∧
    w.cell? ⟨b, 3, none⟩ = some (.slice a x.names.length c) ∧ w.cell? ⟨b, 4, none⟩ = some (.bool x.cs) ∧ w.cell? ⟨b, 5, none⟩ = some (.int .i64 x.max)

theorem EncBox.under {w w' : World} {b : Nat} {x : Wh.Enc} {a : Option Addr} {c : Nat} (h : EncBox w b x a c) (hb : Below w.heap.size w w') : EncBox w' b x a c := by
  obtain ⟨h0, h1, h2, h3, h4, h5, h6⟩ := h
  have hc := fun j => hb.cell (p := ⟨b, j, none⟩) h0
  exact ⟨Nat.lt_of_lt_of_le h0 hb.size, (hc 0).trans h1, (hc 1).trans h2, (hc 2).trans h3, (hc 3).trans h4, (hc 4).trans h5, (hc 5).trans h6⟩

theorem encBox_new (w : World) (t : TypeId) (x : Wh.Enc) (a : Option Addr) (c : Nat) :
    EncBox (w.alloc (.cells #[.string x.forbid, .string x.head, .string x.tail, .slice a x.names.length c, .bool x.cs, .int .i64 x.max] t)) w.heap.size x a c := by
  refine ⟨by simp, ?_, ?_, ?_, ?_, ?_, ?_⟩ <;> (rw [World.cell?_alloc_at _ _ _ _ rfl]; rfl)

end Go.Proofs.YtikegddlbelfaaaGreatDoor
