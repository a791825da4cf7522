/-
  The reference's Clean, and the law NamesClean, walked.
-/
import Derived.Test.YtbcadgooelcnhaaDoorClean
namespace Go.Proofs.YtbcadgooelcnhaaDoor
open Go.RowKit

theorem enters_clean1 : ∀ args w, (callFunc 84 args).run Tryd.prog w = .ok (.enter 84 args) w := enters_of Tryd.func84 (by kernel_rfl) rfl

set_option maxHeartbeats 1000000 in
theorem clean1_any (s : ByteArray) (w : World) (hs : s.size ≤ 9223372036854775807) :
    Calls Tryd.prog 84 #[.string s] w fun e w' => e = .returned (.bool (!Wh.isName s.data.toList)) ∧ Below w.heap.size w w' := by
  go_enter Tryd.func84, Tryd.ntmps84
  go_wp2_with (go_at_call 41; refine (refIsName_any s _ hs).mono ?_; rintro e w' ⟨rfl, hb⟩)
  go_ret
  exact ⟨rfl, hb⟩

set_option maxHeartbeats 2000000 in
set_option maxRecDepth 100000 in
theorem refClean_any (s : ByteArray) (w : World) (hE : Env w) (hs : s.size ≤ 1048576) :
    Calls Tryd.prog 44 #[.string s] w fun e w' => e = .returned (.tuple #[.string (Wh.cleanText s), .int .i64 (Wh.cleanErr s)]) ∧ Below w.heap.size w w' := by
  obtain ⟨i0, hi, hz0, hz1, hz2⟩ := info_parts info_str
  have HE := Lib.hid hE
  clear hE
  have hpl := Wh.pieces_le 47 s
  have HZ := Lib.hid (fun x (hx : x ∈ Wh.pieces 47 s) => Wh.pieces_size hx)
  have HT : Hid (∀ r, Wh.cleanGo (Wh.pieces 47 s) [] = r → Wh.cleanText s = Wh.cleanTextOf r ∧ Wh.cleanErr s = Wh.cleanErrOf r) := Lib.hid (fun r hr => by rw [← hr]; exact ⟨rfl, rfl⟩)
  have HLN := Lib.hid (fun (out : List ByteArray) (h : Wh.cleanGo (Wh.pieces 47 s) [] = some out) => Wh.clean_len h)
  go_enter Tryd.func44, Tryd.ntmps44
  go_wp2_with fail
  refine (split_one 47 s _ HE.out (by omega)).mono ?_
  rintro e w' ⟨rfl, rfl⟩
  have HH := Lib.hid (holds_new w 9 (Wh.pieces 47 s))
  have hb1 : Below w.heap.size w (w.alloc (.cells ((Wh.pieces 47 s).map Value.string).toArray 9)) := bAlloc (Below.refl _ _) _
  have hz1' : (w.alloc (.cells ((Wh.pieces 47 s).map Value.string).toArray 9)).heap.size = w.heap.size + 1 := by simp
  have HZ1 := Lib.hid hz1'
  clear hz1'
  generalize w.alloc (.cells ((Wh.pieces 47 s).map Value.string).toArray 9) = w1 at *
  generalize Wh.pieces 47 s = xs at *
  go_wp2_with fail
  go_loopg [4, 11] xs.length (fun g s4 s10 wx => CleanRel xs w1 w1.heap.size g s4 s10 wx)
  case atStart => exact ⟨0, [], none, 0, by omega, rfl, rfl, Nat.le_refl _, ⟨rfl, .inl ⟨rfl, rfl⟩⟩, Below.refl _ _, rfl, by simp⟩
  case round =>
    obtain ⟨k, out, a, cap, hk, rfl, rfl, hol, hown, hb, hgo, hmem⟩ := hrel
    have HO := Lib.hid hown
    have HG := Lib.hid hgo
    have HM := Lib.hid hmem
    clear hown hgo hmem
    by_cases hlt : k < xs.length
    · obtain ⟨g, rfl⟩ : ∃ g, gk = g + 1 := ⟨gk - 1, by omega⟩
      obtain ⟨x, hx⟩ : ∃ x, xs[k]? = some x := ⟨_, List.getElem?_eq_getElem hlt⟩
      obtain ⟨ba, off, hba0, hba, hca⟩ := (HH.out.under hb).at (k := k) (u := .string x) (by simp [hx])
      have Hx := Lib.hid hx
      clear hx
      cases hba0
      rw [Nat.zero_add] at hca
      cases c1 : x.toList.isEmpty
      case true =>
        have HG2 := Lib.hid (Wh.cleanGo_skip Hx.out (.inl c1) HG.out)
        go_wp2_with fail
        go_roundg g
        case measure => omega
        case rel => exact ⟨k + 1, out, a, cap, by omega, by go_num, rfl, by omega, HO.out, hb, HG2.out, HM.out⟩
      cases c2 : (x.toList == [46])
      case true =>
        have HG2 := Lib.hid (Wh.cleanGo_skip Hx.out (.inr c2) HG.out)
        go_wp2_with fail
        go_roundg g
        case measure => omega
        case rel => exact ⟨k + 1, out, a, cap, by omega, by go_num, rfl, by omega, HO.out, hb, HG2.out, HM.out⟩
      cases c3 : (x.toList == [46, 46])
      case true =>
        by_cases c4 : out.length = 0
        · have HG2 := Lib.hid (Wh.cleanGo_fail Hx.out c1 c2 c3 c4 HG.out)
          have hF := HT.out none HG2.out
          have HF := Lib.hid hF
          clear hF
          have c5 : ((out.length : Int) == 0) = true := by simp [c4]
          have C4 := Lib.hid c4
          clear c4
          go_wp2_with fail
          go_ret2
          rw [HF.out.1, HF.out.2]
          exact ⟨rfl, bTrans hb1 hb⟩
        · obtain ⟨n, hn⟩ : ∃ n, out.length = n + 1 := ⟨out.length - 1, by omega⟩
          have HG2 := Lib.hid (Wh.cleanGo_pop Hx.out c1 c2 c3 c4 HG.out)
          have hfm := own_form HO.out
          obtain ⟨a', cap', hv, hnc, hg⟩ := hfm
          injection hv with hv1 hv2 hv3
          subst hv1
          subst hv3
          obtain ⟨gg, rfl⟩ := hg (by omega)
          have ho := HO.out
          rw [hn] at ho
          have HP := Lib.hid (own_pop hn ho)
          have hdl : out.dropLast.length = n := by simp [hn]
          have HDL := Lib.hid hdl
          clear ho hdl
          have HM2 := Lib.hid (fun x (hx : x ∈ out.dropLast) => HM.out x (by rw [List.dropLast_eq_take] at hx; exact List.mem_of_mem_take hx))
          have HN := Lib.hid hn
          have c5 : ((out.length : Int) == 0) = false := beq_eq_false_iff_ne.2 (by omega)
          have hnb : n ≤ 1048577 := by omega
          rw [hn]
          rw [hn] at c5 hnc
          clear hn c4
          go_wp2_with fail
          go_roundg g
          case measure => omega
          case rel =>
            refine ⟨k + 1, out.dropLast, some ⟨gg, 0, none⟩, cap, by omega, by go_num, ?_, by rw [HDL.out]; have := HN.out; omega, by rw [HDL.out]; exact HP.out, hb, HG2.out, HM2.out⟩
            rw [HDL.out]
      case false =>
        have HG2 := Lib.hid (Wh.cleanGo_keep Hx.out c1 c2 c3 HG.out)
        have hbz := hb.size
        have hmax : out.length + 1 ≤ 1048577 := by omega
        go_wp2_with (at_builtin; refine wpList_append_own _ rfl (.tmp 16) (.tmp 18) 48 rfl w1.heap.size 9 i0 (.string ByteArray.empty) 1 16 Tryd.underlying48 hi hz0 hz1 hz2 rfl (by decide) _ _ _ rfl (HO.out.alloc _) ⟨wr.heap.size, 0, none⟩ 1 1 [.string x] rfl rfl ?c1 ?c2 ?c3 ?c4 ?c5 ?_)
        case c1 => exact cell_one_new _ _ _
        case c2 => simp [Value.oneCell']
        case c3 => simp only [maxLen]; omega
        case c4 => omega
        case c5 => simp; omega
        intro v' w2 hown2 hgrow _
        have hm2 : [Value.string x] = [x].map Value.string := rfl
        rw [hm2, ← List.map_append] at hown2
        obtain ⟨a2, cap2, hv, hnc, _⟩ := own_form hown2
        rw [hv] at hown2 ⊢
        have HO2 := Lib.hid hown2
        have hb2 : Below w1.heap.size w1 w2 := by
          refine (hb.alloc hbz _).grown hgrow (by simp; omega) (fun kk hkk => ?_)
          exact own_base HO.out kk hkk
        have HM2 := Lib.hid (fun y (hy : y ∈ out ++ [x]) => by
          rcases List.mem_append.1 hy with h | h
          · exact HM.out y h
          · rw [List.mem_singleton] at h
            rw [h]
            exact List.mem_of_getElem? Hx.out)
        clear hm2 hv hgrow hown2
        go_wp2_with fail
        go_roundg g
        case measure => omega
        case rel =>
          have el : (out ++ [x]).length = out.length + 1 := by simp
          exact ⟨k + 1, out ++ [x], a2, cap2, by omega, by go_num, by rw [el], by rw [el]; omega, by rw [el]; exact HO2.out, hb2, HG2.out, HM2.out⟩
    · have hgo := HG.out
      rw [List.drop_eq_nil_of_le (by omega)] at hgo
      have hgo2 : Wh.cleanGo xs [] = some out := hgo.symm
      have HF := Lib.hid (HT.out _ hgo2)
      have hle := HLN.out out hgo2
      have hH := own_holds HO.out
      have hcap : out.length ≤ cap := by obtain ⟨a', cap', hv, hnc, _⟩ := own_form HO.out; injection hv with _ _ hv3; omega
      have hF := Lib.hid (containsFunc_str 84 (fun x => !Wh.isName x.data.toList) a cap out wr enters_clean1 (by omega) hH (fun x hx W _ => clean1_any x W (by have := HZ.out x (HM.out x hx); omega)))
      have hany : out.any (fun x => !Wh.isName x.data.toList) = !out.all (fun x => Wh.isName x.data.toList) := by rw [List.not_all_eq_any_not]
      rw [hany] at hF
      have HJ := Lib.hid (fun W (hb3 : Below wr.heap.size wr W) => join_any a cap out ⟨#[47]⟩ W (hH.under hb3) hcap (by omega) (by show (Lib.join _ [47]).length ≤ _; omega))
      have HH2 := Lib.hid hH
      cases hall : out.all (fun x => Wh.isName x.data.toList)
      · rw [hall] at hF
        have hj := Wh.join_bad hall
        have HK := Lib.hid hj
        clear hgo hgo2 hle hH hany hj hall
        go_wp2_with fail
        refine hF.out.mono ?_
        rintro e w2 ⟨rfl, hb2⟩
        go_wp2_with fail
        go_ret2
        rw [HF.out.1, HF.out.2]
        simp only [Wh.cleanTextOf, Wh.cleanErrOf]
        rw [HK.out.1, HK.out.2]
        exact ⟨rfl, bTrans (bTrans hb1 hb) hb2⟩
      · rw [hall] at hF
        have e0 : (⟨#[47]⟩ : ByteArray).data.toList = [47] := rfl
        rw [e0] at HJ
        generalize hjl : Lib.join (out.map (·.data.toList)) [47] = jl at *
        have hsz : (⟨jl.toArray⟩ : ByteArray).size = jl.length := rfl
        by_cases h1 : 1024 < jl.length
        · have HK := Lib.hid (Wh.join_long hall (by rw [hjl]; exact h1))
          clear hgo hgo2 hH hany hall e0 hjl
          go_wp2_with fail
          refine hF.out.mono ?_
          rintro e w2 ⟨rfl, hb2⟩
          go_wp2_with fail
          refine (HJ.out _ hb2).mono ?_
          rintro e w3 ⟨rfl, hb3⟩
          go_wp2_with fail
          go_ret2
          rw [HF.out.1, HF.out.2]
          simp only [Wh.cleanTextOf, Wh.cleanErrOf]
          rw [HK.out.1, HK.out.2]
          exact ⟨rfl, bTrans (bTrans (bTrans hb1 hb) hb2) hb3⟩
        · have HK := Lib.hid (Wh.join_good hall (by rw [hjl]; omega))
          rw [hjl] at HK
          clear hgo hgo2 hH hany hall e0 hjl
          go_wp2_with fail
          refine hF.out.mono ?_
          rintro e w2 ⟨rfl, hb2⟩
          go_wp2_with fail
          refine (HJ.out _ hb2).mono ?_
          rintro e w3 ⟨rfl, hb3⟩
          go_wp2_with fail
          go_ret2
          rw [HF.out.1, HF.out.2]
          simp only [Wh.cleanTextOf, Wh.cleanErrOf]
          rw [HK.out.1, HK.out.2]
          exact ⟨rfl, bTrans (bTrans (bTrans hb1 hb) hb2) hb3⟩
end Go.Proofs.YtbcadgooelcnhaaDoor
