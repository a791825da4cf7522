/-
  names.Clean and the reference's Clean.
-/
import Derived.Test.YtbcadgooelcnhaaDoorParts
import Derived.Test.YtbcadgooelcnhaaDoorPlainClean
namespace Go.Proofs.YtbcadgooelcnhaaDoor
open Go.RowKit

theorem info_str : (Tryd.prog.info? 9).map (fun i => (i.zero, i.size, i.bytes)) = some (some (.string ByteArray.empty), 1, 16) := by kernel_rfl

/-- A row of the call's own, as a slice's value. -/
theorem own_form {w : World} {base : Nat} {e : TypeId} {v : Value} {n : Nat} {xs : List Value} (h : w.ownsRow base e 1 v n xs) :
    ∃ a cap, v = .slice a n cap ∧ n ≤ cap ∧ (0 < n → ∃ g, a = some ⟨g, 0, none⟩) := by
  obtain ⟨h1, h2⟩ := h
  rcases h2 with ⟨rfl, rfl⟩ | ⟨g, cap, cur, rfl, _, _, hn, _⟩
  · exact ⟨none, 0, rfl, Nat.le_refl _, fun h => absurd h (by omega)⟩
  · exact ⟨_, _, rfl, hn, fun _ => ⟨g, rfl⟩⟩

theorem own_base {w : World} {base : Nat} {e : TypeId} {v : Value} {n : Nat} {xs : List Value} (h : w.ownsRow base e 1 v n xs) (k : Nat) (hk : v.ownBlock = some k) : base ≤ k := by
  rcases h.2 with ⟨rfl, _⟩ | ⟨g, cap, cur, rfl, hg, _⟩
  · simp [Value.ownBlock] at hk
  · simp [Value.ownBlock] at hk
    omega

theorem own_holds {w : World} {base : Nat} {e : TypeId} {a : Option Addr} {n c : Nat} {xs : List Value} (h : w.ownsRow base e 1 (.slice a n c) n xs) : Holds w a xs := by
  obtain ⟨h1, h2⟩ := h
  rcases h2 with ⟨_, rfl⟩ | ⟨g, cap, cur, hv, _, hg, hn, _, hsz, htk⟩
  · simp at h1
    exact .inl h1
  · injection hv with hv1
    subst hv1
    refine .inr ⟨g, 0, rfl, (Array.getElem?_eq_some_iff.1 hg).1, fun j u hu => ?_⟩
    rw [Nat.zero_add]
    have hjl : j < n := by have := (List.getElem?_eq_some_iff.1 hu).1; omega
    rw [← htk, List.getElem?_take_of_lt (by omega)] at hu
    simp only [World.cell?, hg]
    simpa using hu

theorem own_pop {w : World} {base : Nat} {e : TypeId} {g cap n : Nat} {out : List ByteArray} (hn : out.length = n + 1)
    (h : w.ownsRow base e 1 (.slice (some ⟨g, 0, none⟩) (n + 1) cap) (n + 1) (out.map Value.string)) : w.ownsRow base e 1 (.slice (some ⟨g, 0, none⟩) n cap) n (out.dropLast.map Value.string) := by
  have hne : out ≠ [] := by intro h0; rw [h0] at hn; simp at hn
  have e1 : out.map Value.string = out.dropLast.map Value.string ++ [Value.string (out.getLast hne)] := by
    conv => lhs; rw [← List.dropLast_concat_getLast hne]
    simp
  rw [e1] at h
  exact ownsRow_pop (by simp; omega) h

def CleanRel (xs : List ByteArray) (w1 : World) (B g : Nat) (s4 s10 : Value) (wx : World) : Prop :=
  ∃ (k : Nat) (out : List ByteArray) (a : Option Addr) (cap : Nat), k + g = xs.length ∧ s10 = .int .i64 k ∧ s4 = .slice a out.length cap ∧ out.length ≤ k ∧
    wx.ownsRow B 9 1 (.slice a out.length cap) out.length (out.map Value.string) ∧ Below B w1 wx ∧ Wh.cleanGo (xs.drop k) out = Wh.cleanGo xs [] ∧ (∀ x ∈ out, x ∈ xs)

set_option maxHeartbeats 2000000 in
set_option maxRecDepth 100000 in
theorem clean_any (s : ByteArray) (w : World) (hE : Env w) (hs : s.size ≤ 1048576) :
    Calls Tryd.prog 43 #[.string s] w fun e w' => e = .returned (.tuple #[.string (Wh.cleanText s), .int .i64 (Wh.cleanErr s)]) ∧ Below w.heap.size w w' := by
  obtain ⟨i0, hi, hz0, hz1, hz2⟩ := info_parts info_str
  have HE := Lib.hid hE
  clear hE
  have hpl := Wh.pieces_le 47 s
  have HZ := Lib.hid (fun x (hx : x ∈ Wh.pieces 47 s) => Wh.pieces_size hx)
  have HT : Hid (∀ r, Wh.cleanGo (Wh.pieces 47 s) [] = r → Wh.cleanText s = Wh.cleanTextOf r ∧ Wh.cleanErr s = Wh.cleanErrOf r) := Lib.hid (fun r hr => by rw [← hr]; exact ⟨rfl, rfl⟩)
  have HLN := Lib.hid (fun (out : List ByteArray) (h : Wh.cleanGo (Wh.pieces 47 s) [] = some out) => Wh.clean_len h)
  go_enter Tryd.func43, Tryd.ntmps43
  go_wp2_with fail
  refine (split_one 47 s _ HE.out (by omega)).mono ?_
  rintro e w' ⟨rfl, rfl⟩
  have HH := Lib.hid (holds_new w 9 (Wh.pieces 47 s))
  have hb1 : Below w.heap.size w (w.alloc (.cells ((Wh.pieces 47 s).map Value.string).toArray 9)) := bAlloc (Below.refl _ _) _
  have hz1' : (w.alloc (.cells ((Wh.pieces 47 s).map Value.string).toArray 9)).heap.size = w.heap.size + 1 := by simp
  have HZ1 := Lib.hid hz1'
  clear hz1'
  generalize w.alloc (.cells ((Wh.pieces 47 s).map Value.string).toArray 9) = w1 at *
  generalize Wh.pieces 47 s = xs at *
  go_wp2_with fail
  go_loopg [4, 10] xs.length (fun g s4 s10 wx => CleanRel xs w1 w1.heap.size g s4 s10 wx)
  case atStart => exact ⟨0, [], none, 0, by omega, rfl, rfl, Nat.le_refl _, ⟨rfl, .inl ⟨rfl, rfl⟩⟩, Below.refl _ _, rfl, by simp⟩
  case round =>
    obtain ⟨k, out, a, cap, hk, rfl, rfl, hol, hown, hb, hgo, hmem⟩ := hrel
    have HO := Lib.hid hown
    have HG := Lib.hid hgo
    have HM := Lib.hid hmem
    clear hown hgo hmem
    by_cases hlt : k < xs.length
    · obtain ⟨g, rfl⟩ : ∃ g, gk = g + 1 := ⟨gk - 1, by omega⟩
      obtain ⟨x, hx⟩ : ∃ x, xs[k]? = some x := ⟨_, List.getElem?_eq_getElem hlt⟩
      obtain ⟨ba, off, hba0, hba, hca⟩ := (HH.out.under hb).at (k := k) (u := .string x) (by simp [hx])
      have Hx := Lib.hid hx
      clear hx
      cases hba0
      rw [Nat.zero_add] at hca
      cases c1 : x.toList.isEmpty
      case true =>
        have HG2 := Lib.hid (Wh.cleanGo_skip Hx.out (.inl c1) HG.out)
        go_wp2_with fail
        go_roundg g
        case measure => omega
        case rel => exact ⟨k + 1, out, a, cap, by omega, by go_num, rfl, by omega, HO.out, hb, HG2.out, HM.out⟩
      cases c2 : (x.toList == [46])
      case true =>
        have HG2 := Lib.hid (Wh.cleanGo_skip Hx.out (.inr c2) HG.out)
        go_wp2_with fail
        go_roundg g
        case measure => omega
        case rel => exact ⟨k + 1, out, a, cap, by omega, by go_num, rfl, by omega, HO.out, hb, HG2.out, HM.out⟩
      cases c3 : (x.toList == [46, 46])
      case true =>
        by_cases c4 : out.length = 0
        · have HG2 := Lib.hid (Wh.cleanGo_fail Hx.out c1 c2 c3 c4 HG.out)
          have hF := HT.out none HG2.out
          have HF := Lib.hid hF
          clear hF
          have c5 : ((out.length : Int) == 0) = true := by simp [c4]
          have C4 := Lib.hid c4
          clear c4
          go_wp2_with fail
          go_ret2
          rw [HF.out.1, HF.out.2]
          exact ⟨rfl, bTrans hb1 hb⟩
        · obtain ⟨n, hn⟩ : ∃ n, out.length = n + 1 := ⟨out.length - 1, by omega⟩
          have HG2 := Lib.hid (Wh.cleanGo_pop Hx.out c1 c2 c3 c4 HG.out)
          have hfm := own_form HO.out
          obtain ⟨a', cap', hv, hnc, hg⟩ := hfm
          injection hv with hv1 hv2 hv3
          subst hv1
          subst hv3
          obtain ⟨gg, rfl⟩ := hg (by omega)
          have ho := HO.out
          rw [hn] at ho
          have HP := Lib.hid (own_pop hn ho)
          have hdl : out.dropLast.length = n := by simp [hn]
          have HDL := Lib.hid hdl
          clear ho hdl
          have HM2 := Lib.hid (fun x (hx : x ∈ out.dropLast) => HM.out x (by rw [List.dropLast_eq_take] at hx; exact List.mem_of_mem_take hx))
          have HN := Lib.hid hn
          have c5 : ((out.length : Int) == 0) = false := beq_eq_false_iff_ne.2 (by omega)
          have hnb : n ≤ 1048577 := by omega
          rw [hn]
          rw [hn] at c5 hnc
          clear hn c4
          go_wp2_with fail
          go_roundg g
          case measure => omega
          case rel =>
            refine ⟨k + 1, out.dropLast, some ⟨gg, 0, none⟩, cap, by omega, by go_num, ?_, by rw [HDL.out]; have := HN.out; omega, by rw [HDL.out]; exact HP.out, hb, HG2.out, HM2.out⟩
            rw [HDL.out]
      case false =>
        have HG2 := Lib.hid (Wh.cleanGo_keep Hx.out c1 c2 c3 HG.out)
        have hbz := hb.size
        have hmax : out.length + 1 ≤ 1048577 := by omega
        go_wp2_with (at_builtin; refine wpList_append_own _ rfl (.tmp 15) (.tmp 17) 48 rfl w1.heap.size 9 i0 (.string ByteArray.empty) 1 16 Tryd.underlying48 hi hz0 hz1 hz2 rfl (by decide) _ _ _ rfl (HO.out.alloc _) ⟨wr.heap.size, 0, none⟩ 1 1 [.string x] rfl rfl ?c1 ?c2 ?c3 ?c4 ?c5 ?_)
        case c1 => exact cell_one_new _ _ _
        case c2 => simp [Value.oneCell']
        case c3 => simp only [maxLen]; omega
        case c4 => omega
        case c5 => simp; omega
        intro v' w2 hown2 hgrow _
        have hm2 : [Value.string x] = [x].map Value.string := rfl
        rw [hm2, ← List.map_append] at hown2
        obtain ⟨a2, cap2, hv, hnc, _⟩ := own_form hown2
        rw [hv] at hown2 ⊢
        have HO2 := Lib.hid hown2
        have hb2 : Below w1.heap.size w1 w2 := by
          refine (hb.alloc hbz _).grown hgrow (by simp; omega) (fun kk hkk => ?_)
          exact own_base HO.out kk hkk
        have HM2 := Lib.hid (fun y (hy : y ∈ out ++ [x]) => by
          rcases List.mem_append.1 hy with h | h
          · exact HM.out y h
          · rw [List.mem_singleton] at h
            rw [h]
            exact List.mem_of_getElem? Hx.out)
        clear hm2 hv hgrow hown2
        go_wp2_with fail
        go_roundg g
        case measure => omega
        case rel =>
          have el : (out ++ [x]).length = out.length + 1 := by simp
          exact ⟨k + 1, out ++ [x], a2, cap2, by omega, by go_num, by rw [el], by rw [el]; omega, by rw [el]; exact HO2.out, hb2, HG2.out, HM2.out⟩
    · have hgo := HG.out
      rw [List.drop_eq_nil_of_le (by omega)] at hgo
      have hgo2 : Wh.cleanGo xs [] = some out := hgo.symm
      have HF := Lib.hid (HT.out _ hgo2)
      have hle := HLN.out out hgo2
      have HJ := Lib.hid (namesJoin_any a cap out wr (own_holds HO.out) (by obtain ⟨a', cap', hv, hnc, _⟩ := own_form HO.out; injection hv with _ _ hv3; omega) (by omega) (fun x hx => by have := HZ.out x (HM.out x hx); omega) (fun _ => by omega))
      clear hgo hgo2 hle
      go_wp2_with fail
      refine HJ.out.mono ?_
      rintro e w2 ⟨rfl, hb2⟩
      go_wp2_with fail
      go_ret2
      rw [HF.out.1, HF.out.2]
      exact ⟨rfl, bTrans (bTrans hb1 hb) hb2⟩
end Go.Proofs.YtbcadgooelcnhaaDoor
