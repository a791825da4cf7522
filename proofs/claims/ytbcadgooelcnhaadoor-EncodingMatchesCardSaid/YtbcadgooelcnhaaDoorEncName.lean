/-
  names.encodeName, walked.
-/
import Derived.Test.YtbcadgooelcnhaaDoorEncLaw
import Derived.Test.YtbcadgooelcnhaaDoorSearch
import Derived.Test.YtbcadgooelcnhaaDoorPlainCode
import Derived.Test.YtbcadgooelcnhaaDoorOwn
import Derived.Deep.RegionHeld3
import Derived.Deep.DeepCutAuto
import Derived.Deep.RegionLaw
import Derived.Deep.RegionHeldLaw
import Derived.Deep.AppendLies
namespace Go.Proofs.YtbcadgooelcnhaaDoor
open Go.RowKit

theorem info_byte : (Tryd.prog.info? 5).map (fun i => (i.zero, i.size, i.bytes)) = some (some (.int .u8 0), 1, 1) := by kernel_rfl

theorem and15 (c : UInt8) : bits BinOp.and IntKind.u8 (c.toNat : Int) 15 = ((c.toNat % 16 : Nat) : Int) := by
  have h : ∀ n : Fin 256, bits BinOp.and IntKind.u8 (n.1 : Int) 15 = ((n.1 % 16 : Nat) : Int) := by decide +kernel
  exact h ⟨c.toNat, c.toNat_lt⟩

theorem hexd_get (n : Nat) (h : n < 16) : (⟨#[48, 49, 50, 51, 52, 53, 54, 55, 56, 57, 65, 66, 67, 68, 69, 70]⟩ : ByteArray)[n]'h = Wh.hexd n := by
  have : ∀ n : Fin 16, (⟨#[48, 49, 50, 51, 52, 53, 54, 55, 56, 57, 65, 66, 67, 68, 69, 70]⟩ : ByteArray)[n.1]'n.2 = Wh.hexd n.1 := by decide +kernel
  exact this ⟨n, h⟩

set_option maxRecDepth 100000 in
theorem app_row {W : World} {base g cap n m : Nat} {out news : List UInt8} {vs : List Value} (h : W.ownsRow base 5 1 (.slice (some ⟨g, 0, none⟩) n cap) n (out.map vb ++ vs)) (hv : vs = news.map vb) (hn : n = out.length + m) (hm : m = news.length) :
    W.ownsRow base 5 1 (.slice (some ⟨g, 0, none⟩) (out ++ news).length cap) (out ++ news).length ((out ++ news).map vb) := by
  subst hv hn hm
  rw [List.map_append, List.length_append]
  exact h

set_option maxRecDepth 100000 in
theorem conv_own {W : World} {base cap : Nat} {a : Option Addr} {out : List UInt8} (h : W.ownsRow base 5 1 (.slice a out.length cap) out.length (out.map vb)) :
    (convert 70 9 (.slice a out.length cap)).run Tryd.prog W = .ok (.string ⟨out.toArray⟩) W := by
  have hh := own_holds h
  rcases h.2 with ⟨hv, h0⟩ | ⟨g, cap', cur, hv, _⟩
  · injection hv with e1 e2 e3
    rw [List.length_eq_zero_iff] at h0
    subst e1 h0
    rw [List.length_nil, run_convert_bytes_string W 70 9 5 none 0 cap Tryd.underlying70 Tryd.underlying5 Tryd.underlying9]
    simp [Conv.bytesToString]
    rfl
  · injection hv with e1 e2 e3
    subst e1
    refine run_convert_bytes_back W 70 9 5 ⟨g, 0, none⟩ cap out Tryd.underlying70 Tryd.underlying5 Tryd.underlying9 fun j hj => ?_
    have e : (⟨g, 0, none⟩ : Addr).add j = ⟨g, j, none⟩ := by unfold Addr.add; split <;> simp_all
    rw [e]
    rcases hh with hh | ⟨g', o, hg, _, hc⟩
    · have : (out.map vb).length = 0 := by rw [hh]; rfl
      simp at this
      subst this
      simp at hj
    · injection hg with hg
      injection hg with hg1 hg2
      have := hc j (vb out[j]) (by simp [List.getElem?_eq_getElem hj])
      rw [← hg1, ← hg2, Nat.zero_add] at this
      exact this

theorem undrew2 {B : Nat} {a b : World} (h : Below B a b) : Below B a b.drew := ⟨h.os, h.tape, h.output, h.size, h.block⟩

theorem undrew {B : Nat} {a b : World} (h : Below B a.drew b) : Below B a b := ⟨h.os, h.tape, h.output, h.size, h.block⟩

set_option maxHeartbeats 4000000 in
set_option maxRecDepth 100000 in
theorem encodeName_any (x : Wh.Enc) (a : Option Addr) (c : Nat) (s : ByteArray) (w : World) (hX : EncOk x a w) (hs : s.size ≤ 255) (hS : Wh.Sorted x.names) :
    Calls Tryd.prog 106 #[encVal x a c, .string s] w fun e w' => e = .returned (.string ⟨(Wh.encName x s.data.toList).toArray⟩) ∧ Below w.heap.size w w' := by
  obtain ⟨i0, hi, hz0, hz1, hz2⟩ := info_parts info_byte
  have hF := fun W => fold_any s W (by omega)
  have hB := fun W (hb : Below w.heap.size w W) => search_str a c x.names ⟨(Wh.lower s.data.toList).toArray⟩ W hX.len (hX.holds.under hb) hS
  have hmem : Wh.memB x.names ⟨(Wh.lower s.data.toList).toArray⟩ = x.names.any (fun y => y.data.toList == Wh.lower s.data.toList) := rfl
  rw [hmem] at hB
  clear hmem
  obtain ⟨F, hFe⟩ : ∃ F : ByteArray, (⟨(Wh.lower s.data.toList).toArray⟩ : ByteArray) = F := ⟨_, rfl⟩
  rw [hFe] at hF hB
  have HF := Lib.hid hF
  have HB := Lib.hid hB
  have hend := Lib.hid (fun k hk => Wh.encTo_end x s.data.toList (k := k) hk)
  generalize x.names.any (fun y => y.data.toList == Wh.lower s.data.toList) = named at *
  clear hX hS hF hB hFe
  unfold encVal
  have HX := Lib.hid (encBox_new w 61 x a c)
  have hb1 : Below w.heap.size w (w.alloc (.cells #[.string x.forbid, .string x.head, .string x.tail, .slice a x.names.length c, .bool x.cs, .int .i64 x.max] 61)) := bAlloc (Below.refl _ _) _
  go_enter Tryd.func106, Tryd.ntmps106
  go_wp2_with fail
  generalize w.alloc (.cells #[.string x.forbid, .string x.head, .string x.tail, .slice a x.names.length c, .bool x.cs, .int .i64 x.max] 61) = w1 at *
  obtain ⟨k0, k1, k2, k3, k4, k5, k6⟩ := HX.out
  clear k1 k2 k3 k5 k6
  go_region_held3 (fun w' => w'.cell? ⟨w.heap.size, 3, none⟩ = some (.slice a x.names.length c))
    (first | go_keep | exact (hbF.cell (p := ⟨w.heap.size, 3, none⟩) k0).trans k4)
    (first | (go_at_call 48; refine (HF.out _).mono ?_; rintro e w2 ⟨rfl, hbF⟩) | (go_at_call 118; refine (HB.out _ (bTrans hb1 (undrew hbF))).mono ?_; rintro e w3 ⟨i, rfl, rfl⟩))
  have hb2 := bTrans hb1 (undrew hbF)
  have HX2 := Lib.hid (HX.out.under (undrew hbF))
  clear k0 k4 hbF HX HF HB hb1
  go_wp2_with fail
  go_loopg [5, 22] s.size (fun g s5 s22 wx => ∃ (k : Nat) (out : List UInt8) (a' : Option Addr) (cap : Nat), k + g = s.size ∧ s22 = .int .i64 k ∧ s5 = .slice a' out.length cap ∧
    wx.ownsRow w2.heap.size 5 1 (.slice a' out.length cap) out.length (out.map (fun b => Value.int .u8 b.toNat)) ∧ Below w2.heap.size w2 wx ∧ Hid (out = Wh.encTo x named s.data.toList k))
  case atStart => exact ⟨0, [], none, 0, by omega, rfl, rfl, ⟨rfl, .inl ⟨rfl, rfl⟩⟩, Below.refl _ _, Lib.hid (by simp [Wh.encTo, Wh.encFrom])⟩
  case round =>
    obtain ⟨k, out, a', cap, hk, rfl, rfl, hown, hb, HO⟩ := hrel
    have HW := Lib.hid hown
    clear hown
    by_cases hlt : k < s.size
    · obtain ⟨g, rfl⟩ : ∃ g, gk = g + 1 := ⟨gk - 1, by omega⟩
      obtain ⟨ch, hch⟩ : ∃ ch : UInt8, s[k]'hlt = ch := ⟨_, rfl⟩
      have hcl : s.data.toList[k]? = some ch := by rw [← hch]; exact Lib.data_getElem? s k hlt
      have Hcl := Lib.hid hcl
      have hc8 := ch.toNat_lt
      clear hcl
      obtain ⟨k0, k1, k2, k3, k4, k5, k6⟩ := HX2.out.under hb
      clear k0 k4 k6
      have hHead := fun W => hasByte_any x.head ch W
      have hTail := fun W => hasByte_any x.tail ch W
      have hForb := fun W => hasByte_any x.forbid ch W
      have hesc : Wh.escB x named (k == 0) (k + 1 == s.data.toList.length) ch = (ch == 37 || x.forbid.data.toList.contains ch || ((k == 0) && (x.head.data.toList.contains ch || named)) || ((k + 1 == s.data.toList.length) && x.tail.data.toList.contains ch)) := rfl
      have hstep := Wh.encTo_step (x := x) (named := named) Hcl.out
      generalize x.head.data.toList.contains ch = bh at *
      generalize x.tail.data.toList.contains ch = bt at *
      generalize x.forbid.data.toList.contains ch = bf at *
      have hlen : s.data.toList.length = s.size := (Lib.size_eq s).symm
      rw [hlen] at hesc hstep
      have HHead := Lib.hid hHead
      have HTail := Lib.hid hTail
      have HForb := Lib.hid hForb
      have HStep := Lib.hid hstep
      have HEsc := Lib.hid hesc
      clear hHead hTail hForb hesc hstep hlen
      go_upto_region 7 with fail
      go_cut [10] (fun s10 wx => s10 = .bool ((k == 0) && (bh || named)) ∧ wx = wr)
      case first =>
        by_cases c0 : k = 0
        · have c1 : ((k : Int) == 0) = true := by simp [c0]
          have c2 : (k == 0) = true := by simp [c0]
          clear c0
          cases bh
          · go_wp2_with (go_at_call 90; refine (HHead.out _).mono ?_; rintro e w' ⟨rfl, rfl⟩)
            go_meet
            exact ⟨by rw [c2]; rfl, rfl⟩
          · go_wp2_with (go_at_call 90; refine (HHead.out _).mono ?_; rintro e w' ⟨rfl, rfl⟩)
            go_meet
            exact ⟨by rw [c2]; rfl, rfl⟩
        · have c1 : ((k : Int) == 0) = false := beq_eq_false_iff_ne.2 (by omega)
          have c2 : (k == 0) = false := by simpa using c0
          clear c0
          go_wp2_with fail
          go_meet
          exact ⟨by rw [c2]; rfl, rfl⟩
      case rest =>
        obtain ⟨rfl, rfl⟩ := hcut
        generalize ((k == 0) && (bh || named)) = b1 at *
        go_upto_region 8 with fail
        go_cut [11] (fun s11 wx => s11 = .bool ((k + 1 == s.size) && bt) ∧ wx = wc)
        case first =>
          by_cases c0 : k + 1 = s.size
          · have c1 : ((k : Int) == (s.size : Int) - 1) = true := by simp; omega
            have c2 : (k + 1 == s.size) = true := by simp [c0]
            clear c0
            go_wp2_with (go_at_call 90; refine (HTail.out _).mono ?_; rintro e w' ⟨rfl, rfl⟩)
            go_meet
            exact ⟨by rw [c2]; rfl, rfl⟩
          · have c1 : ((k : Int) == (s.size : Int) - 1) = false := beq_eq_false_iff_ne.2 (by omega)
            have c2 : (k + 1 == s.size) = false := by simpa using c0
            clear c0
            go_wp2_with fail
            go_meet
            exact ⟨by rw [c2]; rfl, rfl⟩
        case rest =>
          obtain ⟨rfl, rfl⟩ := hcut
          generalize ((k + 1 == s.size) && bt) = b2 at *
          have e37 := Wh.byte_is ch 37 37 rfl
          go_upto_region 10 with fail
          go_cut [54] (fun s54 wx => s54 = .bool (ch == 37 || bf || b1 || b2) ∧ wx = wc)
          case first =>
            cases c1 : (ch == 37)
            · rw [c1] at e37
              cases bf
              · cases b1
                · go_wp2_with (go_at_call 90; refine (HForb.out _).mono ?_; rintro e w' ⟨rfl, rfl⟩)
                  go_meet
                  exact ⟨by rw [c1]; simp, rfl⟩
                · go_wp2_with (go_at_call 90; refine (HForb.out _).mono ?_; rintro e w' ⟨rfl, rfl⟩)
                  go_meet
                  exact ⟨by rw [c1]; simp, rfl⟩
              · go_wp2_with (go_at_call 90; refine (HForb.out _).mono ?_; rintro e w' ⟨rfl, rfl⟩)
                go_meet
                exact ⟨by rw [c1]; simp, rfl⟩
            · rw [c1] at e37
              go_wp2_with fail
              go_meet
              exact ⟨by rw [c1]; simp, rfl⟩
          case rest =>
            obtain ⟨rfl, rfl⟩ := hcut
            generalize hb3 : (ch == 37 || bf || b1 || b2) = b3 at *
            have HB3 := Lib.hid hb3
            clear hb3
            have hbz := hb.size
            have hol : out.length ≤ 765 := by
              have := Wh.encTo_length x named s.data.toList k
              rw [← HO.out, ← Lib.size_eq] at this
              omega
            cases b3
            · have e94 := Wh.byte_is ch 94 94 rfl
              go_upto_region 12 with fail
              go_cut [78] (fun s78 wx => s78 = .bool (Wh.markB x ch) ∧ wx = wc)
              case first =>
                have hm : Wh.markB x ch = (x.cs && (ch == 94 || (decide (65 ≤ ch.toNat) && decide (ch.toNat ≤ 90)))) := rfl
                have hM := Lib.hid hm
                clear hm
                have c00 : x.cs = false ∨ x.cs = true := by cases x.cs <;> simp
                rcases c00 with c0 | c0
                · rw [c0] at k5; replace c0 := Lib.hid c0
                  go_wp2_with fail
                  go_meet
                  exact ⟨by rw [hM.out, c0.out]; rfl, rfl⟩
                · rw [c0] at k5; replace c0 := Lib.hid c0
                  cases c1 : (ch == 94)
                  · rw [c1] at e94
                    by_cases c2 : 65 ≤ ch.toNat
                    · by_cases c3 : ch.toNat ≤ 90
                      · go_wp2_with fail
                        go_meet
                        exact ⟨by rw [hM.out, c0.out, c1]; simp [c2, c3]; try omega, rfl⟩
                      · go_wp2_with fail
                        go_meet
                        exact ⟨by rw [hM.out, c0.out, c1]; simp [c2, c3]; try omega, rfl⟩
                    · go_wp2_with fail
                      go_meet
                      exact ⟨by rw [hM.out, c0.out, c1]; simp [c2], rfl⟩
                  · rw [c1] at e94
                    go_wp2_with fail
                    go_meet
                    exact ⟨by rw [hM.out, c0.out, c1]; rfl, rfl⟩
              case rest =>
                obtain ⟨rfl, rfl⟩ := hcut
                have hE : Wh.encB x named (k == 0) (k + 1 == s.size) ch = if Wh.markB x ch then [94, Wh.small ch] else [ch] := by
                  unfold Wh.encB
                  rw [if_neg (by rw [HEsc.out]; simp)]
                cases hmk : Wh.markB x ch
                · rw [hmk] at hE
                  have HE := Lib.hid hE
                  clear hE
                  have hba : w2.heap.size ≤ (wc.alloc (.cells #[.int .u8 (ch.toNat : Int)] 5)).heap.size := by simp; omega
                  have HN := Lib.hid hba
                  clear hba
                  go_wp2_with (at_builtin; refine wpList_append_lies _ rfl (.tmp 50) (.tmp 52) 70 rfl w2.heap.size 5 i0 (.int .u8 0) 1 1 Tryd.underlying70 hi hz0 hz1 hz2 rfl (by decide) _ _ _ rfl (HW.out.alloc _) ⟨wc.heap.size, 0, none⟩ 1 1 [.int .u8 (ch.toNat : Int)] rfl rfl ?c1 ?c2 (by decide) ?c3 ?c4 ?c5 _ rfl ?_)
                  case c1 => exact World.news_of_block (heap_alloc_new wc _)
                  case c2 => simp [Value.oneCell']
                  case c3 => simp only [maxLen]; omega
                  case c4 => omega
                  case c5 => exact HN.out
                  intro g1 cap1 w4 hown hgrow hat hlt4
                  have hb4 : Below w2.heap.size w2 w4 := (hb.alloc hbz _).grown hgrow HN.out (fun kk hkk => own_base HW.out kk hkk)
                  have HO4 : Hid (out ++ [ch] = Wh.encTo x named s.data.toList (k + 1)) := Lib.hid (by rw [HStep.out, HE.out, ← HO.out]; rfl)
                  have HW4 := Lib.hid (app_row (news := [ch]) hown rfl rfl rfl)
                  clear hown hgrow hat hlt4
                  go_wp2_with fail
                  go_roundg g
                  case measure => omega
                  case rel => exact ⟨k + 1, out ++ [ch], _, cap1, by omega, by go_num, by simp, HW4.out, hb4, HO4⟩
                · rw [hmk] at hE
                  have HE := Lib.hid hE
                  clear hE
                  have HS := Lib.hid (fun W => small_any ch W)
                  have hba : w2.heap.size ≤ (wc.alloc (.cells #[.int .u8 94, .int .u8 ((Wh.small ch).toNat : Int)] 5)).heap.size := by simp; omega
                  have HN := Lib.hid hba
                  clear hba
                  go_wp2_with (first | (go_at_call 86; refine (HS.out _).mono ?_; rintro e w' ⟨rfl, hw'⟩; subst w') | (at_builtin; refine wpList_append_lies _ rfl (.tmp 93) (.tmp 96) 70 rfl w2.heap.size 5 i0 (.int .u8 0) 1 1 Tryd.underlying70 hi hz0 hz1 hz2 rfl (by decide) _ _ _ rfl (HW.out.alloc _) ⟨wc.heap.size, 0, none⟩ 2 2 [.int .u8 94, .int .u8 ((Wh.small ch).toNat : Int)] rfl rfl ?c1 ?c2 (by decide) ?c3 ?c4 ?c5 _ rfl ?_))
                  case c1 => exact World.news_of_block (heap_alloc_new wc _)
                  case c2 => simp [Value.oneCell']
                  case c3 => simp only [maxLen]; omega
                  case c4 => omega
                  case c5 => exact HN.out
                  intro g1 cap1 w4 hown hgrow hat hlt4
                  have hb4 : Below w2.heap.size w2 w4 := (hb.alloc hbz _).grown hgrow HN.out (fun kk hkk => own_base HW.out kk hkk)
                  have HO4 : Hid (out ++ [94, Wh.small ch] = Wh.encTo x named s.data.toList (k + 1)) := Lib.hid (by rw [HStep.out, HE.out, ← HO.out]; rfl)
                  have HW4 := Lib.hid (app_row (news := [94, Wh.small ch]) hown rfl rfl rfl)
                  clear hown hgrow hat hlt4
                  go_wp2_with fail
                  go_roundg g
                  case measure => omega
                  case rel => exact ⟨k + 1, out ++ [94, Wh.small ch], _, cap1, by omega, by go_num, by simp, HW4.out, hb4, HO4⟩
            · have hE : Wh.encB x named (k == 0) (k + 1 == s.size) ch = [37, Wh.hexd (ch.toNat / 16), Wh.hexd (ch.toNat % 16)] := by
                unfold Wh.encB
                rw [if_pos (by rw [HEsc.out])]
              have HE := Lib.hid hE
              clear hE
              go_wp2_with fail
              have q1 : (ch.toNat : Int) / 16 = ((ch.toNat / 16 : Nat) : Int) := by omega
              have q2 := and15 ch
              have q3 : ch.toNat / 16 < 16 := by omega
              have q4 : ch.toNat % 16 < 16 := by omega
              have q5 := hexd_get _ q3
              have q6 := hexd_get _ q4
              generalize ch.toNat / 16 = d1 at *
              generalize ch.toNat % 16 = d2 at *
              generalize Wh.hexd d1 = y1 at *
              generalize Wh.hexd d2 = y2 at *
              have q7 : (d1 : Int) < 16 := by omega
              have q8 : (d2 : Int) < 16 := by omega
              have h1 : ∀ u ∈ [Value.int .u8 37, Value.int .u8 (y1.toNat : Int), Value.int .u8 (y2.toNat : Int)], u.oneCell' = true := by simp [Value.oneCell']
              have h63 : out.length + 3 ≤ maxLen := by simp only [maxLen]; omega
              have hby : (out.length + 3) * 1 ≤ 140737488355328 := by omega
              have hba : w2.heap.size ≤ (wc.alloc (.cells #[.int .u8 37, .int .u8 (y1.toNat : Int), .int .u8 (y2.toNat : Int)] 5)).drew.heap.size := by simp; omega
              have hnw : (wc.alloc (.cells #[.int .u8 37, .int .u8 (y1.toNat : Int), .int .u8 (y2.toNat : Int)] 5)).drew.heap[wc.heap.size]? = some (.cells #[.int .u8 37, .int .u8 (y1.toNat : Int), .int .u8 (y2.toNat : Int)] 5) := heap_alloc_new wc _
              have how : (wc.alloc (.cells #[.int .u8 37, .int .u8 (y1.toNat : Int), .int .u8 (y2.toNat : Int)] 5)).drew.ownsRow w2.heap.size 5 1 (.slice a' out.length cap) out.length (out.map (fun b => Value.int .u8 b.toNat)) := HW.out.alloc _
              have hcs := World.news_of_block hnw
              have HN := Lib.hid (⟨h1, h63, hby, hba, how, hcs⟩ : _ ∧ _ ∧ _ ∧ _ ∧ _ ∧ _)
              clear h1 h63 hby hba how hcs hnw
              go_region_law ((refine step_append_lies _ (by rfl) (.tmp 69) (.tmp 76) 70 (by rfl) w2.heap.size 5 i0 (.int .u8 0) 1 1 Tryd.underlying70 hi hz0 hz1 hz2 rfl (by decide) (.slice a' out.length cap) out.length _ (by rfl) HN.out.2.2.2.2.1 ⟨wc.heap.size, 0, none⟩ 3 3 _ (by rfl) (by rfl) HN.out.2.2.2.2.2 HN.out.1 (by decide) HN.out.2.1 HN.out.2.2.1 HN.out.2.2.2.1 _ rfl ?_; intro g1 cap1 w4 hown hgrow hat hlt4))
              all_goals
                have hb4 : Below w2.heap.size w2 w4 := (undrew2 (hb.alloc hbz _)).grown hgrow HN.out.2.2.2.1 (fun kk hkk => own_base HW.out kk hkk)
                have HO4 : Hid (out ++ [37, y1, y2] = Wh.encTo x named s.data.toList (k + 1)) := Lib.hid (by rw [HStep.out, HE.out, ← HO.out])
                have HW4 := Lib.hid (app_row (news := [37, y1, y2]) hown rfl rfl rfl)
                clear hown hgrow hat hlt4
                go_wp2_with fail
                go_roundg g
                case measure => omega
                case rel => exact ⟨k + 1, out ++ [37, y1, y2], _, cap1, by omega, by go_num, by simp, HW4.out, hb4, HO4⟩
    · have HC := Lib.hid (conv_own HW.out)
      have HF : Hid (out = Wh.encName x s.data.toList) := Lib.hid (HO.out.trans (hend.out k (by rw [← Lib.size_eq]; omega)))
      have hco := HC.out
      go_wp2_with fail
      go_ret
      rw [HF.out]
      exact ⟨rfl, bTrans hb2 hb⟩
end Go.Proofs.YtbcadgooelcnhaaDoor
