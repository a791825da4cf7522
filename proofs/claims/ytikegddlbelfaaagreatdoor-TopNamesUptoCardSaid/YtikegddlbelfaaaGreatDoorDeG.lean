/-
  The texts EncName, EncPath, OneLaw, DecName, Decode, RefEnc, RefNames, RefEncode, RefDecode, DecLaw, in one.
-/
import Derived.Test.YtikegddlbelfaaaGreatDoorEnG
import Derived.Test.YtikegddlbelfaaaGreatDoorSearch
import Derived.Test.YtikegddlbelfaaaGreatDoorPlG
import Derived.Test.YtikegddlbelfaaaGreatDoorOwn
import Derived.Deep.RegionHeld3
import Derived.Deep.DeepCutAuto
import Derived.Deep.RegionLaw
import Derived.Deep.RegionHeldLaw
import Derived.Deep.AppendLies
import Derived.Deep.OwnRows
import Derived.BigQuiet
import Derived.IntWalk
import Derived.Test.YtikegddlbelfaaaGreatDoorParts
namespace Go.Proofs.YtikegddlbelfaaaGreatDoor
open Go.RowKit

theorem info_byte : (Tryz.prog.info? 5).map (fun i => (i.zero, i.size, i.bytes)) = some (some (.int .u8 0), 1, 1) := by kernel_rfl

theorem and15 (c : UInt8) : bits BinOp.and IntKind.u8 (c.toNat : Int) 15 = ((c.toNat % 16 : Nat) : Int) := by
  have h : ∀ n : Fin 256, bits BinOp.and IntKind.u8 (n.1 : Int) 15 = ((n.1 % 16 : Nat) : Int) := by decide +kernel
  exact h ⟨c.toNat, c.toNat_lt⟩

theorem hexd_get (n : Nat) (h : n < 16) : (⟨#[48, 49, 50, 51, 52, 53, 54, 55, 56, 57, 65, 66, 67, 68, 69, 70]⟩ : ByteArray)[n]'h = Wh.hexd n := by
  have : ∀ n : Fin 16, (⟨#[48, 49, 50, 51, 52, 53, 54, 55, 56, 57, 65, 66, 67, 68, 69, 70]⟩ : ByteArray)[n.1]'n.2 = Wh.hexd n.1 := by decide +kernel
  exact this ⟨n, h⟩

set_option maxRecDepth 100000 in
theorem app_row {W : World} {base g cap n m : Nat} {out news : List UInt8} {vs : List Value} (h : W.ownsRow base 5 1 (.slice (some ⟨g, 0, none⟩) n cap) n (out.map vb ++ vs)) (hv : vs = news.map vb) (hn : n = out.length + m) (hm : m = news.length) :
    W.ownsRow base 5 1 (.slice (some ⟨g, 0, none⟩) (out ++ news).length cap) (out ++ news).length ((out ++ news).map vb) := by
  subst hv hn hm
  rw [List.map_append, List.length_append]
  exact h

set_option maxRecDepth 100000 in
theorem conv_own {W : World} {base cap : Nat} {a : Option Addr} {out : List UInt8} (h : W.ownsRow base 5 1 (.slice a out.length cap) out.length (out.map vb)) :
    (convert 89 9 (.slice a out.length cap)).run Tryz.prog W = .ok (.string ⟨out.toArray⟩) W := by
  have hh := own_holds h
  rcases h.2 with ⟨hv, h0⟩ | ⟨g, cap', cur, hv, _⟩
  · injection hv with e1 e2 e3
    rw [List.length_eq_zero_iff] at h0
    subst e1 h0
    rw [List.length_nil, run_convert_bytes_string W 89 9 5 none 0 cap Tryz.underlying89 Tryz.underlying5 Tryz.underlying9]
    simp [Conv.bytesToString]
    rfl
  · injection hv with e1 e2 e3
    subst e1
    refine run_convert_bytes_back W 89 9 5 ⟨g, 0, none⟩ cap out Tryz.underlying89 Tryz.underlying5 Tryz.underlying9 fun j hj => ?_
    have e : (⟨g, 0, none⟩ : Addr).add j = ⟨g, j, none⟩ := by unfold Addr.add; split <;> simp_all
    rw [e]
    rcases hh with hh | ⟨g', o, hg, _, hc⟩
    · have : (out.map vb).length = 0 := by rw [hh]; rfl
      simp at this
      subst this
      simp at hj
    · injection hg with hg
      injection hg with hg1 hg2
      have := hc j (vb out[j]) (by simp [List.getElem?_eq_getElem hj])
      rw [← hg1, ← hg2, Nat.zero_add] at this
      exact this

theorem undrew2 {B : Nat} {a b : World} (h : Below B a b) : Below B a b.drew := ⟨h.os, h.tape, h.output, h.size, h.block⟩

theorem undrew {B : Nat} {a b : World} (h : Below B a.drew b) : Below B a b := ⟨h.os, h.tape, h.output, h.size, h.block⟩

set_option maxHeartbeats 4000000 in
set_option maxRecDepth 100000 in
theorem encodeName_any (x : Wh.Enc) (a : Option Addr) (c : Nat) (s : ByteArray) (w : World) (hX : EncOk x a w) (hs : s.size ≤ 255) (hS : Wh.Sorted x.names) :
    Calls Tryz.prog 57 #[encVal x a c, .string s] w fun e w' => e = .returned (.string ⟨(Wh.encName x s.data.toList).toArray⟩) ∧ Below w.heap.size w w' := by
  obtain ⟨i0, hi, hz0, hz1, hz2⟩ := info_parts info_byte
  have hF := fun W => fold_any s W (by omega)
  have hB := fun W (hb : Below w.heap.size w W) => search_str a c x.names ⟨(Wh.lower s.data.toList).toArray⟩ W hX.len (hX.holds.under hb) hS
  have hmem : Wh.memB x.names ⟨(Wh.lower s.data.toList).toArray⟩ = x.names.any (fun y => y.data.toList == Wh.lower s.data.toList) := rfl
  rw [hmem] at hB
  clear hmem
  obtain ⟨F, hFe⟩ : ∃ F : ByteArray, (⟨(Wh.lower s.data.toList).toArray⟩ : ByteArray) = F := ⟨_, rfl⟩
  rw [hFe] at hF hB
  have HF := Lib.hid hF
  have HB := Lib.hid hB
  have hend := Lib.hid (fun k hk => Wh.encTo_end x s.data.toList (k := k) hk)
  generalize x.names.any (fun y => y.data.toList == Wh.lower s.data.toList) = named at *
  clear hX hS hF hB hFe
  unfold encVal
  have HX := Lib.hid (encBox_new w 24 x a c)
  have hb1 : Below w.heap.size w (w.alloc (.cells #[.string x.forbid, .string x.head, .string x.tail, .slice a x.names.length c, .bool x.cs, .int .i64 x.max] 24)) := bAlloc (Below.refl _ _) _
  go_enter Tryz.func57, Tryz.ntmps57
  go_wp2_with fail
  generalize w.alloc (.cells #[.string x.forbid, .string x.head, .string x.tail, .slice a x.names.length c, .bool x.cs, .int .i64 x.max] 24) = w1 at *
  obtain ⟨k0, k1, k2, k3, k4, k5, k6⟩ := HX.out
  clear k1 k2 k3 k5 k6
  go_region_held3 (fun w' => w'.cell? ⟨w.heap.size, 3, none⟩ = some (.slice a x.names.length c))
    (first | go_keep | exact (hbF.cell (p := ⟨w.heap.size, 3, none⟩) k0).trans k4)
    (first | (go_at_call 25; refine (HF.out _).mono ?_; rintro e w2 ⟨rfl, hbF⟩) | (go_at_call 81; refine (HB.out _ (bTrans hb1 (undrew hbF))).mono ?_; rintro e w3 ⟨i, rfl, rfl⟩))
  have hb2 := bTrans hb1 (undrew hbF)
  have HX2 := Lib.hid (HX.out.under (undrew hbF))
  clear k0 k4 hbF HX HF HB hb1
  go_wp2_with fail
  go_loopg [5, 22] s.size (fun g s5 s22 wx => ∃ (k : Nat) (out : List UInt8) (a' : Option Addr) (cap : Nat), k + g = s.size ∧ s22 = .int .i64 k ∧ s5 = .slice a' out.length cap ∧
    wx.ownsRow w2.heap.size 5 1 (.slice a' out.length cap) out.length (out.map (fun b => Value.int .u8 b.toNat)) ∧ Below w2.heap.size w2 wx ∧ Hid (out = Wh.encTo x named s.data.toList k))
  case atStart => exact ⟨0, [], none, 0, by omega, rfl, rfl, ⟨rfl, .inl ⟨rfl, rfl⟩⟩, Below.refl _ _, Lib.hid (by simp [Wh.encTo, Wh.encFrom])⟩
  case round =>
    obtain ⟨k, out, a', cap, hk, rfl, rfl, hown, hb, HO⟩ := hrel
    have HW := Lib.hid hown
    clear hown
    by_cases hlt : k < s.size
    · obtain ⟨g, rfl⟩ : ∃ g, gk = g + 1 := ⟨gk - 1, by omega⟩
      obtain ⟨ch, hch⟩ : ∃ ch : UInt8, s[k]'hlt = ch := ⟨_, rfl⟩
      have hcl : s.data.toList[k]? = some ch := by rw [← hch]; exact Lib.data_getElem? s k hlt
      have Hcl := Lib.hid hcl
      have hc8 := ch.toNat_lt
      clear hcl
      obtain ⟨k0, k1, k2, k3, k4, k5, k6⟩ := HX2.out.under hb
      clear k0 k4 k6
      have hHead := fun W => hasByte_any x.head ch W
      have hTail := fun W => hasByte_any x.tail ch W
      have hForb := fun W => hasByte_any x.forbid ch W
      have hesc : Wh.escB x named (k == 0) (k + 1 == s.data.toList.length) ch = (ch == 37 || x.forbid.data.toList.contains ch || ((k == 0) && (x.head.data.toList.contains ch || named)) || ((k + 1 == s.data.toList.length) && x.tail.data.toList.contains ch)) := rfl
      have hstep := Wh.encTo_step (x := x) (named := named) Hcl.out
      generalize x.head.data.toList.contains ch = bh at *
      generalize x.tail.data.toList.contains ch = bt at *
      generalize x.forbid.data.toList.contains ch = bf at *
      have hlen : s.data.toList.length = s.size := (Lib.size_eq s).symm
      rw [hlen] at hesc hstep
      have HHead := Lib.hid hHead
      have HTail := Lib.hid hTail
      have HForb := Lib.hid hForb
      have HStep := Lib.hid hstep
      have HEsc := Lib.hid hesc
      clear hHead hTail hForb hesc hstep hlen
      go_upto_region 7 with fail
      go_cut [10] (fun s10 wx => s10 = .bool ((k == 0) && (bh || named)) ∧ wx = wr)
      case first =>
        by_cases c0 : k = 0
        · have c1 : ((k : Int) == 0) = true := by simp [c0]
          have c2 : (k == 0) = true := by simp [c0]
          clear c0
          cases bh
          · go_wp2_with (go_at_call 21; refine (HHead.out _).mono ?_; rintro e w' ⟨rfl, rfl⟩)
            go_meet
            exact ⟨by rw [c2]; rfl, rfl⟩
          · go_wp2_with (go_at_call 21; refine (HHead.out _).mono ?_; rintro e w' ⟨rfl, rfl⟩)
            go_meet
            exact ⟨by rw [c2]; rfl, rfl⟩
        · have c1 : ((k : Int) == 0) = false := beq_eq_false_iff_ne.2 (by omega)
          have c2 : (k == 0) = false := by simpa using c0
          clear c0
          go_wp2_with fail
          go_meet
          exact ⟨by rw [c2]; rfl, rfl⟩
      case rest =>
        obtain ⟨rfl, rfl⟩ := hcut
        generalize ((k == 0) && (bh || named)) = b1 at *
        go_upto_region 8 with fail
        go_cut [11] (fun s11 wx => s11 = .bool ((k + 1 == s.size) && bt) ∧ wx = wc)
        case first =>
          by_cases c0 : k + 1 = s.size
          · have c1 : ((k : Int) == (s.size : Int) - 1) = true := by simp; omega
            have c2 : (k + 1 == s.size) = true := by simp [c0]
            clear c0
            go_wp2_with (go_at_call 21; refine (HTail.out _).mono ?_; rintro e w' ⟨rfl, rfl⟩)
            go_meet
            exact ⟨by rw [c2]; rfl, rfl⟩
          · have c1 : ((k : Int) == (s.size : Int) - 1) = false := beq_eq_false_iff_ne.2 (by omega)
            have c2 : (k + 1 == s.size) = false := by simpa using c0
            clear c0
            go_wp2_with fail
            go_meet
            exact ⟨by rw [c2]; rfl, rfl⟩
        case rest =>
          obtain ⟨rfl, rfl⟩ := hcut
          generalize ((k + 1 == s.size) && bt) = b2 at *
          have e37 := Wh.byte_is ch 37 37 rfl
          go_upto_region 10 with fail
          go_cut [54] (fun s54 wx => s54 = .bool (ch == 37 || bf || b1 || b2) ∧ wx = wc)
          case first =>
            cases c1 : (ch == 37)
            · rw [c1] at e37
              cases bf
              · cases b1
                · go_wp2_with (go_at_call 21; refine (HForb.out _).mono ?_; rintro e w' ⟨rfl, rfl⟩)
                  go_meet
                  exact ⟨by rw [c1]; simp, rfl⟩
                · go_wp2_with (go_at_call 21; refine (HForb.out _).mono ?_; rintro e w' ⟨rfl, rfl⟩)
                  go_meet
                  exact ⟨by rw [c1]; simp, rfl⟩
              · go_wp2_with (go_at_call 21; refine (HForb.out _).mono ?_; rintro e w' ⟨rfl, rfl⟩)
                go_meet
                exact ⟨by rw [c1]; simp, rfl⟩
            · rw [c1] at e37
              go_wp2_with fail
              go_meet
              exact ⟨by rw [c1]; simp, rfl⟩
          case rest =>
            obtain ⟨rfl, rfl⟩ := hcut
            generalize hb3 : (ch == 37 || bf || b1 || b2) = b3 at *
            have HB3 := Lib.hid hb3
            clear hb3
            have hbz := hb.size
            have hol : out.length ≤ 765 := by
              have := Wh.encTo_length x named s.data.toList k
              rw [← HO.out, ← Lib.size_eq] at this
              omega
            cases b3
            · have e94 := Wh.byte_is ch 94 94 rfl
              go_upto_region 12 with fail
              go_cut [78] (fun s78 wx => s78 = .bool (Wh.markB x ch) ∧ wx = wc)
              case first =>
                have hm : Wh.markB x ch = (x.cs && (ch == 94 || (decide (65 ≤ ch.toNat) && decide (ch.toNat ≤ 90)))) := rfl
                have hM := Lib.hid hm
                clear hm
                have c00 : x.cs = false ∨ x.cs = true := by cases x.cs <;> simp
                rcases c00 with c0 | c0
                · rw [c0] at k5; replace c0 := Lib.hid c0
                  go_wp2_with fail
                  go_meet
                  exact ⟨by rw [hM.out, c0.out]; rfl, rfl⟩
                · rw [c0] at k5; replace c0 := Lib.hid c0
                  cases c1 : (ch == 94)
                  · rw [c1] at e94
                    by_cases c2 : 65 ≤ ch.toNat
                    · by_cases c3 : ch.toNat ≤ 90
                      · go_wp2_with fail
                        go_meet
                        exact ⟨by rw [hM.out, c0.out, c1]; simp [c2, c3]; try omega, rfl⟩
                      · go_wp2_with fail
                        go_meet
                        exact ⟨by rw [hM.out, c0.out, c1]; simp [c2, c3]; try omega, rfl⟩
                    · go_wp2_with fail
                      go_meet
                      exact ⟨by rw [hM.out, c0.out, c1]; simp [c2], rfl⟩
                  · rw [c1] at e94
                    go_wp2_with fail
                    go_meet
                    exact ⟨by rw [hM.out, c0.out, c1]; rfl, rfl⟩
              case rest =>
                obtain ⟨rfl, rfl⟩ := hcut
                have hE : Wh.encB x named (k == 0) (k + 1 == s.size) ch = if Wh.markB x ch then [94, Wh.small ch] else [ch] := by
                  unfold Wh.encB
                  rw [if_neg (by rw [HEsc.out]; simp)]
                cases hmk : Wh.markB x ch
                · rw [hmk] at hE
                  have HE := Lib.hid hE
                  clear hE
                  have hba : w2.heap.size ≤ (wc.alloc (.cells #[.int .u8 (ch.toNat : Int)] 5)).heap.size := by simp; omega
                  have HN := Lib.hid hba
                  clear hba
                  go_wp2_with (at_builtin; refine wpList_append_lies _ rfl (.tmp 50) (.tmp 52) 89 rfl w2.heap.size 5 i0 (.int .u8 0) 1 1 Tryz.underlying89 hi hz0 hz1 hz2 rfl (by decide) _ _ _ rfl (HW.out.alloc _) ⟨wc.heap.size, 0, none⟩ 1 1 [.int .u8 (ch.toNat : Int)] rfl rfl ?c1 ?c2 (by decide) ?c3 ?c4 ?c5 _ rfl ?_)
                  case c1 => exact World.news_of_block (heap_alloc_new wc _)
                  case c2 => simp [Value.oneCell']
                  case c3 => simp only [maxLen]; omega
                  case c4 => omega
                  case c5 => exact HN.out
                  intro g1 cap1 w4 hown hgrow hat hlt4
                  have hb4 : Below w2.heap.size w2 w4 := (hb.alloc hbz _).grown hgrow HN.out (fun kk hkk => own_base HW.out kk hkk)
                  have HO4 : Hid (out ++ [ch] = Wh.encTo x named s.data.toList (k + 1)) := Lib.hid (by rw [HStep.out, HE.out, ← HO.out]; rfl)
                  have HW4 := Lib.hid (app_row (news := [ch]) hown rfl rfl rfl)
                  clear hown hgrow hat hlt4
                  go_wp2_with fail
                  go_roundg g
                  case measure => omega
                  case rel => exact ⟨k + 1, out ++ [ch], _, cap1, by omega, by go_num, by simp, HW4.out, hb4, HO4⟩
                · rw [hmk] at hE
                  have HE := Lib.hid hE
                  clear hE
                  have HS := Lib.hid (fun W => small_any ch W)
                  have hba : w2.heap.size ≤ (wc.alloc (.cells #[.int .u8 94, .int .u8 ((Wh.small ch).toNat : Int)] 5)).heap.size := by simp; omega
                  have HN := Lib.hid hba
                  clear hba
                  go_wp2_with (first | (go_at_call 55; refine (HS.out _).mono ?_; rintro e w' ⟨rfl, hw'⟩; subst w') | (at_builtin; refine wpList_append_lies _ rfl (.tmp 93) (.tmp 96) 89 rfl w2.heap.size 5 i0 (.int .u8 0) 1 1 Tryz.underlying89 hi hz0 hz1 hz2 rfl (by decide) _ _ _ rfl (HW.out.alloc _) ⟨wc.heap.size, 0, none⟩ 2 2 [.int .u8 94, .int .u8 ((Wh.small ch).toNat : Int)] rfl rfl ?c1 ?c2 (by decide) ?c3 ?c4 ?c5 _ rfl ?_))
                  case c1 => exact World.news_of_block (heap_alloc_new wc _)
                  case c2 => simp [Value.oneCell']
                  case c3 => simp only [maxLen]; omega
                  case c4 => omega
                  case c5 => exact HN.out
                  intro g1 cap1 w4 hown hgrow hat hlt4
                  have hb4 : Below w2.heap.size w2 w4 := (hb.alloc hbz _).grown hgrow HN.out (fun kk hkk => own_base HW.out kk hkk)
                  have HO4 : Hid (out ++ [94, Wh.small ch] = Wh.encTo x named s.data.toList (k + 1)) := Lib.hid (by rw [HStep.out, HE.out, ← HO.out]; rfl)
                  have HW4 := Lib.hid (app_row (news := [94, Wh.small ch]) hown rfl rfl rfl)
                  clear hown hgrow hat hlt4
                  go_wp2_with fail
                  go_roundg g
                  case measure => omega
                  case rel => exact ⟨k + 1, out ++ [94, Wh.small ch], _, cap1, by omega, by go_num, by simp, HW4.out, hb4, HO4⟩
            · have hE : Wh.encB x named (k == 0) (k + 1 == s.size) ch = [37, Wh.hexd (ch.toNat / 16), Wh.hexd (ch.toNat % 16)] := by
                unfold Wh.encB
                rw [if_pos (by rw [HEsc.out])]
              have HE := Lib.hid hE
              clear hE
              go_wp2_with fail
              have q1 : (ch.toNat : Int) / 16 = ((ch.toNat / 16 : Nat) : Int) := by omega
              have q2 := and15 ch
              have q3 : ch.toNat / 16 < 16 := by omega
              have q4 : ch.toNat % 16 < 16 := by omega
              have q5 := hexd_get _ q3
              have q6 := hexd_get _ q4
              generalize ch.toNat / 16 = d1 at *
              generalize ch.toNat % 16 = d2 at *
              generalize Wh.hexd d1 = y1 at *
              generalize Wh.hexd d2 = y2 at *
              have q7 : (d1 : Int) < 16 := by omega
              have q8 : (d2 : Int) < 16 := by omega
              have h1 : ∀ u ∈ [Value.int .u8 37, Value.int .u8 (y1.toNat : Int), Value.int .u8 (y2.toNat : Int)], u.oneCell' = true := by simp [Value.oneCell']
              have h63 : out.length + 3 ≤ maxLen := by simp only [maxLen]; omega
              have hby : (out.length + 3) * 1 ≤ 140737488355328 := by omega
              have hba : w2.heap.size ≤ (wc.alloc (.cells #[.int .u8 37, .int .u8 (y1.toNat : Int), .int .u8 (y2.toNat : Int)] 5)).drew.heap.size := by simp; omega
              have hnw : (wc.alloc (.cells #[.int .u8 37, .int .u8 (y1.toNat : Int), .int .u8 (y2.toNat : Int)] 5)).drew.heap[wc.heap.size]? = some (.cells #[.int .u8 37, .int .u8 (y1.toNat : Int), .int .u8 (y2.toNat : Int)] 5) := heap_alloc_new wc _
              have how : (wc.alloc (.cells #[.int .u8 37, .int .u8 (y1.toNat : Int), .int .u8 (y2.toNat : Int)] 5)).drew.ownsRow w2.heap.size 5 1 (.slice a' out.length cap) out.length (out.map (fun b => Value.int .u8 b.toNat)) := HW.out.alloc _
              have hcs := World.news_of_block hnw
              have HN := Lib.hid (⟨h1, h63, hby, hba, how, hcs⟩ : _ ∧ _ ∧ _ ∧ _ ∧ _ ∧ _)
              clear h1 h63 hby hba how hcs hnw
              go_region_law ((refine step_append_lies _ (by rfl) (.tmp 69) (.tmp 76) 89 (by rfl) w2.heap.size 5 i0 (.int .u8 0) 1 1 Tryz.underlying89 hi hz0 hz1 hz2 rfl (by decide) (.slice a' out.length cap) out.length _ (by rfl) HN.out.2.2.2.2.1 ⟨wc.heap.size, 0, none⟩ 3 3 _ (by rfl) (by rfl) HN.out.2.2.2.2.2 HN.out.1 (by decide) HN.out.2.1 HN.out.2.2.1 HN.out.2.2.2.1 _ rfl ?_; intro g1 cap1 w4 hown hgrow hat hlt4))
              all_goals
                have hb4 : Below w2.heap.size w2 w4 := (undrew2 (hb.alloc hbz _)).grown hgrow HN.out.2.2.2.1 (fun kk hkk => own_base HW.out kk hkk)
                have HO4 : Hid (out ++ [37, y1, y2] = Wh.encTo x named s.data.toList (k + 1)) := Lib.hid (by rw [HStep.out, HE.out, ← HO.out])
                have HW4 := Lib.hid (app_row (news := [37, y1, y2]) hown rfl rfl rfl)
                clear hown hgrow hat hlt4
                go_wp2_with fail
                go_roundg g
                case measure => omega
                case rel => exact ⟨k + 1, out ++ [37, y1, y2], _, cap1, by omega, by go_num, by simp, HW4.out, hb4, HO4⟩
    · have HC := Lib.hid (conv_own HW.out)
      have HF : Hid (out = Wh.encName x s.data.toList) := Lib.hid (HO.out.trans (hend.out k (by rw [← Lib.size_eq]; omega)))
      have hco := HC.out
      go_wp2_with fail
      go_ret
      rw [HF.out]
      exact ⟨rfl, bTrans hb2 hb⟩
end Go.Proofs.YtikegddlbelfaaaGreatDoor
namespace Go.Proofs.YtikegddlbelfaaaGreatDoor
open Go.RowKit

/-- A block's first cells are these texts, and can be written. -/
def StrsAt (w : World) (b : Nat) (l : List ByteArray) : Prop := ∀ (j : Nat) (x : ByteArray), l[j]? = some x → w.cell? ⟨b, j, none⟩ = some (.string x) ∧ w.frozen? ⟨b, j, none⟩ = false

theorem StrsAt.set {w : World} {b k : Nat} {l : List ByteArray} (h : StrsAt w b l) (hk : k < l.length) (v : ByteArray) : StrsAt (w.setCell ⟨b, k, none⟩ (.string v)) b (l.set k v) := by
  intro j x hj
  obtain ⟨h1, h2⟩ := h k l[k] (List.getElem?_eq_getElem hk)
  by_cases e : k = j
  · subst e
    rw [List.getElem?_set_self (by simpa using hk)] at hj
    cases hj
    exact ⟨World.cell?_setCell_same _ _ _ h1, (World.frozen?_setCell ..).trans h2⟩
  · rw [List.getElem?_set_ne e] at hj
    obtain ⟨h3, h4⟩ := h j x hj
    exact ⟨(World.cell?_setCell_other _ _ _ _ (fun h => e (by injection h))).trans h3, (World.frozen?_setCell ..).trans h4⟩

theorem StrsAt.keep {w w' : World} {b B : Nat} {l : List ByteArray} (h : StrsAt w b l) (hb : Below B w w') (hB : b < B) : StrsAt w' b l := by
  intro j x hj
  obtain ⟨h1, h2⟩ := h j x hj
  exact ⟨(hb.cell (p := ⟨b, j, none⟩) hB).trans h1, (hb.frozen (p := ⟨b, j, none⟩) hB).trans h2⟩

theorem StrsAt.made (w : World) (t : TypeId) (n : Nat) : StrsAt (w.alloc (.cells (madeCells #[.string ByteArray.empty] n) t)) w.heap.size (List.replicate n ByteArray.empty) := by
  intro j x hj
  have hg := heap_alloc_new w (.cells (madeCells #[.string ByteArray.empty] n) t)
  obtain ⟨hjn, rfl⟩ : j < n ∧ ByteArray.empty = x := by
    rw [List.getElem?_replicate] at hj
    split at hj
    · exact ⟨by assumption, by simpa using hj⟩
    · simp at hj
  refine ⟨?_, ?_⟩
  · simp only [World.cell?, hg]
    rw [← Array.getElem?_toList, toList_madeCells_one, List.getElem?_replicate, if_pos hjn]
    rfl
  · simp only [World.frozen?, hg]
    simp

theorem StrsAt.holds {w : World} {b : Nat} {l : List ByteArray} (h : StrsAt w b l) (hb : b < w.heap.size) : Holds w (some ⟨b, 0, none⟩) (l.map Value.string) := by
  refine .inr ⟨b, 0, rfl, hb, fun j u hu => ?_⟩
  rw [Nat.zero_add]
  rw [List.getElem?_map] at hu
  cases hj : l[j]? with
  | none => rw [hj] at hu; simp at hu
  | some x =>
    rw [hj] at hu
    obtain rfl : Value.string x = u := by simpa using hu
    exact (h j x hj).1

/-- What is done, and what is still empty. -/
def part (ys : List ByteArray) (k : Nat) : List ByteArray := ys.take k ++ List.replicate (ys.length - k) ByteArray.empty

theorem part_zero (ys : List ByteArray) : part ys 0 = List.replicate ys.length ByteArray.empty := by simp [part]
theorem part_end (ys : List ByteArray) {k : Nat} (h : k = ys.length) : part ys k = ys := by subst h; simp [part]
theorem part_length (ys : List ByteArray) {k : Nat} (h : k ≤ ys.length) : (part ys k).length = ys.length := by simp [part]; omega
theorem part_set {ys : List ByteArray} {k : Nat} {y : ByteArray} (h : ys[k]? = some y) : (part ys k).set k y = part ys (k + 1) := by
  have hk := (List.getElem?_eq_some_iff.1 h).1
  unfold part
  have e : (ys.take k).length = k := by rw [List.length_take]; omega
  obtain ⟨m, hm⟩ : ∃ m, ys.length - k = m + 1 := ⟨ys.length - k - 1, by omega⟩
  have hm2 : ys.length - (k + 1) = m := by omega
  rw [hm, hm2, List.replicate_succ, List.set_append_right _ _ (by omega), e, Nat.sub_self, List.set_cons_zero, List.take_add_one, h, Option.toList_some, List.append_assoc]
  rfl
theorem part_get {ys : List ByteArray} {k : Nat} (h : k < ys.length) : (part ys k)[k]? = some ByteArray.empty := by
  unfold part
  have e : (ys.take k).length = k := by rw [List.length_take]; omega
  rw [List.getElem?_append_right (by omega), e, List.getElem?_replicate, if_pos (by omega)]

set_option maxHeartbeats 4000000 in
set_option maxRecDepth 100000 in
theorem encodePath_any (x : Wh.Enc) (a : Option Addr) (c : Nat) (s : ByteArray) (w : World) (hE : Env w) (hX : EncOk x a w) (he : Wh.encErr x = 0) (hp : Wh.isPath s.data.toList = true) :
    Calls Tryz.prog 27 #[encVal x a c, .string s] w fun e w' => e = .returned (.tuple #[.string (Wh.encText x s), .int .i64 (Wh.encErrP x s)]) ∧ Below w.heap.size w w' := by
  obtain ⟨hfo, hn0, hm3, hm255⟩ := Wh.encErr_zero he
  have hS := Wh.sorted_of hn0
  have hsz := Wh.path_size hp
  have hnl := Wh.namesOf_le s
  have hyl := Wh.encsOf_length x s
  have HNm := Lib.hid (fun n (hn : n ∈ Wh.namesOf s) => show n.size ≤ 255 by
    have := List.all_eq_true.1 (Wh.namesOf_names hp) n hn
    rw [Lib.size_eq]
    exact Wh.name_size this)
  have HEn := Lib.hid (fun n W (hb : Below w.heap.size w W) hn => encodeName_any x a c n W (hX.under hb) hn hS)
  have HSp := Lib.hid (fun W (hb : Below w.heap.size w W) => split_any s W (hE.under hb) (by omega))
  have hmk := fun W => run_make_row' (P := Tryz.prog) 22 9 (.string ByteArray.empty) 16 Tryz.underlying22 info_str rfl .i64 .i64 (Wh.namesOf s).length (by omega) (by omega) W
  have HB := Lib.hid (encBox_new w 24 x a c)
  have HG := Lib.hid (fun n k (h : (Wh.namesOf s)[k]? = some n) => Wh.encsOf_at (x := x) h)
  have HL := Lib.hid (fun e (he : e ∈ Wh.encsOf x s) h => Wh.encP_long (x := x) (s := s) he h)
  have HBig := Lib.hid (fun h => Wh.encP_big (x := x) (s := s) h)
  have HGood := Lib.hid (fun h0 h => Wh.encP_good (x := x) (s := s) h0 h)
  have HJl := Lib.hid (fun h => Wh.encJoin_len (x := x) (s := s) h)
  have hj0 : Wh.encJoin x s = Lib.join ((Wh.encsOf x s).map (·.data.toList)) [47] := rfl
  have HJ0 := Lib.hid hj0
  clear hfo hj0 hn0 hS hE hX he hp
  generalize Wh.encsOf x s = ys at *
  generalize Wh.encText x s = T at *
  generalize Wh.encErrP x s = E at *
  generalize Wh.encJoin x s = J at *
  unfold encVal at *
  have hb1 : Below w.heap.size w (w.alloc (.cells #[.string x.forbid, .string x.head, .string x.tail, .slice a x.names.length c, .bool x.cs, .int .i64 x.max] 24)) := bAlloc (Below.refl _ _) _
  go_enter Tryz.func27, Tryz.ntmps27
  go_wp2_with fail
  generalize w.alloc (.cells #[.string x.forbid, .string x.head, .string x.tail, .slice a x.names.length c, .bool x.cs, .int .i64 x.max] 24) = w1 at *
  refine (HSp.out _ hb1).mono ?_
  rintro e w2 ⟨a1, c1, rfl, hc1, hH, hb2⟩
  have HH := Lib.hid hH
  have HB2 := Lib.hid (HB.out.under hb2)
  have hb12 := bTrans hb1 hb2
  clear hH HB hb1 hb2 HSp
  generalize Wh.namesOf s = ns at *
  go_wp2_with fail
  have hA := StrsAt.made w2 9 ns.length
  have hbA : Below w2.heap.size w2 (w2.alloc (.cells (madeCells #[.string ByteArray.empty] ns.length) 9)) := bAlloc (Below.refl _ _) _
  have hA2 : w2.heap.size < (w2.alloc (.cells (madeCells #[.string ByteArray.empty] ns.length) 9)).heap.size := by simp
  rw [← hyl, ← part_zero] at hA
  rw [hyl] at hA
  have HA := Lib.hid hA
  clear hA hmk
  generalize w2.alloc (.cells (madeCells #[.string ByteArray.empty] ns.length) 9) = w3 at *
  go_loopg [18] ns.length (fun g s18 wx => ∃ k : Nat, k + g = ns.length ∧ s18 = .int .i64 k ∧ Below w2.heap.size w2 wx ∧ w2.heap.size < wx.heap.size ∧ Hid (StrsAt wx w2.heap.size (part ys k)) ∧ Hid (∀ (j : Nat) (e : ByteArray), j < k → ys[j]? = some e → Wh.longB x e = false))
  case atStart => exact ⟨0, by omega, rfl, hbA, hA2, HA, Lib.hid (fun j e hj => absurd hj (by omega))⟩
  case round =>
    clear hbA hA2 HA
    obtain ⟨k, hk, rfl, hb, hlt2, HSt, HLo⟩ := hrel
    by_cases hlt : k < ns.length
    · obtain ⟨g, rfl⟩ : ∃ g, gk = g + 1 := ⟨gk - 1, by omega⟩
      obtain ⟨n, hn⟩ : ∃ n, ns[k]? = some n := ⟨_, List.getElem?_eq_getElem hlt⟩
      obtain ⟨ba, off, ha, hba, hca⟩ := (HH.out.under hb).at (k := k) (u := .string n) (by simp [hn])
      have Hn := Lib.hid hn
      have Hy := Lib.hid (HG.out n k hn)
      have HEx := Lib.hid (HEn.out n wr (bTrans hb12 hb) (HNm.out n (List.mem_of_getElem? hn)))
      clear hn
      subst ha
      generalize (⟨(Wh.encName x n.data.toList).toArray⟩ : ByteArray) = y at *
      obtain ⟨k0, k1, k2, k3, k4, k5, k6⟩ := HB2.out.under hb
      go_wp2_with fail
      refine HEx.out.mono ?_
      rintro e w4 ⟨rfl, hb4⟩
      have hS4 := HSt.out.keep hb4 hlt2
      obtain ⟨hc4, hf4⟩ := hS4 k _ (part_get (by omega))
      have hS5 : StrsAt (w4.setCell ⟨w2.heap.size, k, none⟩ (.string y)) w2.heap.size (part ys (k + 1)) := by
        rw [← part_set Hy.out]
        exact hS4.set (by rw [part_length _ (by omega)]; omega) y
      have hc5 : (w4.setCell ⟨w2.heap.size, k, none⟩ (.string y)).cell? ⟨w2.heap.size, k, none⟩ = some (.string y) := World.cell?_setCell_same _ _ _ hc4
      have hb5 : Below w2.heap.size w2 (w4.setCell ⟨w2.heap.size, k, none⟩ (.string y)) := Below.setCell (p := ⟨w2.heap.size, k, none⟩) (hb.trans (hb4.mono (by omega))) (Nat.le_refl _) _
      have hz5 : w2.heap.size < (w4.setCell ⟨w2.heap.size, k, none⟩ (.string y)).heap.size := by
        have := hb4.size
        simp
        omega
      have HC5 := Lib.hid hc5
      have HS5 := Lib.hid hS5
      clear k0 k1 k2 k3 k4 k5 k6 hca hS4 hS5 hc5
      go_upto_region 7 with fail
      generalize w4.setCell ⟨w2.heap.size, k, none⟩ (.string y) = w5 at *
      obtain ⟨k0, k1, k2, k3, k4, k5, k6⟩ := HB2.out.under hb5
      clear k0 k1 k2 k3 k4 k5
      have hc5 := HC5.out
      go_quiet (fail)
      have hb6 : Below w2.heap.size w2 (w5.drewN nq) := ⟨hb5.os, hb5.tape, hb5.output, hb5.size, hb5.block⟩
      have hz6 : w2.heap.size < (w5.drewN nq).heap.size := hz5
      have HS6 : Hid (StrsAt (w5.drewN nq) w2.heap.size (part ys (k + 1))) := Lib.hid (fun j u hj => HS5.out j u hj)
      clear hc5 k6 hb5 hz5 HS5 HC5
      generalize w5.drewN nq = w6 at *
      have hlg0 : Wh.longB x y = decide (x.max < (y.size : Int)) := rfl
      have HLG := Lib.hid hlg0
      clear hlg0
      cases hlg : decide (x.max < (y.size : Int))
      · rw [hlg] at HLG
        have HLo2 : Hid (∀ (j : Nat) (e : ByteArray), j < k + 1 → ys[j]? = some e → Wh.longB x e = false) := Lib.hid (fun j e hj hje => by
          rcases Nat.lt_or_ge j k with h1 | h1
          · exact HLo.out j e h1 hje
          · obtain rfl : j = k := by omega
            rw [Hy.out] at hje
            cases hje
            exact HLG.out)
        clear hlg
        go_wp2_with fail
        go_roundg g
        case measure => omega
        case rel => exact ⟨k + 1, by omega, by go_num, hb6, hz6, HS6, HLo2⟩
      · rw [hlg] at HLG
        have HF := Lib.hid (HL.out y (List.mem_of_getElem? Hy.out) HLG.out)
        clear hlg
        go_wp2_with fail
        go_ret2
        rw [HF.out.1, HF.out.2]
        exact ⟨rfl, bTrans hb12 hb6⟩
    · obtain rfl : k = ns.length := by omega
      have hSt := HSt.out
      rw [part_end ys hyl.symm] at hSt
      have HLa : Hid (∀ e ∈ ys, Wh.longB x e = false) := Lib.hid (fun e he => by
        obtain ⟨j, hj⟩ := List.mem_iff_getElem?.1 he
        exact HLo.out j e (by have := (List.getElem?_eq_some_iff.1 hj).1; omega) hj)
      have hjl := HJl.out (fun e he => by
        have h1 := HLa.out e he
        have h2 : ¬ (x.max < (e.size : Int)) := by simpa [Wh.longB] using h1
        omega)
      have hJo := join_any (some ⟨w2.heap.size, 0, none⟩) ns.length ys ⟨#[47]⟩ wr (hSt.holds hlt2) (by omega) (by omega) (by have := HJ0.out; rw [show (⟨#[47]⟩ : ByteArray).data.toList = [47] from rfl, ← this]; omega)
      rw [show (⟨#[47]⟩ : ByteArray).data.toList = [47] from rfl, ← HJ0.out, hyl] at hJo
      have HJo := Lib.hid hJo
      clear hJo hSt
      have HG2 := Lib.hid (fun h => HGood.out HLa.out h)
      go_wp2_with fail
      refine HJo.out.mono ?_
      rintro e w4 ⟨rfl, hb4⟩
      have hsJ : (⟨J.toArray⟩ : ByteArray).size = J.length := by simp [ByteArray.size]
      have HsJ := Lib.hid hsJ
      clear hsJ
      by_cases hbig : 1024 < J.length
      · have HF := Lib.hid (HBig.out hbig)
        have hg : (1024 : Int) < ((⟨J.toArray⟩ : ByteArray).size : Int) := by rw [HsJ.out]; omega
        generalize (⟨J.toArray⟩ : ByteArray) = jt at *
        go_wp2_with fail
        go_ret2
        rw [HF.out.1, HF.out.2]
        exact ⟨rfl, bTrans (bTrans hb12 hb) hb4⟩
      · have HF := Lib.hid (HG2.out hbig)
        have hg : ¬ (1024 : Int) < ((⟨J.toArray⟩ : ByteArray).size : Int) := by rw [HsJ.out]; omega
        generalize (⟨J.toArray⟩ : ByteArray) = jt at *
        go_wp2_with fail
        go_ret2
        rw [HF.out.1, HF.out.2]
        exact ⟨rfl, bTrans (bTrans hb12 hb) hb4⟩
end Go.Proofs.YtikegddlbelfaaaGreatDoor
namespace Go.Proofs.YtikegddlbelfaaaGreatDoor
open Go.RowKit

/-- What names.Encode says. -/
def encCode (x : Wh.Enc) (s : ByteArray) : Int := if Wh.encErr x ≠ 0 then Wh.encErr x else if Wh.pathErr s.data.toList ≠ 0 then 1 else Wh.encErrP x s
def encGives (x : Wh.Enc) (s : ByteArray) : ByteArray := if encCode x s = 0 then Wh.encText x s else ⟨#[]⟩

set_option maxHeartbeats 1000000 in
set_option maxRecDepth 100000 in
theorem encode_any (x : Wh.Enc) (a : Option Addr) (c : Nat) (s : ByteArray) (w : World) (hE : Env w) (hX : EncOk x a w) (hs : s.size ≤ 9223372036854775807) :
    Calls Tryz.prog 9 #[encVal x a c, .string s] w fun e w' => e = .returned (.tuple #[.string (encGives x s), .int .i64 (encCode x s)]) ∧ Below w.heap.size w w' := by
  by_cases he : Wh.encErr x = 0
  · have HC := Lib.hid (fun W (hb : Below w.heap.size w W) => checkEnc x a c W (hE.under hb) (hX.under hb))
    have HP := Lib.hid (fun W (hb : Below w.heap.size w W) => check_any s W (hE.under hb) hs)
    have HB := Lib.hid (encBox_new w 24 x a c)
    rcases Wh.pathErr_cases s.data.toList with hp | hp
    · have hcode : encCode x s = 1 := by simp [encCode, he, hp]
      have hgive : encGives x s = ⟨#[]⟩ := by simp [encGives, hcode]
      rw [hcode, hgive]
      rw [hp] at HP
      rw [he] at HC
      clear hcode hgive hE hX he hp
      unfold encVal at *
      have hb0 : Below w.heap.size w (w.alloc (.cells #[.string x.forbid, .string x.head, .string x.tail, .slice a x.names.length c, .bool x.cs, .int .i64 x.max] 24)) := bAlloc (Below.refl _ _) _
      go_enter Tryz.func9, Tryz.ntmps9
      go_wp2_with fail
      refine (HC.out _ hb0).mono ?_
      rintro e w1 ⟨rfl, hb1⟩
      go_wp2_with fail
      refine (HP.out _ (bTrans hb0 hb1)).mono ?_
      rintro e w2 ⟨rfl, hb2⟩
      go_wp2_with fail
      go_ret2
      exact ⟨rfl, bTrans (bTrans hb0 hb1) hb2⟩
    · have hpa := Wh.pathErr_zero hp
      have hcode : encCode x s = Wh.encErrP x s := by simp [encCode, he, hp]
      have hgive : encGives x s = Wh.encText x s := by
        unfold encGives
        rw [hcode]
        split
        · rfl
        · rename_i h
          simp [Wh.encText, h]
      rw [hcode, hgive]
      have HEP := Lib.hid (fun W (hb : Below w.heap.size w W) => encodePath_any x a c s W (hE.under hb) (hX.under hb) he hpa)
      rw [hp] at HP
      rw [he] at HC
      clear hcode hgive hE hX he hp hpa
      generalize Wh.encErrP x s = E at *
      generalize Wh.encText x s = T at *
      unfold encVal at *
      have hb0 : Below w.heap.size w (w.alloc (.cells #[.string x.forbid, .string x.head, .string x.tail, .slice a x.names.length c, .bool x.cs, .int .i64 x.max] 24)) := bAlloc (Below.refl _ _) _
      go_enter Tryz.func9, Tryz.ntmps9
      go_wp2_with fail
      refine (HC.out _ hb0).mono ?_
      rintro e w1 ⟨rfl, hb1⟩
      go_wp2_with fail
      refine (HP.out _ (bTrans hb0 hb1)).mono ?_
      rintro e w2 ⟨rfl, hb2⟩
      generalize w.alloc (.cells #[.string x.forbid, .string x.head, .string x.tail, .slice a x.names.length c, .bool x.cs, .int .i64 x.max] 24) = w0 at *
      obtain ⟨k0, k1, k2, k3, k4, k5, k6⟩ := (HB.out.under hb1).under hb2
      go_wp2_with fail
      refine (HEP.out _ (bTrans (bTrans hb0 hb1) hb2)).mono ?_
      rintro e w3 ⟨rfl, hb3⟩
      go_wp2_with fail
      go_ret2
      exact ⟨rfl, bTrans (bTrans (bTrans hb0 hb1) hb2) hb3⟩
  · have hcode : encCode x s = Wh.encErr x := by simp [encCode, he]
    have hgive : encGives x s = ⟨#[]⟩ := by simp [encGives, hcode, he]
    rw [hcode, hgive]
    exact encode_bad x a c s w hE hX he

theorem code_zero {x : Wh.Enc} {s : ByteArray} (h : encCode x s = 0) : Wh.encErrP x s = 0 ∧ encGives x s = Wh.encText x s ∧ (Wh.encText x s).size ≤ 1024 := by
  have hg : encGives x s = Wh.encText x s := by simp [encGives, h]
  unfold encCode at h
  split at h
  · rename_i h1
    exact absurd h h1
  · split at h
    · omega
    · refine ⟨h, hg, ?_⟩
      unfold Wh.encErrP at h
      split at h
      · omega
      · split at h
        · omega
        · rename_i h1 h2
          have h3 := (Wh.encP_good (x := x) (s := s) (fun e he => by
            cases hq : Wh.longB x e
            · rfl
            · exact absurd (List.any_eq_true.2 ⟨e, he, hq⟩) h1) h2).2
          rw [h3]
          simp [ByteArray.size]
          omega

end Go.Proofs.YtikegddlbelfaaaGreatDoor
namespace Go.Proofs.YtikegddlbelfaaaGreatDoor
open Go.RowKit

theorem or_hex (p q : Int) (hp : ¬ p < 0) (hp2 : p < 16) (hq : ¬ q < 0) (hq2 : q < 16) : bits BinOp.or IntKind.i64 (p * 16) q % 256 = ((UInt8.ofNat (p.toNat * 16 + q.toNat)).toNat : Int) := by
  have h : ∀ a b : Fin 16, bits BinOp.or IntKind.i64 ((a.1 : Int) * 16) (b.1 : Int) % 256 = ((UInt8.ofNat (((a.1 : Int)).toNat * 16 + ((b.1 : Int)).toNat)).toNat : Int) := by decide +kernel
  have := h ⟨p.toNat, by omega⟩ ⟨q.toNat, by omega⟩
  have e1 : ((p.toNat : Nat) : Int) = p := by omega
  have e2 : ((q.toNat : Nat) : Int) = q := by omega
  simp only [e1, e2] at this
  exact this

theorem great_nat (d : UInt8) (h1 : 97 ≤ d.toNat) (h2 : d.toNat ≤ 122) : (d.toNat : Int) - 97 + 65 = ((Wh.great d).toNat : Int) := by
  unfold Wh.great
  rw [if_pos ⟨h1, h2⟩, UInt8.toNat_sub]
  have : (32 : UInt8).toNat = 32 := rfl
  omega
theorem great_same (d : UInt8) (h : ¬ (97 ≤ d.toNat ∧ d.toNat ≤ 122)) : Wh.great d = d := by
  unfold Wh.great
  rw [if_neg h]

theorem drop_at {s : ByteArray} {k : Nat} (h : k < s.size) {c : UInt8} (hc : s[k]'h = c) : s.data.toList.drop k = c :: s.data.toList.drop (k + 1) := by
  have hcl : s.data.toList[k]? = some c := by rw [← hc]; exact Lib.data_getElem? s k h
  have hh := List.getElem?_eq_some_iff.1 hcl
  rw [List.drop_eq_getElem_cons hh.1, hh.2]
theorem drop_end {s : ByteArray} {k : Nat} (h : s.size ≤ k) : s.data.toList.drop k = [] := by
  rw [List.drop_eq_nil_of_le]
  rw [← Lib.size_eq]
  exact h
theorem drop_len (s : ByteArray) (k : Nat) : (s.data.toList.drop k).length = s.size - k := by
  rw [List.length_drop, ← Lib.size_eq]
theorem map_app (o : Option (List UInt8)) (c : UInt8) (l : List UInt8) : (o.map (c :: ·)).map (l ++ ·) = o.map ((l ++ [c]) ++ ·) := by
  cases o <;> simp

theorem indexHex (c : UInt8) (w : World) :
    Calls Tryz.prog 54 #[.string ⟨#[48, 49, 50, 51, 52, 53, 54, 55, 56, 57, 65, 66, 67, 68, 69, 70]⟩, .int .u8 (c.toNat : Int)] w fun e w' => e = .returned (.int .i64 (Wh.hx c)) ∧ w' = w := by
  have h := Tryz.strings_IndexByte ⟨#[48, 49, 50, 51, 52, 53, 54, 55, 56, 57, 65, 66, 67, 68, 69, 70]⟩ (c.toNat : Int) w
  have e : ((c.toNat : Int).toNat.toUInt8) = c := by simp
  rw [e] at h
  exact h

set_option maxHeartbeats 2000000 in
set_option maxRecDepth 100000 in
theorem decodeName_any (x : Wh.Enc) (a : Option Addr) (c : Nat) (s : ByteArray) (w : World) (hs : s.size ≤ 1024) :
    Calls Tryz.prog 40 #[encVal x a c, .string s] w fun e w' => e = .returned (.tuple #[.string ⟨((Wh.decS x.cs s.data.toList).getD []).toArray⟩, .bool (Wh.decS x.cs s.data.toList).isSome]) ∧ Below w.heap.size w w' := by
  unfold encVal
  have HX := Lib.hid (encBox_new w 24 x a c)
  have hb1 : Below w.heap.size w (w.alloc (.cells #[.string x.forbid, .string x.head, .string x.tail, .slice a x.names.length c, .bool x.cs, .int .i64 x.max] 24)) := bAlloc (Below.refl _ _) _
  generalize hR : Wh.decS x.cs s.data.toList = R
  have HR := Lib.hid hR
  clear hR
  go_enter Tryz.func40, Tryz.ntmps40
  go_wp2_with fail
  generalize w.alloc (.cells #[.string x.forbid, .string x.head, .string x.tail, .slice a x.names.length c, .bool x.cs, .int .i64 x.max] 24) = w1 at *
  go_loopg [6, 7] s.size (fun g s6 s7 wx => ∃ (k : Nat) (out : List UInt8) (a' : Option Addr) (cap : Nat), k + g = s.size ∧ s7 = .int .i64 k ∧ s6 = .slice a' out.length cap ∧ out.length ≤ k ∧
    Hid (OwnB w1 wx a' cap out) ∧ Hid (R = (Wh.decS x.cs (s.data.toList.drop k)).map (out ++ ·)))
  case atStart => exact ⟨0, [], none, 0, by omega, rfl, rfl, by simp, Lib.hid (OwnB.nil (Below.refl _ _)), Lib.hid (by rw [← HR.out]; simp)⟩
  case round =>
    obtain ⟨k, out, a', cap, hk, rfl, rfl, hol, HW, HO⟩ := hrel
    by_cases hlt : k < s.size
    · obtain ⟨g, rfl⟩ : ∃ g, gk = g + 1 := ⟨gk - 1, by omega⟩
      obtain ⟨ch, hch⟩ : ∃ ch : UInt8, s[k]'hlt = ch := ⟨_, rfl⟩
      rw [drop_at hlt hch] at HO
      have hc8 := ch.toNat_lt
      have hl1 : out.length + 1 ≤ 140737488355328 := by omega
      obtain ⟨k0, k1, k2, k3, k4, k5, k6⟩ := HX.out.under HW.out.below
      clear k0 k1 k2 k3 k4 k6
      have e37 := Wh.byte_is ch 37 37 rfl
      have e94 := Wh.byte_is ch 94 94 rfl
      cases c1 : (ch == 37)
      · rw [c1] at e37
        have c00 : x.cs = false ∨ x.cs = true := by cases x.cs <;> simp
        have HP1 : (x.cs && ch == 94) = false → Hid (R = (Wh.decS x.cs (s.data.toList.drop (k + 1))).map ((out ++ [ch]) ++ ·)) := fun hh => Lib.hid (by
          rw [HO.out, Wh.decS_one c1 hh]
          exact map_app _ _ _)
        rcases c00 with c0 | c0
        · have HP := HP1 (by rw [c0]; rfl)
          rw [c0] at k5; replace c0 := Lib.hid c0
          clear HP1
          go_wp2_with (at_builtin; refine wp_app1B HW.out ch hl1 rfl (.tmp 21) (.tmp 23) rfl rfl rfl ?_)
          intro a2 cap2 w6 hO6
          have HO6 := Lib.hid hO6
          clear hO6
          go_wp2_with fail
          go_roundg g
          case measure => omega
          case rel => exact ⟨k + 1, out ++ [ch], a2, cap2, by omega, by go_num, by simp, by simp; omega, HO6, HP⟩
        · cases c2 : (ch == 94)
          · have HP := HP1 (by rw [c2, Bool.and_false])
            rw [c0] at k5; replace c0 := Lib.hid c0
            rw [c2] at e94
            clear HP1
            go_wp2_with (at_builtin; refine wp_app1B HW.out ch hl1 rfl (.tmp 21) (.tmp 23) rfl rfl rfl ?_)
            intro a2 cap2 w6 hO6
            have HO6 := Lib.hid hO6
            clear hO6
            go_wp2_with fail
            go_roundg g
            case measure => omega
            case rel => exact ⟨k + 1, out ++ [ch], a2, cap2, by omega, by go_num, by simp, by simp; omega, HO6, HP⟩
          · rw [c2] at e94
            have c3 := beq_iff_eq.1 c2
            by_cases hk1 : k + 1 < s.size
            · obtain ⟨d, hd⟩ : ∃ d : UInt8, s[k + 1]'(by omega) = d := ⟨_, rfl⟩
              have hd8 := d.toNat_lt
              have HP : Hid (R = (Wh.decS x.cs (s.data.toList.drop (k + 2))).map ((out ++ [Wh.great d]) ++ ·)) := Lib.hid (by
                rw [HO.out, c3, drop_at (by omega) hd, Wh.decS_mark c0]
                exact map_app _ _ _)
              rw [c0] at k5; replace c0 := Lib.hid c0
              clear HP1 c3
              by_cases hg : 97 ≤ d.toNat ∧ d.toNat ≤ 122
              · obtain ⟨hg1, hg2⟩ := hg
                have hgn := great_nat d hg1 hg2
                generalize Wh.great d = b at *
                go_wp2_with (at_builtin; refine wp_app1B HW.out b hl1 rfl (.tmp 82) (.tmp 86) rfl rfl rfl ?_)
                intro a2 cap2 w6 hO6
                have HO6 := Lib.hid hO6
                clear hO6 hgn
                go_wp2_with fail
                go_roundg (g - 1)
                case measure => omega
                case rel => exact ⟨k + 2, out ++ [b], a2, cap2, by omega, by go_num, by simp, by simp; omega, HO6, HP⟩
              · rw [great_same d hg] at HP
                by_cases hg1 : 97 ≤ d.toNat
                all_goals
                  have hg2 : ¬ (97 ≤ d.toNat ∧ d.toNat ≤ 122) := hg
                  clear hg
                  go_wp2_with (at_builtin; refine wp_app1B HW.out d hl1 rfl (.tmp 88) (.tmp 90) rfl rfl rfl ?_)
                  intro a2 cap2 w6 hO6
                  have HO6 := Lib.hid hO6
                  clear hO6
                  go_wp2_with fail
                  go_roundg (g - 1)
                  case measure => omega
                  case rel => exact ⟨k + 2, out ++ [d], a2, cap2, by omega, by go_num, by simp, by simp; omega, HO6, HP⟩
            · have hR : R = none := by
                rw [HO.out, c3, drop_end (by omega), Wh.decS_lone c0]
                rfl
              have HF := Lib.hid hR
              rw [c0] at k5; replace c0 := Lib.hid c0
              clear hR c3 HP1
              go_wp2_with fail
              go_ret2
              rw [HF.out]
              exact ⟨rfl, bTrans hb1 HW.out.below⟩
      · rw [c1] at e37
        by_cases hk2 : k + 2 < s.size
        · obtain ⟨d, hd⟩ : ∃ d : UInt8, s[k + 1]'(by omega) = d := ⟨_, rfl⟩
          obtain ⟨e, he⟩ : ∃ e : UInt8, s[k + 2]'(by omega) = e := ⟨_, rfl⟩
          go_wp2_with fail
          have i1 : IntKind.i64.wrap ((k : Int) + 1) = (k : Int) + 1 := IntWalk.i64_in _ (by omega)
          have i2 : IntKind.i64.wrap ((k : Int) + 2) = (k : Int) + 2 := IntWalk.i64_in _ (by omega)
          have i3 : (0 : Int) ≤ (k : Int) + 1 := by omega
          have i4 : (0 : Int) ≤ (k : Int) + 2 := by omega
          have i5 : (k : Int) + 1 < s.size := by omega
          have i6 : (k : Int) + 2 < s.size := by omega
          have i7 : ((k : Int) + 1).toNat = k + 1 := by omega
          have i8 : ((k : Int) + 2).toNat = k + 2 := by omega
          go_quiet ((go_at_call 54; exact Calls.quiet_of_same (indexHex _ _)))
          clear i1 i2 i3 i4 i5 i6 i7 i8
          have HW5 := Lib.hid (OwnB.under HW.out (w' := wr.drewN nq) ⟨rfl, rfl, rfl, Nat.le_refl _, fun _ _ => rfl⟩)
          generalize wr.drewN nq = w5 at *
          have hd0 := Wh.hx_bound d
          have he0 := Wh.hx_bound e
          have HP : Hid (R = if Wh.hx d < 0 ∨ Wh.hx e < 0 then none else (Wh.decS x.cs (s.data.toList.drop (k + 3))).map ((out ++ [Wh.hx2 d e]) ++ ·)) := Lib.hid (by
            rw [HO.out, beq_iff_eq.1 c1, drop_at (by omega) hd, drop_at (by omega) he, Wh.decS_pct]
            split
            · rfl
            · exact map_app _ _ _)
          have h2 : Wh.hx2 d e = UInt8.ofNat ((Wh.hx d).toNat * 16 + (Wh.hx e).toNat) := rfl
          have H2 := Lib.hid h2
          clear h2
          generalize Wh.hx2 d e = b at *
          generalize Wh.hx d = p at *
          generalize Wh.hx e = q at *
          by_cases hp : p < 0
          · have hR : R = none := by rw [HP.out, if_pos (.inl hp)]
            have HF := Lib.hid hR
            clear hR
            go_wp2_with fail
            go_ret2
            rw [HF.out]
            exact ⟨rfl, bTrans hb1 HW5.out.below⟩
          · by_cases hq : q < 0
            · have hR : R = none := by rw [HP.out, if_pos (.inr hq)]
              have HF := Lib.hid hR
              clear hR
              go_wp2_with fail
              go_ret2
              rw [HF.out]
              exact ⟨rfl, bTrans hb1 HW5.out.below⟩
            · have hR : R = (Wh.decS x.cs (s.data.toList.drop (k + 3))).map ((out ++ [b]) ++ ·) := by rw [HP.out, if_neg (by omega)]
              have HF := Lib.hid hR
              clear hR
              have hbo := or_hex p q hp hd0.2 hq he0.2
              rw [← H2.out] at hbo
              go_wp2_with (at_builtin; refine wp_app1B HW5.out b hl1 rfl (.tmp 49) (.tmp 55) rfl rfl rfl ?_)
              intro a2 cap2 w6 hO6
              have HO6 := Lib.hid hO6
              clear hO6 hbo
              go_wp2_with fail
              go_roundg (g - 2)
              case measure => omega
              case rel => exact ⟨k + 3, out ++ [b], a2, cap2, by omega, by go_num, by simp, by simp; omega, HO6, HF⟩
        · have hR : R = none := by
            rw [HO.out, beq_iff_eq.1 c1, Wh.decS_short _ (by rw [drop_len]; omega)]
            rfl
          have HF := Lib.hid hR
          clear hR
          go_wp2_with fail
          go_ret2
          rw [HF.out]
          exact ⟨rfl, bTrans hb1 HW.out.below⟩
    · have hco := convB HW.out
      have hR : R = some out := by
        rw [HO.out, drop_end (by omega), Wh.decS_nil]
        simp
      have HF := Lib.hid hR
      clear hR
      go_wp2_with fail
      go_ret2
      rw [HF.out]
      exact ⟨rfl, bTrans hb1 HW.out.below⟩
end Go.Proofs.YtikegddlbelfaaaGreatDoor
namespace Go.Proofs.YtikegddlbelfaaaGreatDoor
open Go.RowKit

/-- A slice of texts that may be written, in a block of its own. -/
def SlotsAt (B : Nat) (w : World) (a : Option Addr) (l : List ByteArray) : Prop := l = [] ∨ ∃ b, a = some ⟨b, 0, none⟩ ∧ B ≤ b ∧ b < w.heap.size ∧ StrsAt w b l

theorem SlotsAt.under {B : Nat} {w w' : World} {a : Option Addr} {l : List ByteArray} (h : SlotsAt B w a l) (hb : Below w.heap.size w w') : SlotsAt B w' a l := by
  rcases h with h | ⟨b, ha, hB, hlt, hS⟩
  · exact .inl h
  · exact .inr ⟨b, ha, hB, Nat.lt_of_lt_of_le hlt hb.size, hS.keep hb hlt⟩

theorem SlotsAt.holds {B : Nat} {w : World} {a : Option Addr} {l : List ByteArray} (h : SlotsAt B w a l) : Holds w a (l.map Value.string) := by
  rcases h with h | ⟨b, ha, hB, hlt, hS⟩
  · subst h; exact .inl rfl
  · subst ha; exact hS.holds hlt

theorem StrsAt.new (w : World) (t : TypeId) (l : List ByteArray) : StrsAt (w.alloc (.cells (l.map Value.string).toArray t)) w.heap.size l := by
  intro j x hj
  refine ⟨cell_of_new w t l j x hj, ?_⟩
  have hg := heap_alloc_new w (.cells (l.map Value.string).toArray t)
  simp only [World.frozen?, hg]
  simp

/-- A slice of texts that may be written comes back. -/
def SlotsPost (xs : List ByteArray) (w : World) (e : Ending) (w' : World) : Prop :=
  ∃ a c, e = .returned (.slice a xs.length c) ∧ xs.length ≤ c ∧ SlotsAt w.heap.size w' a xs ∧ Below w.heap.size w w'

set_option maxHeartbeats 1000000 in
theorem split_own (s : ByteArray) (w : World) (hE : Env w) (hs : s.size < 4294967281) :
    Calls Tryz.prog 39 #[.string s] w (SlotsPost (Wh.namesOf s) w) := by
  have HE := Lib.hid hE
  clear hE
  cases h0 : s.toList.isEmpty
  · have e1 : Wh.namesOf s = Wh.pieces 47 s := Wh.namesOf_some (by rw [← Lib.toList_data]; exact h0)
    rw [e1]
    clear e1
    go_enter Tryz.func39, Tryz.ntmps39
    go_wp2_with fail
    refine (split_one 47 s _ HE.out hs).mono ?_
    rintro e w' ⟨rfl, rfl⟩
    have hh := Lib.hid (StrsAt.new w 9 (Wh.pieces 47 s))
    go_wp2_with fail
    go_ret
    exact ⟨_, _, rfl, Nat.le_refl _, .inr ⟨_, rfl, Nat.le_refl _, by simp, hh.out⟩, bAlloc (Below.refl _ _) _⟩
  · have e1 : Wh.namesOf s = [] := Wh.namesOf_none (by rw [← Lib.toList_data]; exact h0)
    rw [e1]
    clear e1
    go_enter Tryz.func39, Tryz.ntmps39
    go_wp2_with fail
    go_ret
    exact ⟨none, 0, rfl, Nat.le_refl _, .inl rfl, Below.refl _ _⟩

/-- The first k are done, the others are as they were. -/
def mix (ys xs : List ByteArray) (k : Nat) : List ByteArray := ys.take k ++ xs.drop k
theorem mix_zero (ys xs : List ByteArray) : mix ys xs 0 = xs := by simp [mix]
theorem mix_end {ys xs : List ByteArray} {k : Nat} (h1 : ys.length ≤ k) (h2 : xs.length ≤ k) : mix ys xs k = ys := by
  simp [mix, List.take_of_length_le h1, List.drop_eq_nil_of_le h2]
theorem mix_at {ys xs : List ByteArray} {k : Nat} {x : ByteArray} (hl : ys.length = xs.length) (h : xs[k]? = some x) : (mix ys xs k)[k]? = some x := by
  have hk := (List.getElem?_eq_some_iff.1 h).1
  unfold mix
  have e : (ys.take k).length = k := by rw [List.length_take]; omega
  rw [List.getElem?_append_right (by omega), e, Nat.sub_self, List.getElem?_drop, Nat.add_zero, h]
theorem mix_set {ys xs : List ByteArray} {k : Nat} {x y : ByteArray} (hl : ys.length = xs.length) (hx : xs[k]? = some x) (hy : ys[k]? = some y) : (mix ys xs k).set k y = mix ys xs (k + 1) := by
  have hk := List.getElem?_eq_some_iff.1 hx
  have hk1 : k < xs.length := hk.1
  unfold mix
  have e : (ys.take k).length = k := by rw [List.length_take]; omega
  rw [List.set_append_right _ _ (by omega), e, Nat.sub_self, List.drop_eq_getElem_cons hk.1, List.set_cons_zero, List.take_add_one, hy, Option.toList_some, List.append_assoc]
  rfl
theorem mix_length {ys xs : List ByteArray} {k : Nat} (hl : ys.length = xs.length) (hk : k ≤ xs.length) : (mix ys xs k).length = xs.length := by
  unfold mix
  rw [List.length_append, List.length_take, List.length_drop]
  omega

theorem total_le {m : Nat} : ∀ {l : List ByteArray}, (∀ e ∈ l, e.size ≤ m) → Wh.total l ≤ (m + 1) * l.length
  | [], _ => by simp [Wh.total]
  | a :: l, h => by
    have h1 := h a (by simp)
    have h2 := total_le (l := l) (fun e he => h e (by simp [he]))
    have e : Wh.total (a :: l) = a.size + 1 + Wh.total l := by simp [Wh.total]
    rw [e, List.length_cons, Nat.mul_add]
    omega

theorem decs_size {x : Wh.Enc} {s e : ByteArray} (h : e ∈ Wh.decsOf x s) : e.size ≤ s.size := by
  unfold Wh.decsOf at h
  obtain ⟨n, hn, rfl⟩ := List.mem_map.1 h
  have hns : n.size ≤ s.size := by
    unfold Wh.namesOf at hn
    split at hn
    · cases hn
    · exact Wh.pieces_size hn
  have : (⟨((Wh.decS x.cs n.data.toList).getD []).toArray⟩ : ByteArray).size = ((Wh.decS x.cs n.data.toList).getD []).length := by simp [ByteArray.size]
  rw [this]
  cases ho : Wh.decS x.cs n.data.toList with
  | none => simp
  | some o =>
    have := Wh.decS_length x.cs _ _ o (Nat.le_refl _) ho
    rw [← Lib.size_eq] at this
    simp
    omega

theorem decs_at {x : Wh.Enc} {s n : ByteArray} {k : Nat} (h : (Wh.namesOf s)[k]? = some n) : (Wh.decsOf x s)[k]? = some ⟨((Wh.decS x.cs n.data.toList).getD []).toArray⟩ := by
  simp [Wh.decsOf, h]

/-- What names.Decode says. -/
def decCode (x : Wh.Enc) (s : ByteArray) : Int := if Wh.pathErr s.data.toList ≠ 0 then 1 else Wh.decErrP x s
def decGives (x : Wh.Enc) (s : ByteArray) : ByteArray := if Wh.pathErr s.data.toList ≠ 0 then ⟨#[]⟩ else Wh.decText x s

set_option maxHeartbeats 4000000 in
set_option maxRecDepth 100000 in
theorem decode_path (x : Wh.Enc) (a : Option Addr) (c : Nat) (s : ByteArray) (w : World) (hE : Env w) (hX : EncOk x a w) (he : Wh.encErr x = 0) (hp : Wh.pathErr s.data.toList = 0) :
    Calls Tryz.prog 13 #[encVal x a c, .string s] w fun e w' => e = .returned (.tuple #[.string (Wh.decText x s), .int .i64 (Wh.decErrP x s)]) ∧ Below w.heap.size w w' := by
  have hpa := Wh.pathErr_zero hp
  have hsz := Wh.path_size hpa
  have HC := Lib.hid (fun W (hb : Below w.heap.size w W) => checkEnc x a c W (hE.under hb) (hX.under hb))
  have HP := Lib.hid (fun W (hb : Below w.heap.size w W) => check_any s W (hE.under hb) (by omega))
  rw [he] at HC
  rw [hp] at HP
  have HB := Lib.hid (encBox_new w 24 x a c)
  have HSp := Lib.hid (fun W (hb : Below w.heap.size w W) => split_own s W (hE.under hb) (by omega))
  have HDn := Lib.hid (fun n W hn => decodeName_any x a c n W hn)
  have hnl := Wh.namesOf_le s
  have hyl : (Wh.decsOf x s).length = (Wh.namesOf s).length := by simp [Wh.decsOf]
  have HG := Lib.hid (fun n k (h : (Wh.namesOf s)[k]? = some n) => decs_at (x := x) h)
  have HNm := Lib.hid (fun n (hn : n ∈ Wh.namesOf s) => show n.size ≤ 255 by
    have := List.all_eq_true.1 (Wh.namesOf_names hpa) n hn
    rw [Lib.size_eq]
    exact Wh.name_size this)
  have hjl : (Wh.decJoin x s).length ≤ 1100000 := by
    have h1 := Wh.join_length 47 (Wh.decsOf x s)
    have h2 := total_le (l := Wh.decsOf x s) (m := 1024) (fun e he => Nat.le_trans (decs_size he) hsz)
    have h3 : (1024 + 1) * (Wh.decsOf x s).length ≤ 1025 * 1025 := Nat.mul_le_mul_left _ (by omega)
    unfold Wh.decJoin
    omega
  have HBp := Lib.hid (fun n (hn : n ∈ Wh.namesOf s) h => Wh.decN_piece (x := x) hn h)
  have HBl := Lib.hid (fun h => Wh.decN_len (x := x) (s := s) h)
  have HBq := Lib.hid (fun h => Wh.decN_path (x := x) (s := s) h)
  have HBn := Lib.hid (fun h => Wh.decN_no (x := x) (s := s) h)
  have HGo := Lib.hid (fun q h => Wh.dec_good (x := x) (s := s) (q := q) h)
  have hj0 : Wh.decJoin x s = Lib.join ((Wh.decsOf x s).map (·.data.toList)) [47] := rfl
  have HJ0 := Lib.hid hj0
  have HXo := Lib.hid hX
  have HEo := Lib.hid hE
  have HEe := Lib.hid he
  clear hj0 hE hX he hp hpa
  generalize Wh.decsOf x s = ys at *
  generalize Wh.decText x s = T at *
  generalize Wh.decErrP x s = E at *
  generalize Wh.decJoin x s = J at *
  unfold encVal at *
  have hb1 : Below w.heap.size w (w.alloc (.cells #[.string x.forbid, .string x.head, .string x.tail, .slice a x.names.length c, .bool x.cs, .int .i64 x.max] 24)) := bAlloc (Below.refl _ _) _
  go_enter Tryz.func13, Tryz.ntmps13
  go_wp2_with fail
  refine (HC.out _ hb1).mono ?_
  rintro e w2 ⟨rfl, hb2⟩
  generalize w.alloc (.cells #[.string x.forbid, .string x.head, .string x.tail, .slice a x.names.length c, .bool x.cs, .int .i64 x.max] 24) = w1 at *
  go_wp2_with fail
  refine (HP.out _ (bTrans hb1 hb2)).mono ?_
  rintro e w3 ⟨rfl, hb3⟩
  have HB3 := Lib.hid ((HB.out.under hb2).under hb3)
  have hb03 := bTrans (bTrans hb1 hb2) hb3
  clear hb1 hb2 hb3 HB HC HP
  go_wp2_with fail
  refine (HSp.out _ hb03).mono ?_
  rintro e w4 ⟨a1, c1, rfl, hc1, hS, hb4⟩
  have HS4 := Lib.hid hS
  have hb04 := bTrans hb03 hb4
  have hz4 := hb4.size
  have hz3 := hb03.size
  clear hS HSp
  generalize Wh.namesOf s = ns at *
  go_wp2_with fail
  go_loopg [30] ns.length (fun g s30 wx => ∃ k : Nat, k + g = ns.length ∧ s30 = .int .i64 k ∧ Below w3.heap.size w3 wx ∧ Hid (SlotsAt w3.heap.size wx a1 (mix ys ns k)))
  case atStart => exact ⟨0, by omega, rfl, hb4, by rw [mix_zero]; exact HS4⟩
  case round =>
    clear hb4 HS4 hz4 hb04
    obtain ⟨k, hk, rfl, hb, HSl⟩ := hrel
    have hz := hb.size
    by_cases hlt : k < ns.length
    · obtain ⟨g, rfl⟩ : ∃ g, gk = g + 1 := ⟨gk - 1, by omega⟩
      obtain ⟨n, hn⟩ : ∃ n, ns[k]? = some n := ⟨_, List.getElem?_eq_getElem hlt⟩
      have hmk := mix_at hyl hn
      have hml := mix_length (ys := ys) (xs := ns) (k := k) hyl (by omega)
      obtain ⟨b, rfl, hB, hbl, hSt⟩ : ∃ b, a1 = some ⟨b, 0, none⟩ ∧ w3.heap.size ≤ b ∧ b < wr.heap.size ∧ StrsAt wr b (mix ys ns k) := by
        rcases HSl.out with h | h
        · rw [h] at hml; simp at hml; omega
        · exact h
      obtain ⟨hca, hfa⟩ := hSt k n hmk
      have Hn := Lib.hid hn
      have Hy := Lib.hid (HG.out n k hn)
      have hns := HNm.out n (List.mem_of_getElem? hn)
      have HDx := Lib.hid (HDn.out n wr (by omega))
      have HSt := Lib.hid hSt
      have Hml := Lib.hid hml
      have HBad := Lib.hid (fun h => HBp.out n (List.mem_of_getElem? hn) h)
      obtain ⟨k0, k1, k2, k3, k4, k5, k6⟩ := HB3.out.under hb
      clear hn hmk hSt hml HSl hns
      cases ho : Wh.decS x.cs n.data.toList with
      | none =>
        have HF := Lib.hid (HBad.out ho)
        rw [ho] at HDx
        clear ho HBad
        go_wp2_with fail
        refine HDx.out.mono ?_
        rintro e w5 ⟨rfl, hb5⟩
        go_wp2_with fail
        go_ret2
        rw [HF.out.1, HF.out.2]
        exact ⟨rfl, bTrans (bTrans hb03 hb) hb5⟩
      | some o =>
        rw [ho] at HDx Hy
        clear ho HBad
        simp only [Option.getD_some, Option.isSome_some] at HDx Hy
        generalize (⟨o.toArray⟩ : ByteArray) = y at *
        go_wp2_with fail
        refine HDx.out.mono ?_
        rintro e w5 ⟨rfl, hb5⟩
        have hS5 := HSt.out.keep hb5 hbl
        obtain ⟨hc5, hf5⟩ := hS5 k _ (mix_at hyl Hn.out)
        have hS6 : StrsAt (w5.setCell ⟨b, k, none⟩ (.string y)) b (mix ys ns (k + 1)) := by
          rw [← mix_set hyl Hn.out Hy.out]
          exact hS5.set (by rw [Hml.out]; exact hlt) y
        have hb6 : Below w3.heap.size w3 (w5.setCell ⟨b, k, none⟩ (.string y)) := Below.setCell (p := ⟨b, k, none⟩) (bTrans hb hb5) hB _
        have HS6 : Hid (SlotsAt w3.heap.size (w5.setCell ⟨b, k, none⟩ (.string y)) (some ⟨b, 0, none⟩) (mix ys ns (k + 1))) := Lib.hid (.inr ⟨b, rfl, hB, by have := hb5.size; simp; omega, hS6⟩)
        clear k0 k1 k2 k3 k4 k5 k6 hca hfa hS5 hS6
        go_wp2_with fail
        go_roundg g
        case measure => omega
        case rel => exact ⟨k + 1, by omega, by go_num, hb6, HS6⟩
    · obtain rfl : k = ns.length := by omega
      have hSl := HSl.out
      rw [mix_end (by omega) (Nat.le_refl _)] at hSl
      have hJo := join_any a1 c1 ys ⟨#[47]⟩ wr hSl.holds (by omega) (by omega) (by have := HJ0.out; rw [show (⟨#[47]⟩ : ByteArray).data.toList = [47] from rfl, ← this]; omega)
      rw [show (⟨#[47]⟩ : ByteArray).data.toList = [47] from rfl, ← HJ0.out, hyl] at hJo
      have HJo := Lib.hid hJo
      clear hJo hSl HSl
      have hsJ : (⟨J.toArray⟩ : ByteArray).size = J.length := by simp [ByteArray.size]
      have hdJ : (⟨J.toArray⟩ : ByteArray).data.toList = J := by simp
      have hq : (⟨J.toArray⟩ : ByteArray).size ≤ 1100000 := by rw [hsJ]; exact hjl
      have HdJ := Lib.hid hdJ
      clear hsJ hdJ hjl HJ0
      generalize (⟨J.toArray⟩ : ByteArray) = q at *
      have HSq := Lib.hid (fun W (hb : Below w.heap.size w W) => split_any q W (HEo.out.under hb) (by omega))
      have HCq := Lib.hid (fun W (hb : Below w.heap.size w W) => check_any q W (HEo.out.under hb) (by omega))
      rw [HdJ.out] at HCq
      go_wp2_with fail
      refine HJo.out.mono ?_
      rintro e w5 ⟨rfl, hb5⟩
      have hb05 := bTrans (bTrans hb03 hb) hb5
      have HB5 := Lib.hid ((HB3.out.under hb).under hb5)
      go_wp2_with fail
      refine (HSq.out _ hb05).mono ?_
      rintro e w6 ⟨a6, c6, rfl, _, _, hb6⟩
      have hb06 := bTrans hb05 hb6
      have HB6 := Lib.hid (HB5.out.under hb6)
      clear HSq HB5 hb6 hb5
      by_cases hl : (Wh.namesOf q).length = ns.length
      · have hl2 : (((Wh.namesOf q).length : Int) != (ns.length : Int)) = false := by rw [hl]; simp
        generalize (Wh.namesOf q).length = nq at *
        rcases Wh.pathErr_cases J with hpj | hpj
        · rw [hpj] at HCq
          have HF := Lib.hid (HBq.out (by
            cases h : Wh.isPath J with
            | false => rfl
            | true => simp [Wh.pathErr, h] at hpj))
          clear hpj hl
          go_wp2_with fail
          refine (HCq.out _ hb06).mono ?_
          rintro e w7 ⟨rfl, hb7⟩
          go_wp2_with fail
          go_ret2
          rw [HF.out.1, HF.out.2]
          exact ⟨rfl, bTrans hb06 hb7⟩
        · rw [hpj] at HCq
          have hpq : Wh.isPath q.data.toList = true := by rw [HdJ.out]; exact Wh.pathErr_zero hpj
          have HEq := Lib.hid (fun W (hb : Below w.heap.size w W) => encodePath_any x a c q W (HEo.out.under hb) (HXo.out.under hb) HEe.out hpq)
          unfold encVal at HEq
          have HGq := Lib.hid (fun h2 h3 => HGo.out q (Wh.goodB_iff.2 ⟨hpq, h2, h3⟩))
          have HNq := Lib.hid (fun (h2 : ¬ (Wh.encErrP x q = 0 ∧ Wh.encText x q = s)) => HBn.out (by
            cases h : Wh.goodB x s q with
            | false => rfl
            | true => exact absurd (Wh.goodB_iff.1 h).2 h2))
          clear hpj hl hpq
          go_wp2_with fail
          refine (HCq.out _ hb06).mono ?_
          rintro e w7 ⟨rfl, hb7⟩
          have hb07 := bTrans hb06 hb7
          obtain ⟨k0, k1, k2, k3, k4, k5, k6⟩ := HB6.out.under hb7
          go_wp2_with fail
          refine (HEq.out _ hb07).mono ?_
          rintro e w8 ⟨rfl, hb8⟩
          generalize Wh.encErrP x q = E2 at *
          generalize Wh.encText x q = T2 at *
          clear k0 k1 k2 k3 k4 k5 k6
          by_cases he2 : E2 = 0
          · by_cases ht2 : T2 = s
            · have HF := Lib.hid (HGq.out he2 ht2)
              subst he2 ht2
              go_wp2_with fail
              go_ret2
              rw [HF.out.1, HF.out.2]
              exact ⟨rfl, bTrans hb07 hb8⟩
            · have HF := Lib.hid (HNq.out (fun h => ht2 h.2))
              have q2 := Wh.toList_ne ht2
              subst he2
              clear ht2
              go_wp2_with fail
              go_ret2
              rw [HF.out.1, HF.out.2]
              exact ⟨rfl, bTrans hb07 hb8⟩
          · have HF := Lib.hid (HNq.out (fun h => he2 h.1))
            have q2 := err_ne he2
            clear he2
            go_wp2_with fail
            go_ret2
            rw [HF.out.1, HF.out.2]
            exact ⟨rfl, bTrans hb07 hb8⟩
      · have hl2 : (((Wh.namesOf q).length : Int) != (ns.length : Int)) = true := by rw [bne_iff_ne]; omega
        have HF := Lib.hid (HBl.out hl)
        clear hl
        generalize (Wh.namesOf q).length = nq at *
        go_wp2_with fail
        go_ret2
        rw [HF.out.1, HF.out.2]
        exact ⟨rfl, hb06⟩
end Go.Proofs.YtikegddlbelfaaaGreatDoor
namespace Go.Proofs.YtikegddlbelfaaaGreatDoor
open Go.RowKit

end Go.Proofs.YtikegddlbelfaaaGreatDoor
namespace Go.Proofs.YtikegddlbelfaaaGreatDoor
open Go.RowKit

end Go.Proofs.YtikegddlbelfaaaGreatDoor
namespace Go.Proofs.YtikegddlbelfaaaGreatDoor
open Go.RowKit

theorem OwnS.cell {w0 wx : World} {g cap : Nat} {out : List ByteArray} {y : ByteArray} (h : OwnS w0 wx (some ⟨g, 0, none⟩) cap out) {k : Nat} (hk : out[k]? = some y) : wx.cell? ⟨g, k, none⟩ = some (.string y) := by
  obtain ⟨b, off, hb, _, hc⟩ := (Own.holds h).at (k := k) (u := .string y) (by simp [hk])
  injection hb with hb
  injection hb with h1 h2
  rw [← h1, ← h2, Nat.zero_add] at hc
  exact hc

theorem encs_len {x : Wh.Enc} {s e : ByteArray} (hp : Wh.isPath s.data.toList = true) (he : e ∈ Wh.encsOf x s) : e.size ≤ 765 := by
  unfold Wh.encsOf at he
  obtain ⟨n, hn, rfl⟩ := List.mem_map.1 he
  have h1 := Wh.name_size (List.all_eq_true.1 (Wh.namesOf_names hp) n hn)
  have h2 := (Wh.encFrom_length x (x.names.any (fun y => y.data.toList == Wh.lower n.data.toList)) n.data.toList.length 0 n.data.toList).2
  have e1 : (⟨(Wh.encName x n.data.toList).toArray⟩ : ByteArray).size = (Wh.encName x n.data.toList).length := by simp [ByteArray.size]
  rw [e1]
  unfold Wh.encName
  omega

theorem encJoin_len2 {x : Wh.Enc} {s : ByteArray} (hp : Wh.isPath s.data.toList = true) : (Wh.encJoin x s).length ≤ 1000000 := by
  have h0 := Wh.join_length 47 (Wh.encsOf x s)
  have h1 : ∀ l : List ByteArray, (∀ e ∈ l, e.size ≤ 765) → Wh.total l ≤ 766 * l.length := by
    intro l
    induction l with
    | nil => simp [Wh.total]
    | cons a l ih =>
      intro h
      have := h a (by simp)
      have := ih (fun e he => h e (by simp [he]))
      have e : Wh.total (a :: l) = a.size + 1 + Wh.total l := by simp [Wh.total]
      simp only [List.length_cons]
      omega
  have h2 := h1 (Wh.encsOf x s) (fun e he => encs_len hp he)
  have h3 := Wh.encsOf_length x s
  have h4 := Wh.namesOf_le s
  have h5 := Wh.path_size hp
  unfold Wh.encJoin
  omega

end Go.Proofs.YtikegddlbelfaaaGreatDoor
namespace Go.Proofs.YtikegddlbelfaaaGreatDoor
open Go.RowKit

theorem great_nat2 (d : UInt8) (h1 : 97 ≤ d.toNat) (h2 : d.toNat ≤ 122) : (d.toNat : Int) - 32 = ((Wh.great d).toNat : Int) := by
  have := great_nat d h1 h2
  omega

end Go.Proofs.YtikegddlbelfaaaGreatDoor
namespace Go.Proofs.YtikegddlbelfaaaGreatDoor
open Go.RowKit

set_option maxHeartbeats 1000000 in
set_option maxRecDepth 100000 in
theorem decode_nopath (x : Wh.Enc) (a : Option Addr) (c : Nat) (s : ByteArray) (w : World) (hE : Env w) (hX : EncOk x a w) (hs : s.size ≤ 9223372036854775807) (he : Wh.encErr x = 0) (hp : Wh.pathErr s.data.toList = 1) :
    Calls Tryz.prog 13 #[encVal x a c, .string s] w fun e w' => e = .returned (.tuple #[.string ⟨#[]⟩, .int .i64 1]) ∧ Below w.heap.size w w' := by
  have HC := Lib.hid (fun W (hb : Below w.heap.size w W) => checkEnc x a c W (hE.under hb) (hX.under hb))
  have HP := Lib.hid (fun W (hb : Below w.heap.size w W) => check_any s W (hE.under hb) hs)
  rw [hp] at HP
  rw [he] at HC
  clear hE hX he hp
  unfold encVal at *
  have hb0 : Below w.heap.size w (w.alloc (.cells #[.string x.forbid, .string x.head, .string x.tail, .slice a x.names.length c, .bool x.cs, .int .i64 x.max] 24)) := bAlloc (Below.refl _ _) _
  go_enter Tryz.func13, Tryz.ntmps13
  go_wp2_with fail
  refine (HC.out _ hb0).mono ?_
  rintro e w1 ⟨rfl, hb1⟩
  go_wp2_with fail
  refine (HP.out _ (bTrans hb0 hb1)).mono ?_
  rintro e w2 ⟨rfl, hb2⟩
  go_wp2_with fail
  go_ret2
  exact ⟨rfl, bTrans (bTrans hb0 hb1) hb2⟩

theorem pathErr_not {l : List UInt8} (h : Wh.pathErr l = 1) : Wh.isPath l = false := by
  cases hh : Wh.isPath l with
  | false => rfl
  | true => simp [Wh.pathErr, hh] at h

theorem decode_any (x : Wh.Enc) (a : Option Addr) (c : Nat) (s : ByteArray) (w : World) (hE : Env w) (hX : EncOk x a w) (hs : s.size ≤ 9223372036854775807) (he : Wh.encErr x = 0) :
    Calls Tryz.prog 13 #[encVal x a c, .string s] w fun e w' => e = .returned (.tuple #[.string (decGives x s), .int .i64 (decCode x s)]) ∧ Below w.heap.size w w' := by
  rcases Wh.pathErr_cases s.data.toList with hp | hp
  · have h := decode_nopath x a c s w hE hX hs he hp
    simpa [decGives, decCode, hp] using h
  · have h := decode_path x a c s w hE hX he hp
    simpa [decGives, decCode, hp] using h

end Go.Proofs.YtikegddlbelfaaaGreatDoor
