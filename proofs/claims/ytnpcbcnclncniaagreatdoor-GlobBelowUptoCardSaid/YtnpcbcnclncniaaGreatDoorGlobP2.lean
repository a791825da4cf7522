/-
  names.printSet.
-/
import Derived.Test.YtnpcbcnclncniaaGreatDoorPartIs
import Derived.Test.YtnpcbcnclncniaaGreatDoorGlobP1
import Derived.Test.YtnpcbcnclncniaaGreatDoorGlob5
namespace Go.Proofs.YtnpcbcnclncniaaGreatDoor
open Go.RowKit

def chr (n : Int) : ByteArray := ⟨#[UInt8.ofNat n.toNat]⟩

theorem run_chr (n : Int) (h0 : 0 ≤ n) (h1 : n ≤ 255) (W : World) : (convert 116 9 (.slice (some ⟨W.heap.size, 0, none⟩) 1 1)).run Tryz.prog (W.alloc (.cells #[.int .u8 n] 5)) = .ok (.string (chr n)) (W.alloc (.cells #[.int .u8 n] 5)) := by
  refine run_convert_bytes_back _ 116 9 5 ⟨W.heap.size, 0, none⟩ 1 [UInt8.ofNat n.toNat] Tryz.underlying116 Tryz.underlying5 Tryz.underlying9 fun j hj => ?_
  obtain rfl : j = 0 := by simpa using hj
  have e : (⟨W.heap.size, 0, none⟩ : Addr).add 0 = ⟨W.heap.size, 0, none⟩ := by unfold Addr.add; split <;> simp_all
  rw [e, World.cell?_alloc_at _ _ _ _ rfl]
  have : ((UInt8.ofNat n.toNat).toNat : Int) = n := by simp; omega
  simp only [List.getElem_cons_zero, this]
  rfl

set_option maxHeartbeats 2000000 in
set_option maxRecDepth 100000 in
theorem bound_any (n : Int) (pb : Nat) {w0 w : World} {b : Nat} {out : List UInt8} (h : Bld w0 b out w) (h0 : 0 ≤ n) (h1 : n ≤ 255) (hc : w.cell? ⟨pb, 0, none⟩ = some (.pointer (some ⟨b, 0, none⟩))) (hl : out.length ≤ 100000000000000) :
    Calls Tryz.prog 130 #[.int .i64 n, .pointer (some ⟨pb, 0, none⟩)] w fun e w' => e = .returned (.tuple #[]) ∧ Bld w0 b (out ++ bnd n) w' ∧ Lib.OthersKept 5 (some b) w w' := by
  have hcv := run_chr n h0 h1 w
  have hb := bAlloc (Below.refl w.heap.size w) (.cells #[.int .u8 n] 5)
  have HK := Lib.hid (kept_below (e := 5) (b := some b) hb)
  have HE := Lib.hid (escape_any (chr n) ⟨#[92, 93, 94, 45]⟩ (h.under hb) (by show 1 ≤ _; decide) hl)
  change Hid (Calls _ _ _ _ fun e w' => e = .returned (.tuple #[]) ∧ Bld w0 b (out ++ (esc1 bndS (UInt8.ofNat n.toNat) ++ [])) w' ∧ _) at HE
  rw [List.append_nil] at HE
  change Hid (Calls _ _ _ _ fun e w' => e = .returned (.tuple #[]) ∧ Bld w0 b (out ++ bnd n) w' ∧ _) at HE
  clear h hb
  go_enter Tryz.func130, Tryz.ntmps130
  go_wp2_with (go_at_call 106; refine HE.out.mono ?_; rintro e w5 ⟨rfl, hB5, hK5⟩)
  go_end0
  exact ⟨rfl, hB5, HK.out.trans hK5⟩

theorem bnd_len (n : Int) : (bnd n).length ≤ 2 := esc1_len _ _
theorem flat_snoc {α β : Type} {f : α → List β} {l : List α} {k : Nat} {x : α} (h : l[k]? = some x) : (l.take (k + 1)).flatMap f = (l.take k).flatMap f ++ f x := by
  rw [List.take_add_one, h, List.flatMap_append]
  simp

set_option maxHeartbeats 4000000 in
set_option maxRecDepth 100000 in
theorem printSet_any {α : Type} (q : PartOf α) {w0 w : World} {b : Nat} {out : List UInt8} (h : Bld w0 b out w) (hr : SlHolds w0 2 rgCells q.rg) (hg : ∀ r ∈ q.rg.xs, (1 ≤ r.1 ∧ r.1 ≤ 255) ∧ 1 ≤ r.2 ∧ r.2 ≤ 255) (hn : q.rg.xs.length ≤ 1048576) (hl : out.length ≤ 10000000000000) :
    Calls Tryz.prog 109 #[.pointer (some ⟨b, 0, none⟩), partVal q] w fun e w' => e = .returned (.tuple #[]) ∧ Bld w0 b (out ++ setTxt q.neg q.rg.xs) w' ∧ Lib.OthersKept 5 (some b) w w' := by
  have HR := Lib.hid hr
  have HG := Lib.hid hg
  have hbl := h.lt
  have hb1 : Below w.heap.size w ((w.alloc (.cells #[.pointer (some ⟨b, 0, none⟩)] 115)).alloc (.cells (partArr q) 92)) := bAlloc (bAlloc (Below.refl _ _) _) _
  have HB := Lib.hid (h.under hb1)
  have HK := Lib.hid (kept_below (e := 5) (b := some b) hb1)
  have HP := Lib.hid ((BoxIs.new w #[.pointer (some ⟨b, 0, none⟩)] 115).under (bAlloc (Below.refl _ _) (.cells (partArr q) 92)))
  have HQ := Lib.hid (BoxIs.new (w.alloc (.cells #[.pointer (some ⟨b, 0, none⟩)] 115)) (partArr q) 92)
  have hsz : (w.alloc (.cells #[.pointer (some ⟨b, 0, none⟩)] 115)).heap.size = w.heap.size + 1 := by simp
  rw [hsz] at HQ
  obtain ⟨o9, ho9⟩ : ∃ o9, out ++ setTxt q.neg q.rg.xs = o9 := ⟨_, rfl⟩
  have HO9 : Hid ((out ++ ([91] ++ if q.neg then [94] else [])) ++ q.rg.xs.flatMap rgTxt ++ [93] = o9) := Lib.hid (by rw [← ho9]; unfold setTxt; simp only [List.append_assoc])
  rw [ho9]
  clear h hr hg hb1 hsz ho9
  go_enter Tryz.func109, Tryz.ntmps109
  go_upto_region 2 with fail
  generalize (w.alloc _).alloc _ = w1 at *
  generalize w.heap.size = z at *
  have c0 := HP.out.cell (j := 0) rfl
  go_wp2_with fail
  refine (writeByte_any (c := 91) rfl HB.out (by omega)).mono ?_
  rintro e w2 ⟨rfl, hB2, hK2⟩
  have HB2 := Lib.hid hB2
  have HK2 := Lib.hid (HK.out.trans hK2)
  have HP2 := Lib.hid (HP.out.kept hK2 (by omega) (by decide))
  have HQ2 := Lib.hid (HQ.out.kept hK2 (by omega) (by decide))
  clear c0 hB2 hK2 HB HK HP HQ
  obtain ⟨kind, text, neg, ⟨ra, rc, rxs⟩, ⟨wa, wcap, wxs⟩⟩ := q
  simp only [] at *
  obtain ⟨p0, p1, p2, p3, p4, p5⟩ := HQ2.out.part
  have c0 := HP2.out.cell (j := 0) rfl
  simp only [] at p3
  go_upto_if 11 with fail
  go_cut [] (fun wx => Hid (Bld w0 b (out ++ ([91] ++ if neg then [94] else [])) wx) ∧ Hid (Lib.OthersKept 5 (some b) w wx) ∧ Hid (BoxIs wx z #[.pointer (some ⟨b, 0, none⟩)] 115) ∧ Hid (BoxIs wx (z + 1) #[.int .i64 kind, .string text, .bool neg, .slice ra rxs.length rc, .slice wa wxs.length wcap] 92))
  case first =>
    cases neg
    · go_wp2_with fail
      go_meet
      exact ⟨HB2, HK2, HP2, HQ2⟩
    · go_wp2_with fail
      refine (writeByte_any (c := 94) rfl HB2.out (by rw [List.length_append]; simp; omega)).mono ?_
      rintro e w3 ⟨rfl, hB3, hK3⟩
      have HB3 : Hid (Bld w0 b (out ++ ([91] ++ [94])) w3) := Lib.hid (by rw [← List.append_assoc]; exact hB3)
      have HK3 := Lib.hid hK3
      clear hB3 hK3
      go_wp2_with fail
      go_meet
      exact ⟨HB3, Lib.hid (HK2.out.trans HK3.out), Lib.hid (HP2.out.kept HK3.out (by omega) (by decide)), Lib.hid (HQ2.out.kept HK3.out (by omega) (by decide))⟩
  case rest =>
    obtain ⟨HB3, HK3, HP3, HQ3⟩ := hcut
    have hl3 : (out ++ ([91] ++ if neg then [94] else [])).length ≤ 10000000000100 := by
      rw [List.length_append]
      cases neg <;> simp <;> omega
    generalize out ++ ([91] ++ if neg then [94] else []) = o3 at *
    clear HB2 HK2 HP2 HQ2 p0 p1 p2 p3 p4 p5 c0
    obtain ⟨p0, p1, p2, p3, p4, p5⟩ := HQ3.out.part (p := (⟨kind, text, neg, ⟨ra, rc, rxs⟩, ⟨wa, wcap, wxs⟩⟩ : PartOf α))
    simp only [] at p4
    clear p0 p1 p2 p3 p5
    go_wp2_with fail
    clear p4
    obtain ⟨w3, rfl⟩ : ∃ w3 : World, w3 = wc := ⟨_, rfl⟩
    go_loopg [17] rxs.length (fun g i wx => ∃ k : Nat, k + g = rxs.length ∧ i = .int .i64 k ∧ Hid (Bld w0 b (o3 ++ (rxs.take k).flatMap rgTxt) wx) ∧ Hid (Lib.OthersKept 5 (some b) w wx) ∧ Hid (BoxIs wx z #[.pointer (some ⟨b, 0, none⟩)] 115))
    case atStart => exact ⟨0, by omega, rfl, Lib.hid (by simpa using HB3.out), HK3, HP3⟩
    case round =>
      clear HB3 HK3 HP3
      obtain ⟨k, hk, rfl, HB4, HK4, HP4⟩ := hrel
      by_cases hlt : k < rxs.length
      · obtain ⟨g, rfl⟩ : ∃ g, gk = g + 1 := ⟨gk - 1, by omega⟩
        obtain ⟨⟨x, y⟩, hx⟩ : ∃ r : Int × Int, rxs[k]? = some r := ⟨_, List.getElem?_eq_getElem hlt⟩
        obtain ⟨⟨x1, x2⟩, y1, y2⟩ := HG.out _ (List.mem_of_getElem? hx)
        obtain ⟨ba, off, ha, hba, r0, r1⟩ := pairRow (HR.out.under HB4.out.below) hx
        have HT : Hid (o3 ++ (rxs.take (k + 1)).flatMap rgTxt = (o3 ++ (rxs.take k).flatMap rgTxt) ++ rgTxt (x, y)) := Lib.hid (by rw [flat_snoc hx, List.append_assoc])
        have hlen : (o3 ++ (rxs.take k).flatMap rgTxt).length ≤ 10000010000000 := by
          have h1 := flat_le (l := rxs.take k) (f := rgTxt) (g := fun _ => 5) (fun r _ => rgTxt_len r)
          rw [const_sum] at h1
          have h2 : (rxs.take k).length ≤ rxs.length := by rw [List.length_take]; omega
          rw [List.length_append]
          omega
        generalize o3 ++ (rxs.take k).flatMap rgTxt = o4 at *
        simp only [] at x1 x2 y1 y2 ha r0 r1
        subst ha
        have hbx := bAlloc (Below.refl wr.heap.size wr) (.cells #[.int .i64 x, .int .i64 y] 95)
        have HX5 := Lib.hid (BoxIs.new wr #[.int .i64 x, .int .i64 y] 95)
        have HB5 := Lib.hid (HB4.out.under hbx)
        have HK5 := Lib.hid (HK4.out.trans (kept_below (e := 5) (b := some b) hbx))
        have HP5 := Lib.hid (HP4.out.under hbx)
        have hzx : b < wr.heap.size := HB4.out.lt
        clear hx HB4 HK4 HP4 hbx
        go_upto_region 8 with fail
        generalize wr.alloc _ = w5 at *
        generalize wr.heap.size = zx at *
        clear r0 r1
        obtain ⟨q0, q1, q2⟩ := HX5.out.pair
        have HC := Lib.hid (bound_any x z HB5.out (by omega) x2 (HP5.out.cell rfl) (by omega))
        rcases (by omega : (¬ x < y ∧ ¬ x + 1 < y) ∨ (x < y ∧ ¬ x + 1 < y) ∨ (x < y ∧ x + 1 < y)) with ⟨d1, d2⟩ | ⟨d1, d2⟩ | ⟨d1, d2⟩
        · have HT2 : Hid (o3 ++ (rxs.take (k + 1)).flatMap rgTxt = o4 ++ bnd x) := Lib.hid (by rw [HT.out]; unfold rgTxt; rw [if_neg d2, if_neg d1]; simp)
          clear HT
          go_wp2_with fail
          refine HC.out.mono ?_
          rintro e w6 ⟨rfl, hB6, hK6⟩
          have HB6 := Lib.hid hB6
          have HK6 := Lib.hid (HK5.out.trans hK6)
          have HP6 := Lib.hid (HP5.out.kept hK6 (by omega) (by decide))
          have HX6 := Lib.hid (HX5.out.kept hK6 (by omega) (by decide))
          clear q0 q1 q2 hB6 hK6 HC HB5 HK5 HP5 HX5
          obtain ⟨q0, q1, q2⟩ := HX6.out.pair
          go_wp2_with fail
          go_roundg g
          case measure => omega
          case rel => exact ⟨k + 1, by omega, by go_num, Lib.hid (by rw [HT2.out]; exact HB6.out), HK6, HP6⟩
        · have HT2 : Hid (o3 ++ (rxs.take (k + 1)).flatMap rgTxt = o4 ++ bnd x ++ bnd y) := Lib.hid (by rw [HT.out]; unfold rgTxt; rw [if_neg d2, if_pos d1]; simp)
          clear HT
          go_wp2_with fail
          refine HC.out.mono ?_
          rintro e w6 ⟨rfl, hB6, hK6⟩
          have HB6 := Lib.hid hB6
          have HK6 := Lib.hid (HK5.out.trans hK6)
          have HP6 := Lib.hid (HP5.out.kept hK6 (by omega) (by decide))
          have HX6 := Lib.hid (HX5.out.kept hK6 (by omega) (by decide))
          clear q0 q1 q2 hB6 hK6 HC HB5 HK5 HP5 HX5
          obtain ⟨q0, q1, q2⟩ := HX6.out.pair
          have HC := Lib.hid (bound_any y z HB6.out (by omega) y2 (HP6.out.cell rfl) (by have := bnd_len x; rw [List.length_append]; omega))
          go_wp2_with fail
          refine HC.out.mono ?_
          rintro e w7 ⟨rfl, hB7, hK7⟩
          have HB7 := Lib.hid hB7
          have HK7 := Lib.hid (HK6.out.trans hK7)
          have HP7 := Lib.hid (HP6.out.kept hK7 (by omega) (by decide))
          clear q0 q1 q2 hB7 hK7 HC HB6 HK6 HP6 HX6
          go_wp2_with fail
          go_roundg g
          case measure => omega
          case rel => exact ⟨k + 1, by omega, by go_num, Lib.hid (by rw [HT2.out]; exact HB7.out), HK7, HP7⟩
        · have HT2 : Hid (o3 ++ (rxs.take (k + 1)).flatMap rgTxt = o4 ++ bnd x ++ [45] ++ bnd y) := Lib.hid (by rw [HT.out]; unfold rgTxt; rw [if_pos d2, if_pos d1]; simp)
          clear HT
          go_wp2_with fail
          refine HC.out.mono ?_
          rintro e w6 ⟨rfl, hB6, hK6⟩
          have HB6 := Lib.hid hB6
          have HK6 := Lib.hid (HK5.out.trans hK6)
          have HP6 := Lib.hid (HP5.out.kept hK6 (by omega) (by decide))
          have HX6 := Lib.hid (HX5.out.kept hK6 (by omega) (by decide))
          clear q0 q1 q2 hB6 hK6 HC HB5 HK5 HP5 HX5
          obtain ⟨q0, q1, q2⟩ := HX6.out.pair
          have c0 := HP6.out.cell (j := 0) rfl
          go_wp2_with fail
          refine (writeByte_any (c := 45) rfl HB6.out (by have := bnd_len x; rw [List.length_append]; omega)).mono ?_
          rintro e w7 ⟨rfl, hB7, hK7⟩
          have HB7 := Lib.hid hB7
          have HK7 := Lib.hid (HK6.out.trans hK7)
          have HP7 := Lib.hid (HP6.out.kept hK7 (by omega) (by decide))
          have HX7 := Lib.hid (HX6.out.kept hK7 (by omega) (by decide))
          clear q0 q1 q2 c0 hB7 hK7 HB6 HK6 HP6 HX6
          obtain ⟨q0, q1, q2⟩ := HX7.out.pair
          have HC := Lib.hid (bound_any y z HB7.out (by omega) y2 (HP7.out.cell rfl) (by have := bnd_len x; rw [List.length_append, List.length_append]; simp; omega))
          go_wp2_with fail
          refine HC.out.mono ?_
          rintro e w8 ⟨rfl, hB8, hK8⟩
          have HB8 := Lib.hid hB8
          have HK8 := Lib.hid (HK7.out.trans hK8)
          have HP8 := Lib.hid (HP7.out.kept hK8 (by omega) (by decide))
          clear q0 q1 q2 hB8 hK8 HC HB7 HK7 HP7 HX7
          go_wp2_with fail
          go_roundg g
          case measure => omega
          case rel => exact ⟨k + 1, by omega, by go_num, Lib.hid (by rw [HT2.out]; exact HB8.out), HK8, HP8⟩
      · obtain rfl : k = rxs.length := by omega
        have c0 := HP4.out.cell (j := 0) rfl
        have hlen : (o3 ++ (rxs.take rxs.length).flatMap rgTxt).length ≤ 10000010000000 := by
          have h1 := flat_le (l := rxs.take rxs.length) (f := rgTxt) (g := fun _ => 5) (fun r _ => rgTxt_len r)
          rw [const_sum, List.length_take] at h1
          rw [List.length_append]
          omega
        go_wp2_with fail
        refine (writeByte_any (c := 93) rfl HB4.out (by omega)).mono ?_
        rintro e w7 ⟨rfl, hB7, hK7⟩
        have HB7 := Lib.hid hB7
        have HK7 := Lib.hid (HK4.out.trans hK7)
        clear hB7 hK7 c0
        go_wp2_with fail
        go_end0
        refine ⟨rfl, ?_, HK7.out⟩
        have := HB7.out
        rw [List.take_of_length_le (Nat.le_refl _), HO9.out] at this
        exact this
end Go.Proofs.YtnpcbcnclncniaaGreatDoor
