/-
  The texts PartIs, GlobP1, GlobP2, GlobP3, GlobP4, GlobR1, GlobR2, GlobR3, GlobC, FilR, in one.
-/
import Derived.Test.YtfenmeacimfiaaaGreatDoorSeqA
import Derived.Test.YtfenmeacimfiaaaGreatDoorGlbA
import Derived.Test.YtfenmeacimfiaaaGreatDoorBuild
import Derived.Test.YtfenmeacimfiaaaGreatDoorBytes
import Derived.Test.YtfenmeacimfiaaaGreatDoorGlobMem
import Derived.OpenShut
namespace Go.Proofs.YtfenmeacimfiaaaGreatDoor
open Go.RowKit

abbrev partArr {α : Type} (p : PartOf α) : Array Value := #[.int .i64 p.kind, .string p.text, .bool p.neg, .slice p.rg.a p.rg.xs.length p.rg.c, .slice p.ways.a p.ways.xs.length p.ways.c]
theorem BoxIs.part {α : Type} {w : World} {b : Nat} {p : PartOf α} {t : TypeId} (h : BoxIs w b (partArr p) t) : PartBox w b p := ⟨h.lt, h.cell rfl, h.cell rfl, h.cell rfl, h.cell rfl, h.cell rfl⟩
theorem BoxIs.pair {w : World} {b : Nat} {x y : Int} {t : TypeId} (h : BoxIs w b #[.int .i64 x, .int .i64 y] t) : PairBox w b x y := ⟨h.lt, h.cell rfl, h.cell rfl⟩

end Go.Proofs.YtfenmeacimfiaaaGreatDoor
namespace Go.Proofs.YtfenmeacimfiaaaGreatDoor
open Go.RowKit

/-- WriteByte's closure, numbered as Join's is. -/
def ren167 : Go.Shelf.Ren := ⟨fun | 167 => 172 | n => Tryz.lays156_ren.f n, Tryz.lays156_ren.t, Tryz.lays156_ren.g⟩
theorem lays167 : Go.Proofs.Lays.n167 Tryz.prog ren167 := {
  mixed := Tryz.lays156.mixed
  f167 := Tryz.func172.trans (congrArg some (by kernel_rfl))
  f240 := Tryz.lays156.f240
  f276 := Tryz.lays156.f276
  t5 := Tryz.Builder_Extra_156.t5
  a5 := Tryz.Builder_Extra_156.a5
  z5 := Tryz.Builder_Extra_156.z5
  v5 := Tryz.Builder_Extra_156.v5
  t0 := Tryz.lays156.t0
  a0 := Tryz.lays156.a0
  z0 := Tryz.lays156.z0
  v0 := Tryz.lays156.v0
  t4 := Tryz.lays156.t4
  a4 := Tryz.lays156.a4
  z4 := Tryz.lays156.z4
  v4 := Tryz.lays156.v4
  t9 := Tryz.lays156.t9
  a9 := Tryz.lays156.a9
  z9 := Tryz.lays156.z9
  v9 := Tryz.lays156.v9
  t20 := Tryz.lays156.t20
  a20 := Tryz.lays156.a20
  z20 := Tryz.lays156.z20
  v20 := Tryz.lays156.v20
  t37 := Tryz.lays156.t37
  a37 := Tryz.lays156.a37
  z37 := Tryz.lays156.z37
  v37 := Tryz.lays156.v37
  t70 := Tryz.lays156.t70
  a70 := Tryz.lays156.a70
  z70 := Tryz.lays156.z70
  v70 := Tryz.lays156.v70
  t72 := Tryz.lays156.t72
  a72 := Tryz.lays156.a72
  z72 := Tryz.lays156.z72
  v72 := Tryz.lays156.v72
  t75 := Tryz.lays156.t75
  a75 := Tryz.lays156.a75
  z75 := Tryz.lays156.z75
  v75 := Tryz.lays156.v75
  t164 := Tryz.lays156.t164
  a164 := Tryz.lays156.a164
  z164 := Tryz.lays156.z164
  v164 := Tryz.lays156.v164 }
theorem extra167 : Builder.Extra Tryz.prog ren167 := {
  sizeBuilder := by kernel_rfl
  liesBuilder := by kernel_rfl
  t5 := Tryz.Builder_Extra_156.t5
  a5 := Tryz.Builder_Extra_156.a5
  z5 := Tryz.Builder_Extra_156.z5
  v5 := Tryz.Builder_Extra_156.v5
  infoByte := by kernel_rfl
  cellsByte := by kernel_rfl
  sizeByte := by kernel_rfl
  neB5 := by decide }

theorem writeByte_any {c : UInt8} {n : Int} (hn : n = c.toNat) {w0 w : World} {b : Nat} {out : List UInt8} (h : Bld w0 b out w) (hl : out.length + 1 ≤ 140737488355328) :
    Calls Tryz.prog 172 #[.pointer (some ⟨b, 0, none⟩), .int .u8 n] w fun e w' => e = .returned .nilIface ∧ Bld w0 b (out ++ [c]) w' ∧ Lib.OthersKept 5 (some b) w w' := by
  refine (Any.Builder_WriteByte_k lays167 extra167 w0.heap.size b (Lib.byteCells out) n w h.1 (by simpa [Lib.byteCells] using hl) h.2.size).mono ?_
  rintro e w' ⟨rfl, h1, h2, h3⟩
  refine ⟨rfl, ⟨.inr ?_, h.2.trans h2⟩, h3⟩
  have : Lib.byteCells (out ++ [c]) = Lib.byteCells out ++ [.int .u8 n] := by
    subst hn
    simp [Lib.byteCells]
  rw [this]
  exact h1

theorem escL_snoc (f : UInt8 → Bool) (l : List UInt8) (c : UInt8) : escL f (l ++ [c]) = escL f l ++ esc1 f c := by
  unfold escL
  rw [List.flatMap_append]
  simp

set_option maxHeartbeats 2000000 in
set_option maxRecDepth 100000 in
theorem escape_any (s sm : ByteArray) {w0 w : World} {b : Nat} {out : List UInt8} (h : Bld w0 b out w) (hs : s.size ≤ 1048576) (hl : out.length ≤ 100000000000000) :
    Calls Tryz.prog 171 #[.pointer (some ⟨b, 0, none⟩), .string s, .string sm] w fun e w' => e = .returned (.tuple #[]) ∧ Bld w0 b (out ++ escL (fun c => sm.data.toList.contains c) s.data.toList) w' ∧ Lib.OthersKept 5 (some b) w w' := by
  have HB := Lib.hid h
  clear h
  go_enter Tryz.func171, Tryz.ntmps171
  go_wp2_with fail
  go_loopg [9] s.size (fun g i wx => ∃ k : Nat, k + g = s.size ∧ i = .int .i64 k ∧ Hid (Bld w0 b (out ++ escL (fun c => sm.data.toList.contains c) (s.data.toList.take k)) wx) ∧ Hid (Lib.OthersKept 5 (some b) w wx))
  case atStart => exact ⟨0, by omega, rfl, Lib.hid (by simpa [escL] using HB.out), Lib.hid (Lib.OthersKept.refl _ _ _)⟩
  case round =>
    clear HB
    obtain ⟨k, hk, rfl, HBk, HKk⟩ := hrel
    by_cases hlt : k < s.size
    · obtain ⟨g, rfl⟩ : ∃ g, gk = g + 1 := ⟨gk - 1, by omega⟩
      obtain ⟨ch, hch⟩ : ∃ ch : UInt8, s[k]'hlt = ch := ⟨_, rfl⟩
      have hcl : s.data.toList[k]? = some ch := by rw [← hch]; exact Lib.data_getElem? s k hlt
      have hT : s.data.toList.take (k + 1) = s.data.toList.take k ++ [ch] := by rw [List.take_add_one, hcl]; rfl
      have HT : Hid (out ++ escL (fun c => sm.data.toList.contains c) (s.data.toList.take (k + 1)) = (out ++ escL (fun c => sm.data.toList.contains c) (s.data.toList.take k)) ++ esc1 (fun c => sm.data.toList.contains c) ch) := Lib.hid (by rw [hT, escL_snoc, List.append_assoc])
      have hlen : (out ++ escL (fun c => sm.data.toList.contains c) (s.data.toList.take k)).length ≤ 110000000000000 := by
        have h1 := escL_len (fun c => sm.data.toList.contains c) (s.data.toList.take k)
        have h2 : (s.data.toList.take k).length ≤ s.size := by rw [List.length_take]; omega
        rw [List.length_append]
        omega
      generalize out ++ escL (fun c => sm.data.toList.contains c) (s.data.toList.take k) = o2 at *
      have HF := Lib.hid (fun W => hasByte_any sm ch W)
      have HE1 : Hid (esc1 (fun c => sm.data.toList.contains c) ch = if sm.data.toList.contains ch then [92, ch] else [ch]) := Lib.hid rfl
      generalize esc1 (fun c => sm.data.toList.contains c) ch = e1 at *
      generalize sm.data.toList.contains ch = bc at *
      clear hT hcl
      cases bc
      · have HT2 : Hid (out ++ escL (fun c => sm.data.toList.contains c) (s.data.toList.take (k + 1)) = o2 ++ [ch]) := Lib.hid (by rw [HT.out, HE1.out]; rfl)
        clear HT HE1
        go_wp2_with (go_at_call 131; refine (HF.out _).mono ?_; rintro e w' ⟨rfl, rfl⟩)
        refine (writeByte_any (c := ch) rfl HBk.out (by omega)).mono ?_
        rintro e w5 ⟨rfl, hB5, hK5⟩
        have HB5 := Lib.hid hB5
        have HK5 := Lib.hid hK5
        clear hB5 hK5
        go_wp2_with fail
        go_roundg g
        case measure => omega
        case rel => exact ⟨k + 1, by omega, by go_num, Lib.hid (by rw [HT2.out]; exact HB5.out), Lib.hid (HKk.out.trans HK5.out)⟩
      · have HT2 : Hid (out ++ escL (fun c => sm.data.toList.contains c) (s.data.toList.take (k + 1)) = o2 ++ [92] ++ [ch]) := Lib.hid (by rw [HT.out, HE1.out]; simp)
        clear HT HE1
        go_wp2_with (go_at_call 131; refine (HF.out _).mono ?_; rintro e w' ⟨rfl, rfl⟩)
        refine (writeByte_any (c := 92) rfl HBk.out (by omega)).mono ?_
        rintro e w5 ⟨rfl, hB5, hK5⟩
        have HB5 := Lib.hid hB5
        have HK5 := Lib.hid hK5
        clear hB5 hK5
        go_wp2_with fail
        refine (writeByte_any (c := ch) rfl HB5.out (by rw [List.length_append]; simp; omega)).mono ?_
        rintro e w6 ⟨rfl, hB6, hK6⟩
        have HB6 := Lib.hid hB6
        have HK6 := Lib.hid hK6
        clear hB6 hK6
        go_wp2_with fail
        go_roundg g
        case measure => omega
        case rel => exact ⟨k + 1, by omega, by go_num, Lib.hid (by rw [HT2.out]; exact HB6.out), Lib.hid ((HKk.out.trans HK5.out).trans HK6.out)⟩
    · have HBe : Hid (Bld w0 b (out ++ escL (fun c => sm.data.toList.contains c) s.data.toList) wr) := Lib.hid (by
        have := HBk.out
        rw [List.take_of_length_le (by rw [← Lib.size_eq]; omega)] at this
        exact this)
      clear HBk
      go_wp2_with fail
      go_end0
      exact ⟨rfl, HBe.out, HKk.out⟩
end Go.Proofs.YtfenmeacimfiaaaGreatDoor
namespace Go.Proofs.YtfenmeacimfiaaaGreatDoor
open Go.RowKit

def chr (n : Int) : ByteArray := ⟨#[UInt8.ofNat n.toNat]⟩

theorem run_chr (n : Int) (h0 : 0 ≤ n) (h1 : n ≤ 255) (W : World) : (convert 137 9 (.slice (some ⟨W.heap.size, 0, none⟩) 1 1)).run Tryz.prog (W.alloc (.cells #[.int .u8 n] 5)) = .ok (.string (chr n)) (W.alloc (.cells #[.int .u8 n] 5)) := by
  refine run_convert_bytes_back _ 137 9 5 ⟨W.heap.size, 0, none⟩ 1 [UInt8.ofNat n.toNat] Tryz.underlying137 Tryz.underlying5 Tryz.underlying9 fun j hj => ?_
  obtain rfl : j = 0 := by simpa using hj
  have e : (⟨W.heap.size, 0, none⟩ : Addr).add 0 = ⟨W.heap.size, 0, none⟩ := by unfold Addr.add; split <;> simp_all
  rw [e, World.cell?_alloc_at _ _ _ _ rfl]
  have : ((UInt8.ofNat n.toNat).toNat : Int) = n := by simp; omega
  simp only [List.getElem_cons_zero, this]
  rfl

set_option maxHeartbeats 2000000 in
set_option maxRecDepth 100000 in
theorem bound_any (n : Int) (pb : Nat) {w0 w : World} {b : Nat} {out : List UInt8} (h : Bld w0 b out w) (h0 : 0 ≤ n) (h1 : n ≤ 255) (hc : w.cell? ⟨pb, 0, none⟩ = some (.pointer (some ⟨b, 0, none⟩))) (hl : out.length ≤ 100000000000000) :
    Calls Tryz.prog 205 #[.int .i64 n, .pointer (some ⟨pb, 0, none⟩)] w fun e w' => e = .returned (.tuple #[]) ∧ Bld w0 b (out ++ bnd n) w' ∧ Lib.OthersKept 5 (some b) w w' := by
  have hcv := run_chr n h0 h1 w
  have hb := bAlloc (Below.refl w.heap.size w) (.cells #[.int .u8 n] 5)
  have HK := Lib.hid (kept_below (e := 5) (b := some b) hb)
  have HE := Lib.hid (escape_any (chr n) ⟨#[92, 93, 94, 45]⟩ (h.under hb) (by show 1 ≤ _; decide) hl)
  change Hid (Calls _ _ _ _ fun e w' => e = .returned (.tuple #[]) ∧ Bld w0 b (out ++ (esc1 bndS (UInt8.ofNat n.toNat) ++ [])) w' ∧ _) at HE
  rw [List.append_nil] at HE
  change Hid (Calls _ _ _ _ fun e w' => e = .returned (.tuple #[]) ∧ Bld w0 b (out ++ bnd n) w' ∧ _) at HE
  clear h hb
  go_enter Tryz.func205, Tryz.ntmps205
  go_wp2_with (go_at_call 171; refine HE.out.mono ?_; rintro e w5 ⟨rfl, hB5, hK5⟩)
  go_end0
  exact ⟨rfl, hB5, HK.out.trans hK5⟩

theorem bnd_len (n : Int) : (bnd n).length ≤ 2 := esc1_len _ _
theorem flat_snoc {α β : Type} {f : α → List β} {l : List α} {k : Nat} {x : α} (h : l[k]? = some x) : (l.take (k + 1)).flatMap f = (l.take k).flatMap f ++ f x := by
  rw [List.take_add_one, h, List.flatMap_append]
  simp

set_option maxHeartbeats 4000000 in
set_option maxRecDepth 100000 in
theorem printSet_any {α : Type} (q : PartOf α) {w0 w : World} {b : Nat} {out : List UInt8} (h : Bld w0 b out w) (hr : SlHolds w0 2 rgCells q.rg) (hg : ∀ r ∈ q.rg.xs, (1 ≤ r.1 ∧ r.1 ≤ 255) ∧ 1 ≤ r.2 ∧ r.2 ≤ 255) (hn : q.rg.xs.length ≤ 1048576) (hl : out.length ≤ 10000000000000) :
    Calls Tryz.prog 173 #[.pointer (some ⟨b, 0, none⟩), partVal q] w fun e w' => e = .returned (.tuple #[]) ∧ Bld w0 b (out ++ setTxt q.neg q.rg.xs) w' ∧ Lib.OthersKept 5 (some b) w w' := by
  have HR := Lib.hid hr
  have HG := Lib.hid hg
  have hbl := h.lt
  have hb1 : Below w.heap.size w ((w.alloc (.cells #[.pointer (some ⟨b, 0, none⟩)] 136)).alloc (.cells (partArr q) 212)) := bAlloc (bAlloc (Below.refl _ _) _) _
  have HB := Lib.hid (h.under hb1)
  have HK := Lib.hid (kept_below (e := 5) (b := some b) hb1)
  have HP := Lib.hid ((BoxIs.new w #[.pointer (some ⟨b, 0, none⟩)] 136).under (bAlloc (Below.refl _ _) (.cells (partArr q) 212)))
  have HQ := Lib.hid (BoxIs.new (w.alloc (.cells #[.pointer (some ⟨b, 0, none⟩)] 136)) (partArr q) 212)
  have hsz : (w.alloc (.cells #[.pointer (some ⟨b, 0, none⟩)] 136)).heap.size = w.heap.size + 1 := by simp
  rw [hsz] at HQ
  obtain ⟨o9, ho9⟩ : ∃ o9, out ++ setTxt q.neg q.rg.xs = o9 := ⟨_, rfl⟩
  have HO9 : Hid ((out ++ ([91] ++ if q.neg then [94] else [])) ++ q.rg.xs.flatMap rgTxt ++ [93] = o9) := Lib.hid (by rw [← ho9]; unfold setTxt; simp only [List.append_assoc])
  rw [ho9]
  clear h hr hg hb1 hsz ho9
  go_enter Tryz.func173, Tryz.ntmps173
  go_upto_region 2 with fail
  generalize (w.alloc _).alloc _ = w1 at *
  generalize w.heap.size = z at *
  have c0 := HP.out.cell (j := 0) rfl
  go_wp2_with fail
  refine (writeByte_any (c := 91) rfl HB.out (by omega)).mono ?_
  rintro e w2 ⟨rfl, hB2, hK2⟩
  have HB2 := Lib.hid hB2
  have HK2 := Lib.hid (HK.out.trans hK2)
  have HP2 := Lib.hid (HP.out.kept hK2 (by omega) (by decide))
  have HQ2 := Lib.hid (HQ.out.kept hK2 (by omega) (by decide))
  clear c0 hB2 hK2 HB HK HP HQ
  obtain ⟨kind, text, neg, ⟨ra, rc, rxs⟩, ⟨wa, wcap, wxs⟩⟩ := q
  simp only [] at *
  obtain ⟨p0, p1, p2, p3, p4, p5⟩ := HQ2.out.part
  have c0 := HP2.out.cell (j := 0) rfl
  simp only [] at p3
  go_upto_if 11 with fail
  go_cut [] (fun wx => Hid (Bld w0 b (out ++ ([91] ++ if neg then [94] else [])) wx) ∧ Hid (Lib.OthersKept 5 (some b) w wx) ∧ Hid (BoxIs wx z #[.pointer (some ⟨b, 0, none⟩)] 136) ∧ Hid (BoxIs wx (z + 1) #[.int .i64 kind, .string text, .bool neg, .slice ra rxs.length rc, .slice wa wxs.length wcap] 212))
  case first =>
    cases neg
    · go_wp2_with fail
      go_meet
      exact ⟨HB2, HK2, HP2, HQ2⟩
    · go_wp2_with fail
      refine (writeByte_any (c := 94) rfl HB2.out (by rw [List.length_append]; simp; omega)).mono ?_
      rintro e w3 ⟨rfl, hB3, hK3⟩
      have HB3 : Hid (Bld w0 b (out ++ ([91] ++ [94])) w3) := Lib.hid (by rw [← List.append_assoc]; exact hB3)
      have HK3 := Lib.hid hK3
      clear hB3 hK3
      go_wp2_with fail
      go_meet
      exact ⟨HB3, Lib.hid (HK2.out.trans HK3.out), Lib.hid (HP2.out.kept HK3.out (by omega) (by decide)), Lib.hid (HQ2.out.kept HK3.out (by omega) (by decide))⟩
  case rest =>
    obtain ⟨HB3, HK3, HP3, HQ3⟩ := hcut
    have hl3 : (out ++ ([91] ++ if neg then [94] else [])).length ≤ 10000000000100 := by
      rw [List.length_append]
      cases neg <;> simp <;> omega
    generalize out ++ ([91] ++ if neg then [94] else []) = o3 at *
    clear HB2 HK2 HP2 HQ2 p0 p1 p2 p3 p4 p5 c0
    obtain ⟨p0, p1, p2, p3, p4, p5⟩ := HQ3.out.part (p := (⟨kind, text, neg, ⟨ra, rc, rxs⟩, ⟨wa, wcap, wxs⟩⟩ : PartOf α))
    simp only [] at p4
    clear p0 p1 p2 p3 p5
    go_wp2_with fail
    clear p4
    obtain ⟨w3, rfl⟩ : ∃ w3 : World, w3 = wc := ⟨_, rfl⟩
    go_loopg [17] rxs.length (fun g i wx => ∃ k : Nat, k + g = rxs.length ∧ i = .int .i64 k ∧ Hid (Bld w0 b (o3 ++ (rxs.take k).flatMap rgTxt) wx) ∧ Hid (Lib.OthersKept 5 (some b) w wx) ∧ Hid (BoxIs wx z #[.pointer (some ⟨b, 0, none⟩)] 136))
    case atStart => exact ⟨0, by omega, rfl, Lib.hid (by simpa using HB3.out), HK3, HP3⟩
    case round =>
      clear HB3 HK3 HP3
      obtain ⟨k, hk, rfl, HB4, HK4, HP4⟩ := hrel
      by_cases hlt : k < rxs.length
      · obtain ⟨g, rfl⟩ : ∃ g, gk = g + 1 := ⟨gk - 1, by omega⟩
        obtain ⟨⟨x, y⟩, hx⟩ : ∃ r : Int × Int, rxs[k]? = some r := ⟨_, List.getElem?_eq_getElem hlt⟩
        obtain ⟨⟨x1, x2⟩, y1, y2⟩ := HG.out _ (List.mem_of_getElem? hx)
        obtain ⟨ba, off, ha, hba, r0, r1⟩ := pairRow (HR.out.under HB4.out.below) hx
        have HT : Hid (o3 ++ (rxs.take (k + 1)).flatMap rgTxt = (o3 ++ (rxs.take k).flatMap rgTxt) ++ rgTxt (x, y)) := Lib.hid (by rw [flat_snoc hx, List.append_assoc])
        have hlen : (o3 ++ (rxs.take k).flatMap rgTxt).length ≤ 10000010000000 := by
          have h1 := flat_le (l := rxs.take k) (f := rgTxt) (g := fun _ => 5) (fun r _ => rgTxt_len r)
          rw [const_sum] at h1
          have h2 : (rxs.take k).length ≤ rxs.length := by rw [List.length_take]; omega
          rw [List.length_append]
          omega
        generalize o3 ++ (rxs.take k).flatMap rgTxt = o4 at *
        simp only [] at x1 x2 y1 y2 ha r0 r1
        subst ha
        have hbx := bAlloc (Below.refl wr.heap.size wr) (.cells #[.int .i64 x, .int .i64 y] 164)
        have HX5 := Lib.hid (BoxIs.new wr #[.int .i64 x, .int .i64 y] 164)
        have HB5 := Lib.hid (HB4.out.under hbx)
        have HK5 := Lib.hid (HK4.out.trans (kept_below (e := 5) (b := some b) hbx))
        have HP5 := Lib.hid (HP4.out.under hbx)
        have hzx : b < wr.heap.size := HB4.out.lt
        clear hx HB4 HK4 HP4 hbx
        go_upto_region 8 with fail
        generalize wr.alloc _ = w5 at *
        generalize wr.heap.size = zx at *
        clear r0 r1
        obtain ⟨q0, q1, q2⟩ := HX5.out.pair
        have HC := Lib.hid (bound_any x z HB5.out (by omega) x2 (HP5.out.cell rfl) (by omega))
        rcases (by omega : (¬ x < y ∧ ¬ x + 1 < y) ∨ (x < y ∧ ¬ x + 1 < y) ∨ (x < y ∧ x + 1 < y)) with ⟨d1, d2⟩ | ⟨d1, d2⟩ | ⟨d1, d2⟩
        · have HT2 : Hid (o3 ++ (rxs.take (k + 1)).flatMap rgTxt = o4 ++ bnd x) := Lib.hid (by rw [HT.out]; unfold rgTxt; rw [if_neg d2, if_neg d1]; simp)
          clear HT
          go_wp2_with fail
          refine HC.out.mono ?_
          rintro e w6 ⟨rfl, hB6, hK6⟩
          have HB6 := Lib.hid hB6
          have HK6 := Lib.hid (HK5.out.trans hK6)
          have HP6 := Lib.hid (HP5.out.kept hK6 (by omega) (by decide))
          have HX6 := Lib.hid (HX5.out.kept hK6 (by omega) (by decide))
          clear q0 q1 q2 hB6 hK6 HC HB5 HK5 HP5 HX5
          obtain ⟨q0, q1, q2⟩ := HX6.out.pair
          go_wp2_with fail
          go_roundg g
          case measure => omega
          case rel => exact ⟨k + 1, by omega, by go_num, Lib.hid (by rw [HT2.out]; exact HB6.out), HK6, HP6⟩
        · have HT2 : Hid (o3 ++ (rxs.take (k + 1)).flatMap rgTxt = o4 ++ bnd x ++ bnd y) := Lib.hid (by rw [HT.out]; unfold rgTxt; rw [if_neg d2, if_pos d1]; simp)
          clear HT
          go_wp2_with fail
          refine HC.out.mono ?_
          rintro e w6 ⟨rfl, hB6, hK6⟩
          have HB6 := Lib.hid hB6
          have HK6 := Lib.hid (HK5.out.trans hK6)
          have HP6 := Lib.hid (HP5.out.kept hK6 (by omega) (by decide))
          have HX6 := Lib.hid (HX5.out.kept hK6 (by omega) (by decide))
          clear q0 q1 q2 hB6 hK6 HC HB5 HK5 HP5 HX5
          obtain ⟨q0, q1, q2⟩ := HX6.out.pair
          have HC := Lib.hid (bound_any y z HB6.out (by omega) y2 (HP6.out.cell rfl) (by have := bnd_len x; rw [List.length_append]; omega))
          go_wp2_with fail
          refine HC.out.mono ?_
          rintro e w7 ⟨rfl, hB7, hK7⟩
          have HB7 := Lib.hid hB7
          have HK7 := Lib.hid (HK6.out.trans hK7)
          have HP7 := Lib.hid (HP6.out.kept hK7 (by omega) (by decide))
          clear q0 q1 q2 hB7 hK7 HC HB6 HK6 HP6 HX6
          go_wp2_with fail
          go_roundg g
          case measure => omega
          case rel => exact ⟨k + 1, by omega, by go_num, Lib.hid (by rw [HT2.out]; exact HB7.out), HK7, HP7⟩
        · have HT2 : Hid (o3 ++ (rxs.take (k + 1)).flatMap rgTxt = o4 ++ bnd x ++ [45] ++ bnd y) := Lib.hid (by rw [HT.out]; unfold rgTxt; rw [if_pos d2, if_pos d1]; simp)
          clear HT
          go_wp2_with fail
          refine HC.out.mono ?_
          rintro e w6 ⟨rfl, hB6, hK6⟩
          have HB6 := Lib.hid hB6
          have HK6 := Lib.hid (HK5.out.trans hK6)
          have HP6 := Lib.hid (HP5.out.kept hK6 (by omega) (by decide))
          have HX6 := Lib.hid (HX5.out.kept hK6 (by omega) (by decide))
          clear q0 q1 q2 hB6 hK6 HC HB5 HK5 HP5 HX5
          obtain ⟨q0, q1, q2⟩ := HX6.out.pair
          have c0 := HP6.out.cell (j := 0) rfl
          go_wp2_with fail
          refine (writeByte_any (c := 45) rfl HB6.out (by have := bnd_len x; rw [List.length_append]; omega)).mono ?_
          rintro e w7 ⟨rfl, hB7, hK7⟩
          have HB7 := Lib.hid hB7
          have HK7 := Lib.hid (HK6.out.trans hK7)
          have HP7 := Lib.hid (HP6.out.kept hK7 (by omega) (by decide))
          have HX7 := Lib.hid (HX6.out.kept hK7 (by omega) (by decide))
          clear q0 q1 q2 c0 hB7 hK7 HB6 HK6 HP6 HX6
          obtain ⟨q0, q1, q2⟩ := HX7.out.pair
          have HC := Lib.hid (bound_any y z HB7.out (by omega) y2 (HP7.out.cell rfl) (by have := bnd_len x; rw [List.length_append, List.length_append]; simp; omega))
          go_wp2_with fail
          refine HC.out.mono ?_
          rintro e w8 ⟨rfl, hB8, hK8⟩
          have HB8 := Lib.hid hB8
          have HK8 := Lib.hid (HK7.out.trans hK8)
          have HP8 := Lib.hid (HP7.out.kept hK8 (by omega) (by decide))
          clear q0 q1 q2 hB8 hK8 HC HB7 HK7 HP7 HX7
          go_wp2_with fail
          go_roundg g
          case measure => omega
          case rel => exact ⟨k + 1, by omega, by go_num, Lib.hid (by rw [HT2.out]; exact HB8.out), HK8, HP8⟩
      · obtain rfl : k = rxs.length := by omega
        have c0 := HP4.out.cell (j := 0) rfl
        have hlen : (o3 ++ (rxs.take rxs.length).flatMap rgTxt).length ≤ 10000010000000 := by
          have h1 := flat_le (l := rxs.take rxs.length) (f := rgTxt) (g := fun _ => 5) (fun r _ => rgTxt_len r)
          rw [const_sum, List.length_take] at h1
          rw [List.length_append]
          omega
        go_wp2_with fail
        refine (writeByte_any (c := 93) rfl HB4.out (by omega)).mono ?_
        rintro e w7 ⟨rfl, hB7, hK7⟩
        have HB7 := Lib.hid hB7
        have HK7 := Lib.hid (HK4.out.trans hK7)
        clear hB7 hK7 c0
        go_wp2_with fail
        go_end0
        refine ⟨rfl, ?_, HK7.out⟩
        have := HB7.out
        rw [List.take_of_length_le (Nat.le_refl _), HO9.out] at this
        exact this
end Go.Proofs.YtfenmeacimfiaaaGreatDoor
namespace Go.Proofs.YtfenmeacimfiaaaGreatDoor
open Go.RowKit

def sm (d : Bool) : ByteArray := if d then ⟨#[92, 42, 63, 91, 93, 123, 125, 44]⟩ else ⟨#[92, 42, 63, 91, 93, 123, 125]⟩
theorem sm_spc (d : Bool) : (fun c => (sm d).data.toList.contains c) = spc d := by
  funext c
  cases d
  · show _ = (_ || false)
    rw [Bool.or_false]
    rfl
  · show (([92, 42, 63, 91, 93, 123, 125, 44] : List UInt8).contains c) = (([92, 42, 63, 91, 93, 123, 125] : List UInt8).contains c || (c == 44))
    simp only [List.contains_cons, List.contains_nil, Bool.or_false, Bool.or_assoc]
/-- Ways that have been written so far. -/
def wTo : List (List UInt8) → List UInt8
  | [] => []
  | x :: r => 123 :: (x ++ Lib.joinTail [44] r)
theorem wTo_snoc (l : List (List UInt8)) (y : List UInt8) : wTo (l ++ [y]) = wTo l ++ [if l.length = 0 then 123 else 44] ++ y := by
  cases l with
  | nil => simp [wTo, Lib.joinTail]
  | cons x r => simp [wTo, Lib.joinTail]
theorem wTo_end {l : List (List UInt8)} (h : l ≠ []) : wTo l ++ [125] = waysTxt l := by
  cases l with
  | nil => exact absurd rfl h
  | cons x r =>
    unfold waysTxt wTo
    rw [Lib.join_cons]
    simp
theorem wTo_step {α : Type} {f : α → List UInt8} {l : List α} {k : Nat} {x : α} (h : l[k]? = some x) : wTo ((l.take (k + 1)).map f) = wTo ((l.take k).map f) ++ [if k = 0 then 123 else 44] ++ f x := by
  have hl := (List.getElem?_eq_some_iff.1 h).1
  rw [take_map_snoc f h, wTo_snoc, List.length_map, List.length_take]
  congr 2
  congr 1
  by_cases h0 : k = 0
  · subst h0
    simp
  · rw [if_neg (by omega), if_neg h0]
theorem wTo_len (l : List (List UInt8)) : (wTo l).length ≤ (l.map (fun x => x.length + 1)).sum := by
  cases l with
  | nil => simp [wTo]
  | cons x r =>
    unfold wTo
    rw [lens_succ, List.length_cons, List.length_append, Lib.joinTail_length]
    unfold Lib.lens
    rw [List.map_cons, List.sum_cons]
    simp only [List.length_cons, List.length_nil]
    omega

theorem brace_at (m : Nat) (h : m < 2) : ((⟨#[123, 44]⟩ : ByteArray)[m]'h).toNat = if m = 0 then 123 else 44 := by
  match m, h with
  | 0, _ => rfl
  | 1, _ => rfl
theorem sum_six {α : Type} (f : α → Nat) : ∀ (l : List α), (l.map (fun s => 6 * (1 + f s))).sum = 6 * (l.map (fun s => 1 + f s)).sum
  | [] => rfl
  | a :: l => by
    rw [List.map_cons, List.sum_cons, List.map_cons, List.sum_cons, sum_six f l]
    omega

set_option maxHeartbeats 4000000 in
set_option maxRecDepth 100000 in
theorem printParts_any : ∀ (n : Nat) (s : Sl (P n)) (d : Bool) (w0 w : World) (b : Nat) (out : List UInt8), Bld w0 b out w → SOk w0 n s → Good n s.xs → szL n s.xs ≤ 1048576 → out.length + 6 * szL n s.xs ≤ 1000000000 →
    Calls Tryz.prog 118 #[.pointer (some ⟨b, 0, none⟩), .slice s.a s.xs.length s.c, .bool d] w fun e w' => e = .returned (.tuple #[]) ∧ Bld w0 b (out ++ txt n d s.xs) w' ∧ Lib.OthersKept 5 (some b) w w' := by
  have hadd : ∀ W : World, (Op.stringOp .add ⟨#[92, 42, 63, 91, 93, 123, 125]⟩ ⟨#[44]⟩).run Tryz.prog W = .ok (.string ⟨#[92, 42, 63, 91, 93, 123, 125, 44]⟩) W := fun W => by kernel_rfl
  intro n
  induction n with
  | zero =>
    intro s d w0 w b out h _ _ _ _
    have HB := Lib.hid h
    clear h
    obtain ⟨a, c, xs⟩ := s
    cases xs with
    | cons x _ => exact nomatch x
    | nil =>
      cases d
      all_goals
        go_enter Tryz.func118, Tryz.ntmps118
        go_wp2_with fail
        refine wp_loop_rounds 1 ?_
        rw [rounds_succ]
        go_wp2_with fail
        go_end0
        exact ⟨rfl, by simpa [txt] using HB.out, Lib.OthersKept.refl _ _ _⟩
  | succ n ih =>
    rintro ⟨sa, sc, xs⟩ d w0 w b out h hs hg hz hl
    have hlen : xs.length ≤ 1048576 := Nat.le_trans (len_le_sz (n + 1) xs) hz
    simp only [] at hz hl hg
    have HB := Lib.hid h
    have HS := Lib.hid hs
    have HG := Lib.hid hg
    have HIH := Lib.hid ih
    clear h hs hg ih
    go_enter Tryz.func118, Tryz.ntmps118
    go_upto_if 11 with fail
    go_cut [6] (fun s6 wx => s6 = .string (sm d) ∧ w = wx)
    case first =>
      cases d
      all_goals
        go_wp2_with fail
        go_meet
        exact ⟨rfl, rfl⟩
    case rest =>
    obtain ⟨rfl, rfl⟩ := hcut
    clear hadd
    go_wp2_with fail
    go_loopg [16] xs.length (fun g i wx => ∃ k : Nat, k + g = xs.length ∧ i = .int .i64 k ∧ Hid (Bld w0 b (out ++ txt (n + 1) d (xs.take k)) wx) ∧ Hid (Lib.OthersKept 5 (some b) w wx))
    case atStart => exact ⟨0, by omega, rfl, Lib.hid (by simpa [txt] using HB.out), Lib.hid (Lib.OthersKept.refl _ _ _)⟩
    case round =>
      clear HB
      obtain ⟨k, hk, rfl, HB, HK⟩ := hrel
      by_cases hlt : k < xs.length
      · obtain ⟨g, rfl⟩ : ∃ g, gk = g + 1 := ⟨gk - 1, by omega⟩
        obtain ⟨p, hx⟩ : ∃ p : P (n + 1), xs[k]? = some p := ⟨_, List.getElem?_eq_getElem hlt⟩
        have hmem := List.mem_of_getElem? hx
        obtain ⟨ba, off, ha, hba, r0, r1, r2, r3, r4⟩ := partRow (p := pt n p) ((HS.out.under HB.out.below).1) hx
        have HPo : Hid (POk w0 (n + 1) p) := Lib.hid (HS.out.2 p hmem)
        obtain ⟨⟨kd1, kd6⟩, hbad, hrg, hways⟩ := HG.out p hmem
        have hsp : sz (n + 1) p ≤ 1048576 := Nat.le_trans (le_sum (List.mem_map.2 ⟨p, hmem, rfl⟩)) hz
        have hszp : sz (n + 1) p = 1 + (pt n p).text.size + (pt n p).rg.xs.length + ((pt n p).ways.xs.map (fun s => 1 + szL n s.xs)).sum := rfl
        have hrl : (pt n p).rg.xs.length ≤ 1048576 := by omega
        have htl : (pt n p).text.size ≤ 1048576 := by omega
        have hws : ((pt n p).ways.xs.map (fun s => 1 + szL n s.xs)).sum ≤ 1048576 := by omega
        have hwl : (pt n p).ways.xs.length ≤ 1048576 := by
          have := sum_mono (xs := (pt n p).ways.xs) (f := fun _ => 1) (g := fun s => 1 + szL n s.xs) (fun s _ => by omega)
          rw [sum_ones1] at this
          omega
        have hol : (out ++ txt (n + 1) d (xs.take k)).length + 6 * sz (n + 1) p ≤ 1000000000 := by
          have h1 := txt_len (n + 1) d (xs.take k)
          have h2 : szL (n + 1) (xs.take (k + 1)) ≤ szL (n + 1) xs := sum_take_le _ _ _
          have h3 : szL (n + 1) (xs.take (k + 1)) = szL (n + 1) (xs.take k) + sz (n + 1) p := by
            unfold szL
            rw [take_map_snoc _ hx, List.sum_append]
            simp
          rw [List.length_append]
          omega
        rw [hszp] at hol
        obtain ⟨E, hE⟩ : ∃ E, txtOf (fun s => txt n true s.xs) d (pt n p) = E := ⟨_, rfl⟩
        have HT : Hid (out ++ txt (n + 1) d (xs.take (k + 1)) = (out ++ txt (n + 1) d (xs.take k)) ++ E) := Lib.hid (by
          rw [← hE]
          show out ++ (xs.take (k + 1)).flatMap _ = out ++ (xs.take k).flatMap _ ++ _
          rw [flat_snoc hx, List.append_assoc])
        have HE := Lib.hid hE
        have HPo2 : Hid (SlHolds w0 2 rgCells (pt n p).rg ∧ SlHolds w0 1 (fun s : Sl (P n) => [s.val]) (pt n p).ways ∧ ∀ s ∈ (pt n p).ways.xs, SOk w0 n s) := Lib.hid ⟨HPo.out.2.1, HPo.out.2.2.2.1, HPo.out.2.2.2.2⟩
        have HRg := Lib.hid hrg
        have HWs := Lib.hid hways
        have HBad := Lib.hid hbad
        clear HPo hx hsp hszp hmem hE hrg hways hbad
        generalize out ++ txt (n + 1) d (xs.take k) = oA at *
        generalize pt n p = q at *
        obtain ⟨kind, text, neg, ⟨ra, rc, rxs⟩, ⟨wa, wcap, wxs⟩⟩ := q
        simp only [] at *
        subst ha
        have hbx := bAlloc (Below.refl wr.heap.size wr) (.cells #[.int .i64 kind, .string text, .bool neg, .slice ra rxs.length rc, .slice wa wxs.length wcap] 212)
        have HX5 := Lib.hid (BoxIs.new wr #[.int .i64 kind, .string text, .bool neg, .slice ra rxs.length rc, .slice wa wxs.length wcap] 212)
        have HB5 := Lib.hid (HB.out.under hbx)
        have HK5 := Lib.hid (HK.out.trans (kept_below (e := 5) (b := some b) hbx))
        have hzx : b < wr.heap.size := HB.out.lt
        clear HB HK hbx
        go_upto_region 6 with fail
        generalize wr.alloc _ = w5 at *
        generalize wr.heap.size = zx at *
        clear r0 r1 r2 r3 r4
        obtain ⟨q0, q1, q2, q3, q4, q5⟩ := HX5.out.part (p := (⟨kind, text, neg, ⟨ra, rc, rxs⟩, ⟨wa, wcap, wxs⟩⟩ : PartOf (P n)))
        simp only [] at q1 q2 q3 q4 q5
        rcases (by omega : kind = 1 ∨ kind = 2 ∨ kind = 3 ∨ kind = 4 ∨ kind = 5 ∨ kind = 6) with rfl | rfl | rfl | rfl | rfl | rfl
        · have HC := Lib.hid (escape_any text (sm d) HB5.out htl (by omega))
          rw [sm_spc] at HC
          have HT2 : Hid (out ++ txt (n + 1) d (xs.take (k + 1)) = oA ++ escL (spc d) text.data.toList) := Lib.hid (by rw [HT.out, ← HE.out]; rfl)
          clear HT HE
          go_wp2_with fail
          refine HC.out.mono ?_
          rintro e w6 ⟨rfl, hB6, hK6⟩
          have HB6 := Lib.hid hB6
          have HK6 := Lib.hid (HK5.out.trans hK6)
          clear q0 q1 q2 q3 q4 q5 hB6 hK6 HC HB5 HK5
          go_wp2_with fail
          go_roundg g
          case measure => omega
          case rel => exact ⟨k + 1, by omega, by go_num, Lib.hid (by rw [HT2.out]; exact HB6.out), HK6⟩
        · have HT2 : Hid (out ++ txt (n + 1) d (xs.take (k + 1)) = oA ++ [63]) := Lib.hid (by rw [HT.out, ← HE.out]; rfl)
          clear HT HE
          go_wp2_with fail
          refine (writeByte_any (c := 63) rfl HB5.out (by omega)).mono ?_
          rintro e w6 ⟨rfl, hB6, hK6⟩
          have HB6 := Lib.hid hB6
          have HK6 := Lib.hid (HK5.out.trans hK6)
          clear q0 q1 q2 q3 q4 q5 hB6 hK6 HB5 HK5
          go_wp2_with fail
          go_roundg g
          case measure => omega
          case rel => exact ⟨k + 1, by omega, by go_num, Lib.hid (by rw [HT2.out]; exact HB6.out), HK6⟩
        · have HT2 : Hid (out ++ txt (n + 1) d (xs.take (k + 1)) = oA ++ [42]) := Lib.hid (by rw [HT.out, ← HE.out]; rfl)
          clear HT HE
          go_wp2_with fail
          refine (writeByte_any (c := 42) rfl HB5.out (by omega)).mono ?_
          rintro e w6 ⟨rfl, hB6, hK6⟩
          have HB6 := Lib.hid hB6
          have HK6 := Lib.hid (HK5.out.trans hK6)
          clear q0 q1 q2 q3 q4 q5 hB6 hK6 HB5 HK5
          go_wp2_with fail
          go_roundg g
          case measure => omega
          case rel => exact ⟨k + 1, by omega, by go_num, Lib.hid (by rw [HT2.out]; exact HB6.out), HK6⟩
        · have HT2 : Hid (out ++ txt (n + 1) d (xs.take (k + 1)) = oA ++ (⟨#[42, 42]⟩ : ByteArray).data.toList) := Lib.hid (by rw [HT.out, ← HE.out]; rfl)
          clear HT HE
          go_wp2_with fail
          refine (writeString_any ⟨#[42, 42]⟩ HB5.out (by show _ + 2 ≤ _; omega)).mono ?_
          rintro e w6 ⟨rfl, hB6, hK6⟩
          have HB6 := Lib.hid hB6
          have HK6 := Lib.hid (HK5.out.trans hK6)
          clear q0 q1 q2 q3 q4 q5 hB6 hK6 HB5 HK5
          go_wp2_with fail
          go_roundg g
          case measure => omega
          case rel => exact ⟨k + 1, by omega, by go_num, Lib.hid (by rw [HT2.out]; exact HB6.out), HK6⟩
        · have HT2 : Hid (out ++ txt (n + 1) d (xs.take (k + 1)) = oA ++ setTxt neg rxs) := Lib.hid (by rw [HT.out, ← HE.out]; rfl)
          have HC := Lib.hid (printSet_any (⟨5, text, neg, ⟨ra, rc, rxs⟩, ⟨wa, wcap, wxs⟩⟩ : PartOf (P n)) HB5.out HPo2.out.1 HRg.out hrl (by omega))
          simp only [] at HC
          clear HT HE
          go_wp2_with fail
          refine HC.out.mono ?_
          rintro e w6 ⟨rfl, hB6, hK6⟩
          have HB6 := Lib.hid hB6
          have HK6 := Lib.hid (HK5.out.trans hK6)
          clear q0 q1 q2 q3 q4 q5 hB6 hK6 HC HB5 HK5
          go_wp2_with fail
          go_roundg g
          case measure => omega
          case rel => exact ⟨k + 1, by omega, by go_num, Lib.hid (by rw [HT2.out]; exact HB6.out), HK6⟩
        · have hwne : wxs ≠ [] := ways_some (p := (⟨6, text, neg, ⟨ra, rc, rxs⟩, ⟨wa, wcap, wxs⟩⟩ : PartOf (P n))) rfl HBad.out
          have HT2 : Hid (out ++ txt (n + 1) d (xs.take (k + 1)) = oA ++ wTo (wxs.map (fun s => txt n true s.xs)) ++ [125]) := Lib.hid (by
            rw [List.append_assoc, wTo_end (by simpa using hwne), HT.out, ← HE.out]
            rfl)
          clear HT HE hwne
          obtain ⟨wo, rfl⟩ : ∃ wo : World, wo = wr := ⟨_, rfl⟩
          go_wp2_with fail
          clear q0 q1 q2 q3 q4 q5
          go_loopg [51] wxs.length (fun g i wx => ∃ j : Nat, j + g = wxs.length ∧ i = .int .i64 j ∧ Hid (Bld w0 b (oA ++ wTo ((wxs.take j).map (fun s => txt n true s.xs))) wx) ∧ Hid (Lib.OthersKept 5 (some b) w wx))
          case atStart => exact ⟨0, by omega, rfl, Lib.hid (by simpa [wTo] using HB5.out), HK5⟩
          case round =>
            clear HB5 HK5
            obtain ⟨j, hj, rfl, HB5, HK5⟩ := hrel
            by_cases hlt2 : j < wxs.length
            · obtain ⟨g2, rfl⟩ : ∃ g2, gk = g2 + 1 := ⟨gk - 1, by omega⟩
              obtain ⟨t, hx⟩ : ∃ t : Sl (P n), wxs[j]? = some t := ⟨_, List.getElem?_eq_getElem hlt2⟩
              obtain ⟨bw, ow, ha, hbw, r0⟩ := wayRow (HPo2.out.2.1.under HB5.out.below) hx
              have hmem := List.mem_of_getElem? hx
              have hto := HPo2.out.2.2 t hmem
              have hgo := HWs.out t hmem
              have HTj : Hid (oA ++ wTo ((wxs.take (j + 1)).map (fun s => txt n true s.xs)) = oA ++ wTo ((wxs.take j).map (fun s => txt n true s.xs)) ++ [if j = 0 then 123 else 44] ++ txt n true t.xs) := Lib.hid (by
                rw [wTo_step (f := fun s : Sl (P n) => txt n true s.xs) hx]
                simp only [List.append_assoc])
              have hbnd : (oA ++ wTo ((wxs.take j).map (fun s => txt n true s.xs))).length + 1 + 6 * szL n t.xs ≤ 1000000000 ∧ szL n t.xs ≤ 1048576 := by
                have h1 := wTo_len ((wxs.take j).map (fun s => txt n true s.xs))
                rw [List.map_map] at h1
                have h2 := sum_mono (xs := wxs.take j) (f := (fun x : List UInt8 => x.length + 1) ∘ (fun s : Sl (P n) => txt n true s.xs)) (g := fun s => 6 * (1 + szL n s.xs)) (fun s _ => by
                  have := txt_len n true s.xs
                  show (txt n true s.xs).length + 1 ≤ _
                  omega)
                have h3 : ((wxs.take (j + 1)).map (fun s => 6 * (1 + szL n s.xs))).sum = ((wxs.take j).map (fun s => 6 * (1 + szL n s.xs))).sum + 6 * (1 + szL n t.xs) := by
                  rw [take_map_snoc _ hx, List.sum_append]
                  simp
                have h4 : ((wxs.take (j + 1)).map (fun s => 6 * (1 + szL n s.xs))).sum ≤ (wxs.map (fun s => 6 * (1 + szL n s.xs))).sum := sum_take_le _ _ _
                have h5 : (wxs.map (fun s => 6 * (1 + szL n s.xs))).sum = 6 * (wxs.map (fun s => 1 + szL n s.xs)).sum := sum_six (fun s : Sl (P n) => szL n s.xs) _
                have h6 : 1 + szL n t.xs ≤ (wxs.map (fun s => 1 + szL n s.xs)).sum := le_sum (List.mem_map.2 ⟨t, hmem, rfl⟩)
                rw [List.length_append]
                omega
              obtain ⟨hb1, hb2⟩ := hbnd
              generalize oA ++ wTo ((wxs.take j).map (fun s => txt n true s.xs)) = o6 at *
              simp only [] at ha
              cases ha
              have hblt : b < wr.heap.size := HB5.out.lt
              clear hx hmem
              by_cases j0 : j = 0
              · have HTk : Hid (oA ++ wTo ((wxs.take (j + 1)).map (fun s => txt n true s.xs)) = o6 ++ [123] ++ txt n true t.xs) := Lib.hid (by rw [HTj.out, if_pos j0])
                subst j0
                rw [Nat.add_zero] at r0
                clear HTj
                go_wp2_with fail
                refine (writeByte_any (c := 123) rfl HB5.out (by omega)).mono ?_
                rintro e w6 ⟨rfl, hB6, hK6⟩
                have HB6 := Lib.hid hB6
                have HK6 := Lib.hid (HK5.out.trans hK6)
                have HC := Lib.hid (HIH.out t true w0 w6 b _ hB6 hto hgo hb2 (by rw [List.length_append]; simp; omega))
                clear r0 hB6 hK6 HB5 HK5
                go_wp2_with fail
                refine HC.out.mono ?_
                rintro e w7 ⟨rfl, hB7, hK7⟩
                have HB7 := Lib.hid hB7
                have HK7 := Lib.hid (HK6.out.trans hK7)
                clear hB7 hK7 HB6 HK6 HC
                go_wp2_with fail
                go_roundg g2
                case measure => omega
                case rel => exact ⟨0 + 1, by omega, by go_num, Lib.hid (by rw [HTk.out]; exact HB7.out), HK7⟩
              · have HTk : Hid (oA ++ wTo ((wxs.take (j + 1)).map (fun s => txt n true s.xs)) = o6 ++ [44] ++ txt n true t.xs) := Lib.hid (by rw [HTj.out, if_neg j0])
                have j1 : 1 ≤ j := by omega
                clear HTj j0
                go_wp2_with fail
                refine (writeByte_any (c := 44) (by rw [brace_at _ (by omega), if_neg (by omega)]; rfl) HB5.out (by omega)).mono ?_
                rintro e w6 ⟨rfl, hB6, hK6⟩
                have HB6 := Lib.hid hB6
                have HK6 := Lib.hid (HK5.out.trans hK6)
                have HC := Lib.hid (HIH.out t true w0 w6 b _ hB6 hto hgo hb2 (by rw [List.length_append]; simp; omega))
                clear r0 hB6 hK6 HB5 HK5
                go_wp2_with fail
                refine HC.out.mono ?_
                rintro e w7 ⟨rfl, hB7, hK7⟩
                have HB7 := Lib.hid hB7
                have HK7 := Lib.hid (HK6.out.trans hK7)
                clear hB7 hK7 HB6 HK6 HC
                go_wp2_with fail
                go_roundg g2
                case measure => omega
                case rel => exact ⟨j + 1, by omega, by go_num, Lib.hid (by rw [HTk.out]; exact HB7.out), HK7⟩
            · obtain rfl : j = wxs.length := by omega
              rw [List.take_of_length_le (Nat.le_refl _)] at HB5
              have hbnd : (oA ++ wTo (wxs.map (fun s => txt n true s.xs))).length + 1 ≤ 1000000000 := by
                have h1 := wTo_len (wxs.map (fun s => txt n true s.xs))
                rw [List.map_map] at h1
                have h2 := sum_mono (xs := wxs) (f := (fun x : List UInt8 => x.length + 1) ∘ (fun s : Sl (P n) => txt n true s.xs)) (g := fun s => 6 * (1 + szL n s.xs)) (fun s _ => by
                  have := txt_len n true s.xs
                  show (txt n true s.xs).length + 1 ≤ _
                  omega)
                have h5 : (wxs.map (fun s => 6 * (1 + szL n s.xs))).sum = 6 * (wxs.map (fun s => 1 + szL n s.xs)).sum := sum_six (fun s : Sl (P n) => szL n s.xs) _
                rw [List.length_append]
                omega
              go_wp2_with fail
              refine (writeByte_any (c := 125) rfl HB5.out (by omega)).mono ?_
              rintro e w6 ⟨rfl, hB6, hK6⟩
              have HB6 := Lib.hid hB6
              have HK6 := Lib.hid (HK5.out.trans hK6)
              clear hB6 hK6 HB5 HK5
              go_wp2_with fail
              go_roundg g
              case measure => omega
              case rel => exact ⟨k + 1, by omega, by go_num, Lib.hid (by rw [HT2.out]; exact HB6.out), HK6⟩
      · obtain rfl : k = xs.length := by omega
        rw [List.take_of_length_le (Nat.le_refl _)] at HB
        go_wp2_with fail
        go_end0
        exact ⟨rfl, HB.out, HK.out⟩
end Go.Proofs.YtfenmeacimfiaaaGreatDoor
namespace Go.Proofs.YtfenmeacimfiaaaGreatDoor
open Go.RowKit

theorem hasPre_one (l : List UInt8) (c : UInt8) : Lib.hasPrefix l [c] = (l.head? == some c) := by
  cases l with
  | nil => rfl
  | cons x l =>
    show ([c].isPrefixOf (x :: l)) = (some x == some c)
    simp only [List.isPrefixOf, Bool.and_true]
    show (c == x) = (x == c)
    exact Bool.eq_iff_iff.2 ⟨fun h => by simpa using (by simpa using h : c = x).symm, fun h => by simpa using (by simpa using h : x = c).symm⟩
theorem hasSuf_one (l : List UInt8) (c : UInt8) : Lib.hasSuffix l [c] = (l.getLast? == some c) := by
  show ([c].isSuffixOf l) = _
  unfold List.isSuffixOf
  have := hasPre_one l.reverse c
  unfold Lib.hasPrefix at this
  rw [List.reverse_singleton, this, List.head?_reverse]
theorem run_add (a b : ByteArray) (W : World) (h : a.size + b.size ≤ 100000000) : (Op.stringOp .add a b).run Tryz.prog W = .ok (.string ⟨(a.data.toList ++ b.data.toList).toArray⟩) W := by
  rw [run_string_add_sum W _ _ (by omega)]
  congr 2
theorem take_ext (s : ByteArray) (k : Nat) : (s.extract 0 k).data.toList = s.data.toList.take k := by
  rw [Lib.extract_data]
  simp

abbrev globVal {α : Type} (rooted dirs : Bool) (s : Sl α) : Value := .agg #[.bool rooted, .bool dirs, .slice s.a s.xs.length s.c]
abbrev globArr {α : Type} (rooted dirs : Bool) (s : Sl α) : Array Value := #[.bool rooted, .bool dirs, .slice s.a s.xs.length s.c]

set_option maxHeartbeats 4000000 in
set_option maxRecDepth 100000 in
theorem globText_any (n : Nat) (s : Sl (P (n + 1))) (rooted dirs : Bool) (w : World) (hs : SOk w (n + 1) s) (hg : Good (n + 1) s.xs) (hne : s.xs ≠ []) (hz : szL (n + 1) s.xs ≤ 1048576) :
    Calls Tryz.prog 55 #[globVal rooted dirs s] w fun e w' => e = .returned (.string ⟨(gtxtN rooted dirs (n + 1) s.xs).toArray⟩) ∧ Below w.heap.size w w' := by
  have hlen : s.xs.length ≤ 1048576 := Nat.le_trans (len_le_sz (n + 1) s.xs) hz
  have hTl := txt_len (n + 1) false s.xs
  obtain ⟨m, hm⟩ : ∃ m : Nat, (s.xs.length : Int) - 1 = (m : Int) := ⟨s.xs.length - 1, by have : 0 < s.xs.length := List.length_pos_iff.2 hne; omega⟩
  have hml : m < s.xs.length := by omega
  obtain ⟨p, hx⟩ : ∃ p : P (n + 1), s.xs[m]? = some p := ⟨_, List.getElem?_eq_getElem hml⟩
  have htx : (pt n p).text.size ≤ maxLen := (hs.2 p (List.mem_of_getElem? hx)).1.1
  have HL : Hid (lastSl (n + 1) s.xs = (decide ((pt n p).kind = 1) && (pt n p).text.data.toList.getLast? == some 47)) := Lib.hid (by
    unfold lastSl
    have : s.xs.getLast? = some p := by rw [List.getLast?_eq_getElem?, show s.xs.length - 1 = m by omega, hx]
    show (match s.xs.getLast? with | none => false | some p => decide ((pt n p).kind = 1) && (pt n p).text.data.toList.getLast? == some 47) = _
    rw [this])
  have hb1 : Below w.heap.size w (w.alloc (.cells (globArr rooted dirs s) 34)) := bAlloc (Below.refl _ _) _
  have HC := Lib.hid (printParts_any (n + 1) s false _ _ _ [] (Bld.fresh (w.alloc (.cells (globArr rooted dirs s) 34))) (hs.under hb1) hg hz (by simp only [List.length_nil]; omega))
  have HQ := Lib.hid (BoxIs.new w (globArr rooted dirs s) 34)
  have hsz : (w.alloc (.cells (globArr rooted dirs s) 34)).heap.size = w.heap.size + 1 := by simp
  have HS := Lib.hid hs
  have hHS := Lib.hid (fun W (hb : Below w.heap.size w W) => partRow (p := pt n p) ((hs.under hb).1) hx)
  have HG : Hid (gtxtN rooted dirs (n + 1) s.xs = wrapG rooted dirs (preG rooted (suffN dirs (lastSl (n + 1) s.xs) (txt (n + 1) false s.xs)))) := Lib.hid rfl
  have HTs : Hid (lastSl (n + 1) s.xs = true → txt (n + 1) false s.xs ≠ []) := Lib.hid (fun h e => by
    obtain ⟨s0, h1, _⟩ := txt_slash (n + 1) false s.xs h
    rw [e] at h1
    simp at h1)
  generalize gtxtN rooted dirs (n + 1) s.xs = G at *
  rw [List.nil_append] at HC
  generalize txt (n + 1) false s.xs = T at *
  generalize lastSl (n + 1) s.xs = L at *
  obtain ⟨sa, sc, xs⟩ := s
  simp only [] at *
  clear hg hne hx hs
  generalize pt n p = q at *
  go_enter Tryz.func55, Tryz.ntmps55
  go_upto_region 2 with fail
  rw [hsz] at HC
  generalize w.alloc (.cells (globArr rooted dirs (⟨sa, sc, xs⟩ : Sl (P (n + 1)))) 34) = wb at *
  have c2 := (HQ.out.under (bAlloc (Below.refl _ _) (.cells #[.pointer none, .slice none 0 0] 139))).cell (j := 2) rfl
  generalize wb.alloc _ = w1 at *
  go_wp2_with fail
  refine HC.out.mono ?_
  rintro e w2 ⟨rfl, hB2, hK2⟩
  have HB2 := Lib.hid hB2
  clear HC hB2 hK2 c2
  have HD := Lib.hid (buildString_any HB2.out)
  go_wp2_with fail
  refine HD.out.mono ?_
  rintro e w3 ⟨rfl, hB3⟩
  have hb3 := bTrans hb1 hB3.below
  have HQ3 := Lib.hid (HQ.out.under hB3.below)
  clear HD HB2 hB3 HQ hb1
  have c0 := HQ3.out.cell (j := 0) rfl
  have c1 := HQ3.out.cell (j := 1) rfl
  have c2 := HQ3.out.cell (j := 2) rfl
  obtain ⟨ba, off, ha, hba, r0, r1, r2, r3, r4⟩ := hHS.out w3 hb3
  subst ha
  have HT : Hid ((⟨T.toArray⟩ : ByteArray).data.toList = T) := Lib.hid rfl
  have HTz : Hid ((⟨T.toArray⟩ : ByteArray).size = T.length) := Lib.hid (by rw [Lib.size_eq])
  generalize (⟨T.toArray⟩ : ByteArray) = TB at *
  have HBx := Lib.hid (partBox_new w3 q 212)
  have hbx : Below w3.heap.size w3 (w3.alloc (.cells #[.int .i64 q.kind, .string q.text, .bool q.neg, .slice q.rg.a q.rg.xs.length q.rg.c, .slice q.ways.a q.ways.xs.length q.ways.c] 212)) := bAlloc (Below.refl _ _) _
  have HQ4 := Lib.hid (HQ3.out.under hbx)
  go_upto_region 5 with fail
  generalize w3.alloc _ = w4 at *
  have hb4 := bTrans hb3 hbx
  clear r0 r1 r2 r3 r4 c0 c1 c2 HQ3 hHS HS hml
  obtain ⟨p0, p1, p2, p3, p4, p5⟩ := HBx.out
  have c0 := HQ4.out.cell (j := 0) rfl
  have c1 := HQ4.out.cell (j := 1) rfl
  have HSf := Lib.hid (fun W => Tryz.strings_HasSuffix q.text ⟨#[47]⟩ W (by unfold maxLen at htx; omega))
  have HSf : Hid (∀ W, Calls Tryz.prog 119 #[.string q.text, .string ⟨#[47]⟩] W fun e w' => e = .returned (.bool (q.text.data.toList.getLast? == some 47)) ∧ w' = W) := Lib.hid (fun W => by rw [← hasSuf_one]; exact HSf.out W)
  generalize (q.text.data.toList.getLast? == some 47) = bL at *
  go_cut [30] (fun s30 wx => s30 = .bool (!dirs && L) ∧ w4 = wx)
  case first =>
    cases dirs
    · by_cases k1 : q.kind = 1
      · have q1 : (q.kind == 1) = true := by simp [k1]
        have HL2 : Hid (L = bL) := Lib.hid (by rw [HL.out, decide_eq_true k1]; rfl)
        clear k1
        go_wp2_with (go_at_call 119; refine (HSf.out _).mono ?_; rintro e w' ⟨rfl, hw'⟩; subst w')
        go_meet
        exact ⟨by rw [HL2.out]; rfl, rfl⟩
      · have q1 : (q.kind == 1) = false := by simp [k1]
        have HL2 : Hid (L = false) := Lib.hid (by rw [HL.out, decide_eq_false k1]; rfl)
        clear k1
        go_wp2_with fail
        go_meet
        exact ⟨by rw [HL2.out]; rfl, rfl⟩
    · go_wp2_with fail
      go_meet
      exact ⟨rfl, rfl⟩
  case rest =>
  obtain ⟨rfl, rfl⟩ := hcut
  clear HSf HBx p0 p1 p2 p3 p4 p5 HL
  obtain ⟨X, hX⟩ : ∃ X, (!dirs && L) = X := ⟨_, rfl⟩
  have HS1 : Hid (suffN dirs L T = if X then T.dropLast ++ [92, 47] else T) := Lib.hid (by unfold suffN; rw [hX])
  have hne1 : X = true → T ≠ [] := fun h => HTs.out (by rw [← hX] at h; simpa using (Bool.and_eq_true_iff.1 h).2)
  rw [hX]
  clear hX HTs
  generalize suffN dirs L T = S1 at *
  go_upto_if 30 with fail
  go_cut [4] (fun s4 wx => ∃ B1 : ByteArray, s4 = .string B1 ∧ w4 = wx ∧ Hid (B1.data.toList = S1))
  case first =>
    cases X
    · go_wp2_with fail
      go_meet
      exact ⟨TB, rfl, rfl, Lib.hid (by rw [HS1.out, HT.out]; rfl)⟩
    · have h1 : 0 < T.length := List.length_pos_iff.2 (hne1 rfl)
      obtain ⟨k, hk⟩ : ∃ k : Nat, (TB.size : Int) - 1 = (k : Int) := ⟨TB.size - 1, by have := HTz.out; omega⟩
      have hk2 : k ≤ TB.size := by omega
      have hk3 : k ≤ 10000000 := by have := HTz.out; omega
      have hadd := fun W => run_add (TB.extract 0 k) ⟨#[92, 47]⟩ W (by rw [ByteArray.size_extract]; show _ + 2 ≤ _; have := HTz.out; omega)
      have HF : Hid ((TB.extract 0 k).data.toList ++ (⟨#[92, 47]⟩ : ByteArray).data.toList = S1) := Lib.hid (by
        rw [take_ext, HT.out, HS1.out, if_pos rfl, List.dropLast_eq_take, show T.length - 1 = k by have := HTz.out; omega])
      generalize (TB.extract 0 k).data.toList ++ (⟨#[92, 47]⟩ : ByteArray).data.toList = Y at *
      clear hne1
      go_wp2_with fail
      go_meet
      exact ⟨_, rfl, rfl, Lib.hid (by rw [← HF.out])⟩
  case rest =>
  obtain ⟨B1, rfl, rfl, HB1⟩ := hcut
  have HZ1 : Hid (B1.size ≤ 7000000) := Lib.hid (by
    have h1 := Lib.size_eq B1
    have h2 := HS1.out
    rw [HB1.out, h2] at h1
    have h3 : (if X then T.dropLast ++ [92, 47] else T).length ≤ T.length + 2 := by
      cases X <;> simp
    omega)
  clear HS1 HT HTz hne1 hTl
  generalize w4.heap.size = z4 at *
  have HG1 : Hid (G = wrapG rooted dirs (preG rooted B1.data.toList)) := Lib.hid (by rw [HB1.out]; exact HG.out)
  clear HG HB1
  generalize TB = TB0 at *
  have c0 := HQ4.out.cell (j := 0) rfl
  have c1 := HQ4.out.cell (j := 1) rfl
  have HPf := Lib.hid (fun W => Tryz.strings_HasPrefix B1 ⟨#[47]⟩ W)
  have HPf : Hid (∀ W, Calls Tryz.prog 117 #[.string B1, .string ⟨#[47]⟩] W fun e w' => e = .returned (.bool (B1.data.toList.head? == some 47)) ∧ w' = W) := Lib.hid (fun W => by rw [← hasPre_one]; exact HPf.out W)
  have HPr : Hid (preG rooted B1.data.toList = if !rooted && B1.data.toList.head? == some 47 then 92 :: B1.data.toList else B1.data.toList) := Lib.hid rfl
  generalize (B1.data.toList.head? == some 47) = bL at *
  have HZ2 : Hid ((preG rooted B1.data.toList).length ≤ 7000001) := Lib.hid (by
    have h1 := Lib.size_eq B1
    have h2 := HZ1.out
    rw [HPr.out]
    split <;> simp <;> omega)
  generalize preG rooted B1.data.toList = S2 at *
  have hadd1 := fun W => run_add ⟨#[92]⟩ B1 W (by have := HZ1.out; show 1 + _ ≤ _; omega)
  go_upto_region 7 with fail
  go_cut [43] (fun s43 wx => s43 = .bool (!rooted && bL) ∧ w4 = wx)
  case first =>
    cases rooted
    · go_wp2_with (go_at_call 117; refine (HPf.out _).mono ?_; rintro e w' ⟨rfl, hw'⟩; subst w')
      go_meet
      exact ⟨rfl, rfl⟩
    · go_wp2_with fail
      go_meet
      exact ⟨rfl, rfl⟩
  case rest =>
  obtain ⟨rfl, rfl⟩ := hcut
  clear HPf
  generalize (!rooted && bL) = X2 at *
  go_upto_if 43 with fail
  go_cut [4] (fun s4 wx => ∃ B2 : ByteArray, s4 = .string B2 ∧ w4 = wx ∧ Hid (B2.data.toList = S2))
  case first =>
    cases X2
    · go_wp2_with fail
      go_meet
      exact ⟨B1, rfl, rfl, Lib.hid (by rw [HPr.out]; rfl)⟩
    · go_wp2_with fail
      go_meet
      exact ⟨_, rfl, rfl, Lib.hid (by rw [HPr.out]; rfl)⟩
  case rest =>
  obtain ⟨B2, rfl, rfl, HB2⟩ := hcut
  have HZ3 : Hid (B2.size ≤ 7000001) := Lib.hid (by rw [Lib.size_eq, HB2.out]; exact HZ2.out)
  rw [← HB2.out] at HG1
  clear hadd1 HZ1 HZ2 HPr HB2
  generalize B1 = TB1 at *
  have hadd2 := fun W => run_add ⟨#[47]⟩ B2 W (by have := HZ3.out; show 1 + _ ≤ _; omega)
  go_upto_if 47 with fail
  go_cut [4] (fun s4 wx => ∃ B3 : ByteArray, s4 = .string B3 ∧ w4 = wx ∧ Hid (B3.data.toList = if rooted then 47 :: B2.data.toList else B2.data.toList))
  case first =>
    cases rooted
    · go_wp2_with fail
      go_meet
      exact ⟨B2, rfl, rfl, Lib.hid rfl⟩
    · go_wp2_with fail
      go_meet
      exact ⟨_, rfl, rfl, Lib.hid rfl⟩
  case rest =>
  obtain ⟨B3, rfl, rfl, HB3⟩ := hcut
  have HZ4 : Hid (B3.size ≤ 7000002) := Lib.hid (by
    have h1 := Lib.size_eq B2
    have h2 := HZ3.out
    rw [Lib.size_eq, HB3.out]
    split <;> simp <;> omega)
  have hadd3 := fun W => run_add B3 ⟨#[47]⟩ W (by have := HZ4.out; show _ + 1 ≤ _; omega)
  have HG4 : Hid (G = B3.data.toList ++ (if dirs then [47] else [])) := Lib.hid (by rw [HG1.out, HB3.out]; rfl)
  clear HG1 HB3 hadd2 HZ3 HZ4
  cases dirs
  · go_wp2_with fail
    go_ret
    refine ⟨?_, hb4⟩
    rw [HG4.out]
    simp
  · go_wp2_with fail
    go_ret
    refine ⟨?_, hb4⟩
    rw [HG4.out]
    rfl
end Go.Proofs.YtfenmeacimfiaaaGreatDoor
namespace Go.Proofs.YtfenmeacimfiaaaGreatDoor
open Go.RowKit

theorem ret_strv {a b : ByteArray} (h : a = b) : Ending.returned (.string a) = .returned (.string b) := by rw [h]
/-- Two texts put together. -/
theorem cat (a b : ByteArray) (h : a.size + b.size ≤ 100000000) : ∃ Y : ByteArray, Y.data.toList = a.data.toList ++ b.data.toList ∧ Y.size = a.size + b.size ∧ ∀ W : World, (Op.stringOp .add a b).run Tryz.prog W = .ok (.string Y) W :=
  ⟨⟨(a.data.toList ++ b.data.toList).toArray⟩, rfl, by rw [Lib.size_eq, Lib.size_eq, Lib.size_eq]; simp, fun W => run_add a b W h⟩
theorem idx_has (s : ByteArray) (c : UInt8) : ∃ J : Int, s.data.toList.contains c = decide (0 ≤ J) ∧ ∀ (n : Int), n = c.toNat → ∀ w : World, Calls Tryz.prog 113 #[.string s, .int .u8 n] w fun e w' => e = .returned (.int .i64 J) ∧ w = w' := by
  refine ⟨Lib.indexByte s.data.toList c, Lib.contains_iff_indexByte s.data.toList c, fun n hn w => ?_⟩
  subst hn
  have hback : ((c.toNat : Int)).toNat.toUInt8 = c := by simp
  have HI := Tryz.strings_IndexByte s c.toNat w
  rw [hback] at HI
  exact HI.mono fun e w' h => ⟨h.1, h.2.symm⟩
theorem ofNat_back (n : Int) (h0 : 0 ≤ n) (h1 : n ≤ 255) : n = ((UInt8.ofNat n.toNat).toNat : Int) := by
  simp
  omega

set_option maxHeartbeats 2000000 in
set_option maxRecDepth 100000 in
theorem one_any (n : Int) (w : World) (h0 : 0 ≤ n) (h1 : n ≤ 255) :
    Calls Tryz.prog 203 #[.int .i64 n] w fun e w' => e = .returned (.string ⟨(bnd n).toArray⟩) ∧ Below w.heap.size w w' := by
  have hcv := run_chr n h0 h1 w
  have hb := bAlloc (Below.refl w.heap.size w) (.cells #[.int .u8 n] 5)
  obtain ⟨J, hJ, hC⟩ := idx_has ⟨#[92, 93, 94, 45]⟩ (UInt8.ofNat n.toNat)
  have HC := Lib.hid (hC n (ofNat_back n h0 h1))
  have HBn : Hid (bnd n = if decide (0 ≤ J) then [92, UInt8.ofNat n.toNat] else [UInt8.ofNat n.toNat]) := Lib.hid (by
    rw [← hJ]
    rfl)
  have hadd := fun W => run_add ⟨#[92]⟩ (chr n) W (by show 1 + 1 ≤ _; omega)
  clear hC hJ
  by_cases hj : 0 ≤ J
  · have HR : Hid (bnd n = (⟨#[92]⟩ : ByteArray).data.toList ++ (chr n).data.toList) := Lib.hid (by rw [HBn.out, decide_eq_true hj]; rfl)
    clear HBn
    go_enter Tryz.func203, Tryz.ntmps203
    go_wp2_with (go_at_call 113; refine (HC.out _).mono ?_; rintro e w5 ⟨rfl, rfl⟩)
    go_ret
    exact ⟨ret_strv (by rw [HR.out]; rfl), hb⟩
  · have HR : Hid ((⟨(bnd n).toArray⟩ : ByteArray) = chr n) := Lib.hid (by rw [HBn.out, decide_eq_false hj]; rfl)
    clear HBn hadd
    go_enter Tryz.func203, Tryz.ntmps203
    go_wp2_with (go_at_call 113; refine (HC.out _).mono ?_; rintro e w5 ⟨rfl, rfl⟩)
    go_ret
    exact ⟨ret_strv HR.out.symm, hb⟩

set_option maxHeartbeats 4000000 in
set_option maxRecDepth 100000 in
theorem showSet_any {α : Type} (q : PartOf α) (w : World) (hr : SlHolds w 2 rgCells q.rg) (hg : ∀ r ∈ q.rg.xs, (1 ≤ r.1 ∧ r.1 ≤ 255) ∧ 1 ≤ r.2 ∧ r.2 ≤ 255) (hn : q.rg.xs.length ≤ 1048576) :
    Calls Tryz.prog 168 #[partVal q] w fun e w' => e = .returned (.string ⟨(setTxt q.neg q.rg.xs).toArray⟩) ∧ Below w.heap.size w w' := by
  have HR := Lib.hid hr
  have HG := Lib.hid hg
  have hb0 := bAlloc (Below.refl w.heap.size w) (.cells (partArr q) 212)
  have HQ := Lib.hid (BoxIs.new w (partArr q) 212)
  have hadd0 := fun W => run_add ⟨#[91]⟩ ⟨#[94]⟩ W (by show 1 + 1 ≤ _; omega)
  have HO : Hid (setTxt q.neg q.rg.xs = ([91] ++ if q.neg then [94] else []) ++ q.rg.xs.flatMap rgTxt ++ [93]) := Lib.hid (by unfold setTxt; simp only [List.append_assoc])
  generalize setTxt q.neg q.rg.xs = OUT at *
  clear hr hg
  obtain ⟨kind, text, neg, ⟨ra, rc, rxs⟩, ⟨wa, wcap, wxs⟩⟩ := q
  simp only [] at *
  go_enter Tryz.func168, Tryz.ntmps168
  go_upto_region 3 with fail
  generalize w.alloc _ = w1 at *
  obtain ⟨p0, p1, p2, p3, p4, p5⟩ := HQ.out.part (p := (⟨kind, text, neg, ⟨ra, rc, rxs⟩, ⟨wa, wcap, wxs⟩⟩ : PartOf α))
  simp only [] at p3 p4
  go_upto_if 8 with fail
  go_cut [4] (fun s4 wx => ∃ B : ByteArray, s4 = .string B ∧ w1 = wx ∧ B.size ≤ 2 ∧ Hid (B.data.toList = [91] ++ if neg then [94] else []))
  case first =>
    cases neg
    · go_wp2_with fail
      go_meet
      exact ⟨_, rfl, rfl, by decide, Lib.hid rfl⟩
    · go_wp2_with fail
      go_meet
      exact ⟨_, rfl, rfl, by decide, Lib.hid rfl⟩
  case rest =>
  obtain ⟨B0, rfl, rfl, hB0, HB0⟩ := hcut
  rw [← HB0.out] at HO
  clear HB0 hadd0
  go_wp2_with fail
  clear p0 p1 p2 p3 p4 p5
  go_loopg [4, 14] rxs.length (fun g s4 i wx => ∃ (k : Nat) (B : ByteArray), k + g = rxs.length ∧ i = .int .i64 k ∧ s4 = .string B ∧ Below w1.heap.size w1 wx ∧ B.size ≤ 2 + k * 5 ∧ Hid (B.data.toList = B0.data.toList ++ (rxs.take k).flatMap rgTxt))
  case atStart => exact ⟨0, B0, by omega, rfl, rfl, Below.refl _ _, by omega, Lib.hid (by simp)⟩
  case round =>
    obtain ⟨k, B, hk, rfl, rfl, hb, hBs, HB⟩ := hrel
    by_cases hlt : k < rxs.length
    · obtain ⟨g, rfl⟩ : ∃ g, gk = g + 1 := ⟨gk - 1, by omega⟩
      obtain ⟨⟨x, y⟩, hx⟩ : ∃ r : Int × Int, rxs[k]? = some r := ⟨_, List.getElem?_eq_getElem hlt⟩
      obtain ⟨⟨x1, x2⟩, y1, y2⟩ := HG.out _ (List.mem_of_getElem? hx)
      obtain ⟨ba, off, ha, hba, r0, r1⟩ := pairRow (HR.out.under (bTrans hb0 hb)) hx
      have HT : Hid (B0.data.toList ++ (rxs.take (k + 1)).flatMap rgTxt = B.data.toList ++ rgTxt (x, y)) := Lib.hid (by rw [flat_snoc hx, ← List.append_assoc, ← HB.out])
      simp only [] at x1 x2 y1 y2 ha r0 r1
      subst ha
      have hbx := bAlloc (Below.refl wr.heap.size wr) (.cells #[.int .i64 x, .int .i64 y] 164)
      have HX5 := Lib.hid (BoxIs.new wr #[.int .i64 x, .int .i64 y] 164)
      have hb5 := bTrans hb hbx
      clear hx HB hbx
      go_upto_region 8 with fail
      generalize wr.alloc _ = w5 at *
      generalize wr.heap.size = zx at *
      clear r0 r1
      obtain ⟨q0, q1, q2⟩ := HX5.out.pair
      have HC := Lib.hid (one_any x w5 (by omega) x2)
      have hlx := bnd_len x
      have HX : Hid ((⟨(bnd x).toArray⟩ : ByteArray).data.toList = bnd x) := Lib.hid rfl
      have hsx : (⟨(bnd x).toArray⟩ : ByteArray).size ≤ 2 := by rw [Lib.size_eq]; exact hlx
      generalize (⟨(bnd x).toArray⟩ : ByteArray) = BX at *
      obtain ⟨Y1, hY1, hz1, hadd1⟩ := cat B BX (by omega)
      have HY1 := Lib.hid hY1
      clear hY1
      rcases (by omega : (¬ x < y ∧ ¬ x + 1 < y) ∨ (x < y ∧ ¬ x + 1 < y) ∨ (x < y ∧ x + 1 < y)) with ⟨d1, d2⟩ | ⟨d1, d2⟩ | ⟨d1, d2⟩
      · have HT2 : Hid (Y1.data.toList = B0.data.toList ++ (rxs.take (k + 1)).flatMap rgTxt) := Lib.hid (by rw [HT.out, HY1.out, HX.out]; unfold rgTxt; rw [if_neg d2, if_neg d1]; simp)
        have hs1 : Y1.size ≤ 2 + (k + 1) * 5 := by omega
        clear HT hz1 HX HY1
        go_wp2_with fail
        refine HC.out.mono ?_
        rintro e w6 ⟨rfl, hb6⟩
        clear q0 q1 q2
        obtain ⟨q0, q1, q2⟩ := (HX5.out.under hb6).pair
        go_wp2_with fail
        go_roundg g
        case measure => omega
        case rel => exact ⟨k + 1, Y1, by omega, by go_num, rfl, bTrans hb5 hb6, hs1, HT2⟩
      · have HC2 := Lib.hid (fun W => one_any y W (by omega) y2)
        have hly := bnd_len y
        have HYy : Hid ((⟨(bnd y).toArray⟩ : ByteArray).data.toList = bnd y) := Lib.hid rfl
        have hsy : (⟨(bnd y).toArray⟩ : ByteArray).size ≤ 2 := by rw [Lib.size_eq]; exact hly
        generalize (⟨(bnd y).toArray⟩ : ByteArray) = BY at *
        obtain ⟨Y2, hY2, hz2, hadd2⟩ := cat Y1 BY (by omega)
        have HT2 : Hid (Y2.data.toList = B0.data.toList ++ (rxs.take (k + 1)).flatMap rgTxt) := Lib.hid (by rw [HT.out, hY2, HY1.out, HX.out, HYy.out]; unfold rgTxt; rw [if_neg d2, if_pos d1]; simp)
        have hs1 : Y2.size ≤ 2 + (k + 1) * 5 := by omega
        clear HT hz1 hz2 HX HY1 hY2 HYy
        go_wp2_with fail
        refine HC.out.mono ?_
        rintro e w6 ⟨rfl, hb6⟩
        clear q0 q1 q2
        obtain ⟨q0, q1, q2⟩ := (HX5.out.under hb6).pair
        go_wp2_with fail
        refine (HC2.out _).mono ?_
        rintro e w7 ⟨rfl, hb7⟩
        clear q0 q1 q2
        go_wp2_with fail
        go_roundg g
        case measure => omega
        case rel => exact ⟨k + 1, Y2, by omega, by go_num, rfl, bTrans hb5 (bTrans hb6 hb7), hs1, HT2⟩
      · have HC2 := Lib.hid (fun W => one_any y W (by omega) y2)
        have hly := bnd_len y
        have HYy : Hid ((⟨(bnd y).toArray⟩ : ByteArray).data.toList = bnd y) := Lib.hid rfl
        have hsy : (⟨(bnd y).toArray⟩ : ByteArray).size ≤ 2 := by rw [Lib.size_eq]; exact hly
        generalize (⟨(bnd y).toArray⟩ : ByteArray) = BY at *
        obtain ⟨Y3, hY3, hz3, hadd3⟩ := cat Y1 ⟨#[45]⟩ (by show _ + 1 ≤ _; omega)
        have hz3 : Y3.size = Y1.size + 1 := hz3
        have hY3 : Y3.data.toList = Y1.data.toList ++ [45] := hY3
        obtain ⟨Y2, hY2, hz2, hadd2⟩ := cat Y3 BY (by omega)
        have HT2 : Hid (Y2.data.toList = B0.data.toList ++ (rxs.take (k + 1)).flatMap rgTxt) := Lib.hid (by rw [HT.out, hY2, hY3, HY1.out, HX.out, HYy.out]; unfold rgTxt; rw [if_pos d2, if_pos d1]; simp)
        have hs1 : Y2.size ≤ 2 + (k + 1) * 5 := by omega
        clear HT hz1 hz2 hz3 HX HY1 hY2 hY3 HYy
        go_wp2_with fail
        refine HC.out.mono ?_
        rintro e w6 ⟨rfl, hb6⟩
        clear q0 q1 q2
        obtain ⟨q0, q1, q2⟩ := (HX5.out.under hb6).pair
        go_wp2_with fail
        refine (HC2.out _).mono ?_
        rintro e w7 ⟨rfl, hb7⟩
        clear q0 q1 q2
        go_wp2_with fail
        go_roundg g
        case measure => omega
        case rel => exact ⟨k + 1, Y2, by omega, by go_num, rfl, bTrans hb5 (bTrans hb6 hb7), hs1, HT2⟩
    · obtain rfl : k = rxs.length := by omega
      obtain ⟨Y3, hY3, hz3, hadd3⟩ := cat B ⟨#[93]⟩ (by show _ + 1 ≤ _; omega)
      have HF : Hid (Y3 = ⟨OUT.toArray⟩) := Lib.hid (by
        apply ByteArray.ext
        apply Array.toList_inj.1
        rw [hY3, HO.out, HB.out, List.take_of_length_le (Nat.le_refl _)])
      clear hY3 hz3
      go_wp2_with fail
      go_ret
      exact ⟨ret_strv HF.out, bTrans hb0 hb⟩
end Go.Proofs.YtfenmeacimfiaaaGreatDoor
namespace Go.Proofs.YtfenmeacimfiaaaGreatDoor
open Go.RowKit

theorem str_eq {a : ByteArray} {l : List UInt8} (h : a.data.toList = l) : a = ⟨l.toArray⟩ := by
  apply ByteArray.ext
  apply Array.toList_inj.1
  rw [h]
theorem size_of_toList {a : ByteArray} {l : List UInt8} (h : a.data.toList = l) : a.size = l.length := by rw [Lib.size_eq, h]

set_option maxHeartbeats 8000000 in
set_option maxRecDepth 100000 in
theorem showParts_any : ∀ (n : Nat) (s : Sl (P n)) (d : Bool) (w : World), SOk w n s → Good n s.xs → szL n s.xs ≤ 1048576 →
    Calls Tryz.prog 116 #[.slice s.a s.xs.length s.c, .bool d] w fun e w' => e = .returned (.string ⟨(txt n d s.xs).toArray⟩) ∧ Below w.heap.size w w' := by
  intro n
  induction n with
  | zero =>
    intro s d w _ _ _
    obtain ⟨a, c, xs⟩ := s
    cases xs with
    | cons x _ => exact nomatch x
    | nil =>
      go_enter Tryz.func116, Tryz.ntmps116
      go_wp2_with fail
      refine wp_loop_rounds 1 ?_
      rw [rounds_succ]
      go_wp2_with fail
      go_ret
      exact ⟨rfl, Below.refl _ _⟩
  | succ n ih =>
    rintro ⟨sa, sc, xs⟩ d w hs hg hz
    have hlen : xs.length ≤ 1048576 := Nat.le_trans (len_le_sz (n + 1) xs) hz
    simp only [] at hz hg
    have HS := Lib.hid hs
    have HG := Lib.hid hg
    have HIH := Lib.hid ih
    clear hs hg ih
    go_enter Tryz.func116, Tryz.ntmps116
    go_wp2_with fail
    go_loopg [5, 14] xs.length (fun g s5 i wx => ∃ (k : Nat) (B : ByteArray), k + g = xs.length ∧ i = .int .i64 k ∧ s5 = .string B ∧ Below w.heap.size w wx ∧ Hid (B.data.toList = txt (n + 1) d (xs.take k)))
    case atStart => exact ⟨0, ⟨#[]⟩, by omega, rfl, rfl, Below.refl _ _, Lib.hid rfl⟩
    case round =>
      obtain ⟨k, B, hk, rfl, rfl, hb, HB⟩ := hrel
      by_cases hlt : k < xs.length
      · obtain ⟨g, rfl⟩ : ∃ g, gk = g + 1 := ⟨gk - 1, by omega⟩
        obtain ⟨p, hx⟩ : ∃ p : P (n + 1), xs[k]? = some p := ⟨_, List.getElem?_eq_getElem hlt⟩
        have hmem := List.mem_of_getElem? hx
        obtain ⟨ba, off, ha, hba, r0, r1, r2, r3, r4⟩ := partRow (p := pt n p) ((HS.out.under hb).1) hx
        have HPo : Hid (POk w (n + 1) p) := Lib.hid (HS.out.2 p hmem)
        obtain ⟨⟨kd1, kd6⟩, hbad, hrg, hways⟩ := HG.out p hmem
        have hsp : sz (n + 1) p ≤ 1048576 := Nat.le_trans (le_sum (List.mem_map.2 ⟨p, hmem, rfl⟩)) hz
        have hszp : sz (n + 1) p = 1 + (pt n p).text.size + (pt n p).rg.xs.length + ((pt n p).ways.xs.map (fun s => 1 + szL n s.xs)).sum := rfl
        have hrl : (pt n p).rg.xs.length ≤ 1048576 := by omega
        have htl : (pt n p).text.size ≤ 1048576 := by omega
        have hws : ((pt n p).ways.xs.map (fun s => 1 + szL n s.xs)).sum ≤ 1048576 := by omega
        have hwl : (pt n p).ways.xs.length ≤ 1048576 := by
          have := sum_mono (xs := (pt n p).ways.xs) (f := fun _ => 1) (g := fun s => 1 + szL n s.xs) (fun s _ => by omega)
          rw [sum_ones1] at this
          omega
        have hBs : B.size + 6 * sz (n + 1) p ≤ 6291456 := by
          have h1 := txt_len (n + 1) d (xs.take k)
          have h2 : szL (n + 1) (xs.take (k + 1)) ≤ szL (n + 1) xs := sum_take_le _ _ _
          have h3 : szL (n + 1) (xs.take (k + 1)) = szL (n + 1) (xs.take k) + sz (n + 1) p := by
            unfold szL
            rw [take_map_snoc _ hx, List.sum_append]
            simp
          rw [size_of_toList HB.out]
          omega
        rw [hszp] at hBs
        obtain ⟨E, hE⟩ : ∃ E, txtOf (fun s => txt n true s.xs) d (pt n p) = E := ⟨_, rfl⟩
        have HT : Hid (txt (n + 1) d (xs.take (k + 1)) = B.data.toList ++ E) := Lib.hid (by
          rw [← hE, HB.out]
          show (xs.take (k + 1)).flatMap _ = (xs.take k).flatMap _ ++ _
          rw [flat_snoc hx])
        have HE := Lib.hid hE
        have HPo2 : Hid (SlHolds w 2 rgCells (pt n p).rg ∧ SlHolds w 1 (fun s : Sl (P n) => [s.val]) (pt n p).ways ∧ ∀ s ∈ (pt n p).ways.xs, SOk w n s) := Lib.hid ⟨HPo.out.2.1, HPo.out.2.2.2.1, HPo.out.2.2.2.2⟩
        have HRg := Lib.hid hrg
        have HWs := Lib.hid hways
        have HBad := Lib.hid hbad
        clear HPo hx hsp hszp hmem hE hrg hways hbad HB
        obtain ⟨oA, hoA⟩ : ∃ oA, txt (n + 1) d (xs.take (k + 1)) = oA := ⟨_, rfl⟩
        rw [hoA] at HT
        have HOA := Lib.hid hoA
        clear hoA
        generalize pt n p = q at *
        obtain ⟨kind, text, neg, ⟨ra, rc, rxs⟩, ⟨wa, wcap, wxs⟩⟩ := q
        simp only [] at *
        subst ha
        have hbx := bAlloc (Below.refl wr.heap.size wr) (.cells #[.int .i64 kind, .string text, .bool neg, .slice ra rxs.length rc, .slice wa wxs.length wcap] 212)
        have HX5 := Lib.hid (BoxIs.new wr #[.int .i64 kind, .string text, .bool neg, .slice ra rxs.length rc, .slice wa wxs.length wcap] 212)
        have hb5 := bTrans hb hbx
        clear hbx
        go_upto_region 5 with fail
        generalize wr.alloc _ = w5 at *
        generalize wr.heap.size = zx at *
        clear r0 r1 r2 r3 r4
        obtain ⟨q0, q1, q2, q3, q4, q5⟩ := HX5.out.part (p := (⟨kind, text, neg, ⟨ra, rc, rxs⟩, ⟨wa, wcap, wxs⟩⟩ : PartOf (P n)))
        simp only [] at q1 q2 q3 q4 q5
        rcases (by omega : kind = 1 ∨ kind = 2 ∨ kind = 3 ∨ kind = 4 ∨ kind = 5 ∨ kind = 6) with rfl | rfl | rfl | rfl | rfl | rfl
        · as_aux_lemma =>
            have HT2 : Hid (oA = B.data.toList ++ escL (spc d) text.data.toList) := Lib.hid (by rw [HT.out, ← HE.out]; rfl)
            clear HT HE
            obtain ⟨wo, rfl⟩ : ∃ wo : World, wo = wr := ⟨_, rfl⟩
            go_wp2_with fail
            go_loopg [5, 25] text.size (fun g s5 i wx => ∃ (j : Nat) (C : ByteArray), j + g = text.size ∧ i = .int .i64 j ∧ s5 = .string C ∧ w5 = wx ∧ C.size ≤ B.size + j * 2 ∧ Hid (C.data.toList = B.data.toList ++ escL (spc d) (text.data.toList.take j)))
            case atStart => exact ⟨0, B, by omega, rfl, rfl, rfl, by omega, Lib.hid (by simp [escL])⟩
            case round =>
              obtain ⟨j, C, hj, rfl, rfl, rfl, hCs, HC⟩ := hrel
              by_cases hlt2 : j < text.size
              · obtain ⟨g2, rfl⟩ : ∃ g2, gk = g2 + 1 := ⟨gk - 1, by omega⟩
                obtain ⟨ch, hch⟩ : ∃ ch : UInt8, text[j]'hlt2 = ch := ⟨_, rfl⟩
                have hcl : text.data.toList[j]? = some ch := by rw [← hch]; exact Lib.data_getElem? text j hlt2
                have hTk : text.data.toList.take (j + 1) = text.data.toList.take j ++ [ch] := by rw [List.take_add_one, hcl]; rfl
                have HTk : Hid (B.data.toList ++ escL (spc d) (text.data.toList.take (j + 1)) = C.data.toList ++ esc1 (spc d) ch) := Lib.hid (by rw [hTk, escL_snoc, ← List.append_assoc, ← HC.out])
                have hX1 : (text.extract j (j + 1)).data.toList = [ch] := by
                  rw [Lib.extract_data]
                  have : (text.data.toList.drop j) = ch :: text.data.toList.drop (j + 1) := by
                    have hl := (List.getElem?_eq_some_iff.1 hcl).1
                    rw [List.drop_eq_getElem_cons hl, (List.getElem?_eq_some_iff.1 hcl).2]
                  rw [this, show j + 1 - j = 1 by omega]
                  rfl
                have hX2 : (text.extract j (j + 1)).size = 1 := size_of_toList hX1
                obtain ⟨J, hJ, hJC⟩ := idx_has ⟨#[92, 42, 63, 91, 93, 123, 125]⟩ ch
                have HJC := Lib.hid (hJC ch.toNat rfl)
                have HSp : Hid (spc d ch = (decide (0 ≤ J) || (d && ch == 44))) := Lib.hid (by rw [← hJ]; rfl)
                have HX1 := Lib.hid hX1
                obtain ⟨Y0, hY0, hz0, hadd0⟩ := cat C ⟨#[92]⟩ (by show _ + 1 ≤ _; omega)
                have hz0 : Y0.size = C.size + 1 := hz0
                have HY0 : Hid (Y0.data.toList = C.data.toList ++ [92]) := Lib.hid hY0
                obtain ⟨Y1, hY1, hz1, hadd1⟩ := cat C (text.extract j (j + 1)) (by omega)
                have HY1 : Hid (Y1.data.toList = C.data.toList ++ [ch]) := Lib.hid (by rw [hY1, hX1])
                obtain ⟨Y2, hY2, hz2, hadd2⟩ := cat Y0 (text.extract j (j + 1)) (by omega)
                have HY2 : Hid (Y2.data.toList = C.data.toList ++ [92, ch]) := Lib.hid (by rw [hY2, hX1, hY0]; simp)
                have hs1 : Y1.size ≤ B.size + (j + 1) * 2 := by omega
                have hs2 : Y2.size ≤ B.size + (j + 1) * 2 := by omega
                clear hJ hJC hTk hcl hX1 hX2 hY0 hY1 hY2 hz0 hz1 hz2 HX1 HC
                have hsp : (0 ≤ J ∧ spc d ch = true) ∨ (¬ 0 ≤ J ∧ d = true ∧ ((ch.toNat : Int) == 44) = true ∧ spc d ch = true) ∨ (¬ 0 ≤ J ∧ d = true ∧ ((ch.toNat : Int) == 44) = false ∧ spc d ch = false) ∨ (¬ 0 ≤ J ∧ d = false ∧ spc d ch = false) := by
                  have h := HSp.out
                  by_cases h0 : 0 ≤ J
                  · rw [decide_eq_true h0] at h
                    exact .inl ⟨h0, h⟩
                  · rw [decide_eq_false h0] at h
                    cases d
                    · exact .inr (.inr (.inr ⟨h0, rfl, h⟩))
                    · have h4 : ((ch.toNat : Int) == 44) = (ch == 44) := by
                        rw [Bool.eq_iff_iff]
                        simp only [beq_iff_eq]
                        constructor
                        · intro e
                          exact UInt8.toNat_inj.1 (by simpa using (by omega : ch.toNat = 44))
                        · rintro rfl
                          rfl
                      rw [← h4] at h
                      cases h5 : ((ch.toNat : Int) == 44)
                      · rw [h5] at h
                        exact .inr (.inr (.inl ⟨h0, rfl, rfl, h⟩))
                      · rw [h5] at h
                        exact .inr (.inl ⟨h0, rfl, rfl, h⟩)
                have HE1 : Hid (esc1 (spc d) ch = if spc d ch then [92, ch] else [ch]) := Lib.hid rfl
                generalize esc1 (spc d) ch = e1 at *
                clear HSp
                rcases hsp with ⟨h0, h1⟩ | ⟨h0, h2, h3, h1⟩ | ⟨h0, h2, h3, h1⟩ | ⟨h0, h2, h1⟩
                · have HF : Hid (Y2.data.toList = B.data.toList ++ escL (spc d) (text.data.toList.take (j + 1))) := Lib.hid (by rw [HTk.out, HE1.out, h1, HY2.out]; rfl)
                  clear HTk HE1 HY0 HY1 HY2 h1
                  go_wp2_with (go_at_call 113; refine (HJC.out _).mono ?_; rintro e w6 ⟨rfl, rfl⟩)
                  go_roundg g2
                  case measure => omega
                  case rel => exact ⟨j + 1, Y2, by omega, by go_num, rfl, rfl, hs2, HF⟩
                · have HF : Hid (Y2.data.toList = B.data.toList ++ escL (spc d) (text.data.toList.take (j + 1))) := Lib.hid (by rw [HTk.out, HE1.out, h1, HY2.out]; rfl)
                  clear HTk HE1 HY0 HY1 HY2 h1
                  subst h2
                  go_wp2_with (go_at_call 113; refine (HJC.out _).mono ?_; rintro e w6 ⟨rfl, rfl⟩)
                  go_roundg g2
                  case measure => omega
                  case rel => exact ⟨j + 1, Y2, by omega, by go_num, rfl, rfl, hs2, HF⟩
                · have HF : Hid (Y1.data.toList = B.data.toList ++ escL (spc d) (text.data.toList.take (j + 1))) := Lib.hid (by rw [HTk.out, HE1.out, h1, HY1.out]; rfl)
                  clear HTk HE1 HY0 HY1 HY2 h1
                  subst h2
                  go_wp2_with (go_at_call 113; refine (HJC.out _).mono ?_; rintro e w6 ⟨rfl, rfl⟩)
                  go_roundg g2
                  case measure => omega
                  case rel => exact ⟨j + 1, Y1, by omega, by go_num, rfl, rfl, hs1, HF⟩
                · have HF : Hid (Y1.data.toList = B.data.toList ++ escL (spc d) (text.data.toList.take (j + 1))) := Lib.hid (by rw [HTk.out, HE1.out, h1, HY1.out]; rfl)
                  clear HTk HE1 HY0 HY1 HY2 h1
                  subst h2
                  go_wp2_with (go_at_call 113; refine (HJC.out _).mono ?_; rintro e w6 ⟨rfl, rfl⟩)
                  go_roundg g2
                  case measure => omega
                  case rel => exact ⟨j + 1, Y1, by omega, by go_num, rfl, rfl, hs1, HF⟩
              · have HF : Hid (C.data.toList = oA) := Lib.hid (by rw [HC.out, HT2.out, List.take_of_length_le (by rw [← Lib.size_eq]; omega)])
                clear HC HT2
                go_wp2_with fail
                go_roundg g
                case measure => omega
                case rel => exact ⟨k + 1, C, by omega, by go_num, rfl, hb5, Lib.hid (HF.out.trans HOA.out.symm)⟩
        · as_aux_lemma =>
            obtain ⟨Y, hY, _, hadd⟩ := cat B ⟨#[63]⟩ (by show _ + 1 ≤ _; omega)
            have HF : Hid (Y.data.toList = oA) := Lib.hid (by rw [hY, HT.out, ← HE.out]; rfl)
            clear HT HE hY
            go_wp2_with fail
            go_roundg g
            case measure => omega
            case rel => exact ⟨k + 1, Y, by omega, by go_num, rfl, hb5, Lib.hid (HF.out.trans HOA.out.symm)⟩
        · as_aux_lemma =>
            obtain ⟨Y, hY, _, hadd⟩ := cat B ⟨#[42]⟩ (by show _ + 1 ≤ _; omega)
            have HF : Hid (Y.data.toList = oA) := Lib.hid (by rw [hY, HT.out, ← HE.out]; rfl)
            clear HT HE hY
            go_wp2_with fail
            go_roundg g
            case measure => omega
            case rel => exact ⟨k + 1, Y, by omega, by go_num, rfl, hb5, Lib.hid (HF.out.trans HOA.out.symm)⟩
        · as_aux_lemma =>
            obtain ⟨Y, hY, _, hadd⟩ := cat B ⟨#[42, 42]⟩ (by show _ + 2 ≤ _; omega)
            have HF : Hid (Y.data.toList = oA) := Lib.hid (by rw [hY, HT.out, ← HE.out]; rfl)
            clear HT HE hY
            go_wp2_with fail
            go_roundg g
            case measure => omega
            case rel => exact ⟨k + 1, Y, by omega, by go_num, rfl, hb5, Lib.hid (HF.out.trans HOA.out.symm)⟩
        · as_aux_lemma =>
            have HC := Lib.hid (showSet_any (⟨5, text, neg, ⟨ra, rc, rxs⟩, ⟨wa, wcap, wxs⟩⟩ : PartOf (P n)) w5 (HPo2.out.1.under hb5) HRg.out hrl)
            simp only [] at HC
            have hl := setTxt_len neg rxs
            have hsX : (⟨(setTxt neg rxs).toArray⟩ : ByteArray).size ≤ 3 + rxs.length * 5 := by rw [Lib.size_eq]; exact hl
            have HX : Hid ((⟨(setTxt neg rxs).toArray⟩ : ByteArray).data.toList = setTxt neg rxs) := Lib.hid rfl
            generalize (⟨(setTxt neg rxs).toArray⟩ : ByteArray) = BX at *
            obtain ⟨Y, hY, _, hadd⟩ := cat B BX (by omega)
            have HF : Hid (Y.data.toList = oA) := Lib.hid (by rw [hY, HT.out, ← HE.out, HX.out]; rfl)
            clear HT HE hY hl hsX HX
            go_wp2_with fail
            refine HC.out.mono ?_
            rintro e w6 ⟨rfl, hb6⟩
            clear q0 q1 q2 q3 q4 q5
            go_wp2_with fail
            go_roundg g
            case measure => omega
            case rel => exact ⟨k + 1, Y, by omega, by go_num, rfl, bTrans hb5 hb6, Lib.hid (HF.out.trans HOA.out.symm)⟩
        · as_aux_lemma =>
            have hwne : wxs ≠ [] := ways_some (p := (⟨6, text, neg, ⟨ra, rc, rxs⟩, ⟨wa, wcap, wxs⟩⟩ : PartOf (P n))) rfl HBad.out
            have HT2 : Hid (oA = B.data.toList ++ waysTxt (wxs.map (fun s => txt n true s.xs))) := Lib.hid (by rw [HT.out, ← HE.out]; rfl)
            clear HT HE
            obtain ⟨ys, hys⟩ : ∃ ys : List ByteArray, wxs.map (fun s => (⟨(txt n true s.xs).toArray⟩ : ByteArray)) = ys := ⟨_, rfl⟩
            have hyl : ys.length = wxs.length := by rw [← hys, List.length_map]
            have HYs := Lib.hid hys
            have hyt : ys.map (·.data.toList) = wxs.map (fun s => txt n true s.xs) := by
              rw [← hys, List.map_map]
              rfl
            have hjl : (Lib.join (ys.map (·.data.toList)) [44]).length ≤ 6 * (wxs.map (fun s => 1 + szL n s.xs)).sum := by
              rw [hyt]
              have h1 := join_len (wxs.map (fun s => txt n true s.xs))
              rw [List.map_map] at h1
              have h2 := sum_mono (xs := wxs) (f := (fun x : List UInt8 => x.length + 1) ∘ (fun s : Sl (P n) => txt n true s.xs)) (g := fun s => 6 * (1 + szL n s.xs)) (fun s _ => by
                have := txt_len n true s.xs
                show (txt n true s.xs).length + 1 ≤ _
                omega)
              have h5 : (wxs.map (fun s => 6 * (1 + szL n s.xs))).sum = 6 * (wxs.map (fun s => 1 + szL n s.xs)).sum := sum_six (fun s : Sl (P n) => szL n s.xs) _
              omega
            obtain ⟨JT, hJT⟩ : ∃ JT, Lib.join (ys.map (·.data.toList)) [44] = JT := ⟨_, rfl⟩
            have HT3 : Hid (oA = B.data.toList ++ ([123] ++ JT ++ [125])) := Lib.hid (by rw [HT2.out, ← hJT, hyt]; rfl)
            have HJT := Lib.hid hJT
            rw [hJT] at hjl
            have hwpos : 0 < wxs.length := List.length_pos_iff.2 hwne
            clear HT2 hyt hys hJT hwne
            obtain ⟨wo, rfl⟩ : ∃ wo : World, wo = wr := ⟨_, rfl⟩
            go_wp2_with fail
            clear q0 q1 q2 q3 q4 q5
            go_loopg [9, 78] wxs.length (fun g s9 i wx => ∃ (j : Nat) (a' : Option Addr) (cap : Nat), j + g = wxs.length ∧ i = .int .i64 j ∧ s9 = .slice a' j cap ∧ Hid (OwnS w5 wx a' cap (ys.take j)))
            case atStart => exact ⟨0, none, 0, by omega, rfl, rfl, Lib.hid (by rw [List.take_zero]; exact OwnS.nil (Below.refl _ _))⟩
            case round =>
              obtain ⟨j, a', cap, hj, rfl, rfl, HW⟩ := hrel
              have htl : (ys.take j).length = j := by rw [List.length_take]; omega
              by_cases hlt2 : j < wxs.length
              · obtain ⟨g2, rfl⟩ : ∃ g2, gk = g2 + 1 := ⟨gk - 1, by omega⟩
                obtain ⟨t, hx⟩ : ∃ t : Sl (P n), wxs[j]? = some t := ⟨_, List.getElem?_eq_getElem hlt2⟩
                have hbw := bTrans hb5 HW.out.below
                obtain ⟨bw, ow, ha, hbwl, r0⟩ := wayRow (HPo2.out.2.1.under hbw) hx
                have hmem := List.mem_of_getElem? hx
                have hszt : 1 + szL n t.xs ≤ (wxs.map (fun s => 1 + szL n s.xs)).sum := le_sum (List.mem_map.2 ⟨t, hmem, rfl⟩)
                have HC := Lib.hid (HIH.out t true wr ((HPo2.out.2.2 t hmem).under hbw) (HWs.out t hmem) (by omega))
                have HYj : Hid (ys[j]? = some (⟨(txt n true t.xs).toArray⟩ : ByteArray)) := Lib.hid (by rw [← HYs.out, List.getElem?_map, hx]; rfl)
                generalize (⟨(txt n true t.xs).toArray⟩ : ByteArray) = y at *
                have HTL := Lib.hid htl
                simp only [] at ha
                cases ha
                clear hx hmem htl
                go_wp2_with fail
                refine HC.out.mono ?_
                rintro e w6 ⟨rfl, hb6⟩
                have HW6 := Lib.hid (OwnS.under HW.out hb6)
                have hl1 : (ys.take j).length + 1 ≤ 8796093022208 := by rw [HTL.out]; omega
                clear r0
                go_wp2_with (at_builtin; refine wp_appS HW6.out y hl1 rfl (.tmp 82) (.tmp 85) rfl (by rw [HTL.out]; rfl) rfl ?_; rw [HTL.out]; intro g5 cap5 w7 hO7)
                have HO7 : Hid (OwnS w5 w7 (some ⟨g5, 0, none⟩) cap5 (ys.take (j + 1))) := Lib.hid (by
                  rw [List.take_add_one, HYj.out]
                  exact hO7)
                clear hO7 HW6 HW
                go_wp2_with fail
                go_roundg g2
                case measure => omega
                case rel => exact ⟨j + 1, some ⟨g5, 0, none⟩, cap5, by omega, by go_num, rfl, HO7⟩
              · obtain rfl : j = wxs.length := by omega
                have HW2 : Hid (OwnS w5 wr a' cap ys) := Lib.hid (by
                  have := HW.out
                  rw [List.take_of_length_le (by omega)] at this
                  exact this)
                obtain ⟨bk, o, ha, hbk, -⟩ := (Own.holds HW2.out).at (k := 0) (u := .string (ys[0]'(by omega))) (by rw [List.getElem?_map, List.getElem?_eq_getElem (by omega)]; rfl)
                subst ha
                have HJ := Lib.hid (Tryz.strings_Join bk o cap ys ⟨#[44]⟩ wr (fun m y hy => by
                  obtain ⟨bk', o', e, _, hc⟩ := (Own.holds HW2.out).at (k := m) (u := .string y) (by rw [List.getElem?_map, hy]; rfl)
                  cases e
                  exact hc) hbk (by omega) (by have := Own.cap HW2.out; exact this) (by
                  show (Lib.join (ys.map (·.data.toList)) [44]).length ≤ _
                  rw [HJT.out]
                  omega))
                have HJ : Hid (Calls Tryz.prog 169 #[.slice (some ⟨bk, o, none⟩) ys.length cap, .string ⟨#[44]⟩] wr fun e w' => e = .returned (.string ⟨JT.toArray⟩) ∧ Below wr.heap.size wr w') := Lib.hid (by
                  rw [← HJT.out]
                  exact HJ.out)
                rw [hyl] at HJ
                have hJs : (⟨JT.toArray⟩ : ByteArray).size = JT.length := by rw [Lib.size_eq]
                have HJs : Hid ((⟨JT.toArray⟩ : ByteArray).data.toList = JT) := Lib.hid rfl
                generalize (⟨JT.toArray⟩ : ByteArray) = JB at *
                obtain ⟨Y0, hY0, hz0, hadd0⟩ := cat ⟨#[123]⟩ JB (by show 1 + _ ≤ _; omega)
                have hz0 : Y0.size = 1 + JB.size := hz0
                obtain ⟨Y1, hY1, hz1, hadd1⟩ := cat Y0 ⟨#[125]⟩ (by show _ + 1 ≤ _; omega)
                have hz1 : Y1.size = Y0.size + 1 := hz1
                obtain ⟨Y2, hY2, _, hadd2⟩ := cat B Y1 (by omega)
                have HF : Hid (Y2.data.toList = oA) := Lib.hid (by rw [HT3.out, hY2, hY1, hY0, HJs.out])
                have hbw := bTrans hb5 HW2.out.below
                clear hY0 hY1 hY2 hz0 hz1 hJs HJs HW HT3 HJT
                have HTL := Lib.hid htl
                have HYL := Lib.hid hyl
                clear hyl
                go_wp2_with fail
                refine HJ.out.mono ?_
                rintro e w6 ⟨rfl, hb6⟩
                go_wp2_with fail
                go_roundg g
                case measure => omega
                case rel => exact ⟨k + 1, Y2, by omega, by go_num, rfl, bTrans hbw hb6, Lib.hid (HF.out.trans HOA.out.symm)⟩
      · obtain rfl : k = xs.length := by omega
        rw [List.take_of_length_le (Nat.le_refl _)] at HB
        have HF := Lib.hid (str_eq HB.out)
        clear HB
        go_wp2_with fail
        go_ret
        exact ⟨ret_strv HF.out, hb⟩
end Go.Proofs.YtfenmeacimfiaaaGreatDoor
namespace Go.Proofs.YtfenmeacimfiaaaGreatDoor
open Go.RowKit

theorem oddB_rep (m : Nat) : ∀ b, oddB b (List.replicate m 92) = if m % 2 = 1 then !b else b := by
  induction m with
  | zero => intro b; rfl
  | succ m ih =>
    intro b
    show oddB (92 == 92 && !b) (List.replicate m 92) = _
    rw [ih]
    rcases (by omega : m % 2 = 0 ∨ m % 2 = 1) with h | h
    · rw [if_neg (by omega), if_pos (by omega)]
      simp
    · rw [if_pos h, if_neg (by omega)]
      simp
theorem oddB_tail (a : List UInt8) (m : Nat) (h : oddB false a = false) : oddB false (a ++ List.replicate m 92) = ((m : Int) % 2 == 1) := by
  rw [oddB_append, h, oddB_rep]
  rcases (by omega : m % 2 = 0 ∨ m % 2 = 1) with h | h
  · rw [if_neg (by omega)]
    have : (m : Int) % 2 = 0 := by omega
    rw [this]
    rfl
  · rw [if_pos h]
    have : (m : Int) % 2 = 1 := by omega
    rw [this]
    rfl

set_option maxHeartbeats 2000000 in
set_option maxRecDepth 100000 in
theorem quotedLast_any (s : ByteArray) (w : World) (h0 : 0 < s.size) (h1 : s.size ≤ 10000000) :
    Calls Tryz.prog 49 #[.string s] w fun e w' => e = .returned (.bool (oddB false s.data.toList.dropLast)) ∧ w = w' := by
  obtain ⟨q, hq⟩ : ∃ q : Nat, s.size = q + 1 := ⟨s.size - 1, by omega⟩
  have hsl : s.data.toList.length = s.size := (Lib.size_eq s).symm
  have hql : s.data.toList.dropLast.length = q := by rw [List.length_dropLast]; omega
  have HGet : Hid (∀ (k : Nat) (hk : k < s.size), k < q → s.data.toList.dropLast[k]? = some s[k]) := Lib.hid (fun k hk hkq => by
    rw [List.getElem?_dropLast, if_pos (by omega)]
    exact Lib.data_getElem? s k hk)
  obtain ⟨l, hl⟩ : ∃ l, s.data.toList.dropLast = l := ⟨_, rfl⟩
  rw [hl] at hql HGet
  rw [hl]
  have HQ := Lib.hid hq
  have HL := Lib.hid hql
  have hi0 : (s.size : Int) - 2 = (q : Int) - 1 := by omega
  obtain ⟨i0, hi⟩ : ∃ i0 : Int, (s.size : Int) - 2 = i0 := ⟨_, rfl⟩
  have HI : Hid (i0 = (q : Int) - 1) := Lib.hid (by omega)
  have hqb : q ≤ 10000000 := by omega
  clear hq hql hsl hl hi0
  go_enter Tryz.func49, Tryz.ntmps49
  go_wp2_with fail
  go_loopg [3, 4] q (fun g s3 s4 wx => ∃ (m : Nat) (ii : Int), s3 = .int .i64 m ∧ s4 = .int .i64 ii ∧ m ≤ 10000000 ∧ g ≤ 10000000 ∧ Hid (ii = (g : Int) - 1) ∧ Hid (g + m = q) ∧ Hid (l = l.take g ++ List.replicate m 92) ∧ w = wx)
  case atStart => exact ⟨0, i0, rfl, rfl, by omega, hqb, HI, Lib.hid (by omega), Lib.hid (by rw [List.take_of_length_le (by rw [HL.out]; exact Nat.le_refl _)]; simp), rfl⟩
  case round =>
    clear HI hi
    obtain ⟨m, ii, rfl, rfl, hm, hg, HI, HM, HS, rfl⟩ := hrel
    by_cases h0 : gk = 0
    · subst h0
      obtain rfl : ii = -1 := by have := HI.out; omega
      have HR : Hid (oddB false l = ((m : Int) % 2 == 1)) := Lib.hid (by
        rw [HS.out]
        exact oddB_tail _ _ rfl)
      clear HS HI HM
      go_wp2_with fail
      go_ret
      exact ⟨ret_bool HR.out.symm, rfl⟩
    · obtain ⟨k, rfl⟩ : ∃ k, gk = k + 1 := ⟨gk - 1, by omega⟩
      obtain rfl : ii = (k : Int) := by have := HI.out; omega
      have hks : k < s.size := by have := HQ.out; have := HM.out; omega
      have hkq : k < q := by have := HM.out; omega
      obtain ⟨ch, hch⟩ : ∃ ch : UInt8, s[k]'hks = ch := ⟨_, rfl⟩
      have HCh : Hid (l[k]? = some ch) := Lib.hid (by rw [HGet.out k hks hkq, hch])
      have HTk : Hid (l.take (k + 1) = l.take k ++ [ch]) := Lib.hid (by rw [List.take_add_one, HCh.out]; rfl)
      by_cases h92 : ch = 92
      · have e92 : ((ch.toNat : Int) == 92) = true := by rw [h92]; rfl
        have HS2 : Hid (l = l.take k ++ List.replicate (m + 1) 92) := Lib.hid (by
          have := HS.out
          rw [HTk.out, h92] at this
          rw [List.replicate_succ]
          simpa using this)
        have hm1 : m + 1 ≤ 10000000 := by have := HM.out; omega
        clear HS h92 h0
        go_wp2_with fail
        go_roundg k
        case measure => omega
        case rel => exact ⟨m + 1, (k : Int) - 1, by go_num, by go_num, hm1, by omega, Lib.hid rfl, Lib.hid (by have := HM.out; omega), HS2, rfl⟩
      · have e92 : ((ch.toNat : Int) == 92) = false := by
          have : ch.toNat ≠ 92 := fun e => h92 (UInt8.toNat_inj.1 (by simpa using e))
          simp only [beq_eq_false_iff_ne, ne_eq]
          omega
        have HR : Hid (oddB false l = ((m : Int) % 2 == 1)) := Lib.hid (by
          rw [HS.out]
          refine oddB_tail _ _ ?_
          rw [HTk.out]
          exact oddB_last _ _ _ (by simpa using h92))
        clear HS h92 h0
        go_wp2_with fail
        go_ret
        exact ⟨ret_bool HR.out.symm, rfl⟩

set_option maxHeartbeats 4000000 in
set_option maxRecDepth 100000 in
theorem showGlob_any (n : Nat) (s : Sl (P (n + 1))) (rooted dirs : Bool) (w : World) (hs : SOk w (n + 1) s) (hg : Good (n + 1) s.xs) (hz : szL (n + 1) s.xs ≤ 1048576) :
    Calls Tryz.prog 54 #[globVal rooted dirs s] w fun e w' => e = .returned (.string ⟨(gtxtR rooted dirs (n + 1) s.xs).toArray⟩) ∧ Below w.heap.size w w' := by
  have hTl := txt_len (n + 1) false s.xs
  have hb1 : Below w.heap.size w (w.alloc (.cells (globArr rooted dirs s) 34)) := bAlloc (Below.refl _ _) _
  have HC := Lib.hid (showParts_any (n + 1) s false _ (hs.under hb1) hg hz)
  have HQ := Lib.hid (BoxIs.new w (globArr rooted dirs s) 34)
  have HG : Hid (gtxtR rooted dirs (n + 1) s.xs = wrapG rooted dirs (suffR dirs (preG rooted (txt (n + 1) false s.xs)))) := Lib.hid rfl
  generalize gtxtR rooted dirs (n + 1) s.xs = G at *
  have HT : Hid ((⟨(txt (n + 1) false s.xs).toArray⟩ : ByteArray).data.toList = txt (n + 1) false s.xs) := Lib.hid rfl
  have hB0 : (⟨(txt (n + 1) false s.xs).toArray⟩ : ByteArray).size ≤ 6291456 := by rw [Lib.size_eq]; show (txt (n + 1) false s.xs).length ≤ _; omega
  generalize (⟨(txt (n + 1) false s.xs).toArray⟩ : ByteArray) = B0 at *
  rw [← HT.out] at HG
  clear HT hTl hs hg
  obtain ⟨sa, sc, xs⟩ := s
  simp only [] at *
  go_enter Tryz.func54, Tryz.ntmps54
  go_upto_region 1 with fail
  generalize w.alloc (.cells (globArr rooted dirs (⟨sa, sc, xs⟩ : Sl (P (n + 1)))) 34) = w1 at *
  have c2 := HQ.out.cell (j := 2) rfl
  go_wp2_with fail
  refine HC.out.mono ?_
  rintro e w3 ⟨rfl, hb3⟩
  have HQ3 := Lib.hid (HQ.out.under hb3)
  replace hb3 := bTrans hb1 hb3
  clear c2 HC HQ hb1
  have c0 := HQ3.out.cell (j := 0) rfl
  have c1 := HQ3.out.cell (j := 1) rfl
  have HPf := Lib.hid (fun W => Tryz.strings_HasPrefix B0 ⟨#[47]⟩ W)
  have HPf : Hid (∀ W, Calls Tryz.prog 117 #[.string B0, .string ⟨#[47]⟩] W fun e w' => e = .returned (.bool (B0.data.toList.head? == some 47)) ∧ w' = W) := Lib.hid (fun W => by rw [← hasPre_one]; exact HPf.out W)
  have HPr : Hid (preG rooted B0.data.toList = if !rooted && B0.data.toList.head? == some 47 then 92 :: B0.data.toList else B0.data.toList) := Lib.hid rfl
  generalize (B0.data.toList.head? == some 47) = bL at *
  generalize preG rooted B0.data.toList = S1 at *
  obtain ⟨Y0, hY0, hz0, hadd0⟩ := cat ⟨#[92]⟩ B0 (by show 1 + _ ≤ _; omega)
  have hz0 : Y0.size = 1 + B0.size := hz0
  have HY0 : Hid (Y0.data.toList = 92 :: B0.data.toList) := Lib.hid hY0
  clear hY0
  go_upto_region 2 with fail
  go_cut [14] (fun s14 wx => s14 = .bool (!rooted && bL) ∧ w3 = wx)
  case first =>
    cases rooted
    · go_wp2_with (go_at_call 117; refine (HPf.out _).mono ?_; rintro e w' ⟨rfl, hw'⟩; subst w')
      go_meet
      exact ⟨rfl, rfl⟩
    · go_wp2_with fail
      go_meet
      exact ⟨rfl, rfl⟩
  case rest =>
  obtain ⟨rfl, rfl⟩ := hcut
  clear HPf
  generalize (!rooted && bL) = X1 at *
  go_upto_if 14 with fail
  go_cut [3] (fun s3 wx => ∃ B1 : ByteArray, s3 = .string B1 ∧ w3 = wx ∧ B1.size ≤ 6291457 ∧ Hid (B1.data.toList = S1))
  case first =>
    cases X1
    · go_wp2_with fail
      go_meet
      exact ⟨B0, rfl, rfl, by omega, Lib.hid (by rw [HPr.out]; rfl)⟩
    · go_wp2_with fail
      go_meet
      exact ⟨Y0, rfl, rfl, by omega, Lib.hid (by rw [HPr.out, HY0.out]; rfl)⟩
  case rest =>
  obtain ⟨B1, rfl, rfl, hB1, HB1⟩ := hcut
  rw [← HB1.out] at HG
  clear HB1 HPr hadd0 HY0 hz0 hB0
  have HSf : Hid (suffR dirs B1.data.toList = if !dirs && B1.data.toList.getLast? == some 47 && !oddB false B1.data.toList.dropLast then B1.data.toList.dropLast ++ [92, 47] else B1.data.toList) := Lib.hid rfl
  obtain ⟨X2, hX2⟩ : ∃ X2, (!dirs && B1.data.toList.getLast? == some 47 && !oddB false B1.data.toList.dropLast) = X2 := ⟨_, rfl⟩
  rw [hX2] at HSf
  have HX2 := Lib.hid hX2
  have HXp : Hid (X2 = true → 0 < B1.size) := Lib.hid (fun h => by
    rw [← hX2] at h
    rw [Lib.size_eq]
    refine List.length_pos_iff.2 (fun e => ?_)
    rw [e] at h
    simp at h)
  clear hX2
  generalize suffR dirs B1.data.toList = S2 at *
  go_upto_region 5 with fail
  go_cut [37] (fun s37 wx => s37 = .bool X2 ∧ w3 = wx)
  case first =>
    cases dirs
    case true =>
      go_wp2_with fail
      go_meet
      exact ⟨by rw [← HX2.out]; rfl, rfl⟩
    case false =>
      by_cases hz : 0 < B1.size
      · obtain ⟨k, hk⟩ : ∃ k : Nat, (B1.size : Int) - 1 = (k : Int) := ⟨B1.size - 1, by omega⟩
        have hkl : k < B1.size := by omega
        obtain ⟨ch, hch⟩ : ∃ ch : UInt8, B1[k]'hkl = ch := ⟨_, rfl⟩
        have HL : Hid (B1.data.toList.getLast? = some ch) := Lib.hid (by
          rw [List.getLast?_eq_getElem?, ← Lib.size_eq, show B1.size - 1 = k by omega, Lib.data_getElem? B1 k hkl, hch])
        have HQL := Lib.hid (fun W => quotedLast_any B1 W hz (by omega))
        generalize oddB false B1.data.toList.dropLast = od at *
        by_cases h47 : ch = 47
        · have e47 : ((ch.toNat : Int) == 47) = true := by rw [h47]; rfl
          have HR : Hid (X2 = !od) := Lib.hid (by rw [← HX2.out, HL.out, h47]; rfl)
          clear h47 HX2
          go_wp2_with (go_at_call 49; refine (HQL.out _).mono ?_; rintro e w' ⟨rfl, rfl⟩)
          go_meet
          exact ⟨by rw [HR.out], rfl⟩
        · have e47 : ((ch.toNat : Int) == 47) = false := by
            have : ch.toNat ≠ 47 := fun e => h47 (UInt8.toNat_inj.1 (by simpa using e))
            simp only [beq_eq_false_iff_ne, ne_eq]
            omega
          have HR : Hid (X2 = false) := Lib.hid (by
            rw [← HX2.out, HL.out]
            have : (some ch == some (47 : UInt8)) = false := by simpa using h47
            rw [this]
            rfl)
          clear h47 HX2
          go_wp2_with fail
          go_meet
          exact ⟨by rw [HR.out], rfl⟩
      · have hz1 : B1.size = 0 := by omega
        have HR : Hid (X2 = false) := Lib.hid (by
          cases hX : X2
          · rfl
          · have := HXp.out hX
            omega)
        have hz2 : ¬ 0 < B1.size := by omega
        clear hz hz1 HX2
        go_wp2_with fail
        go_meet
        exact ⟨by rw [HR.out], rfl⟩
  case rest =>
  obtain ⟨rfl, rfl⟩ := hcut
  clear HX2
  go_upto_if 37 with fail
  go_cut [3] (fun s3 wx => ∃ B2 : ByteArray, s3 = .string B2 ∧ w3 = wx ∧ B2.size ≤ 6291459 ∧ Hid (B2.data.toList = S2))
  case first =>
    cases X2
    · clear HXp
      go_wp2_with fail
      go_meet
      exact ⟨B1, rfl, rfl, by omega, Lib.hid (by rw [HSf.out]; rfl)⟩
    · have hp := HXp.out rfl
      obtain ⟨k, hk⟩ : ∃ k : Nat, (B1.size : Int) - 1 = (k : Int) := ⟨B1.size - 1, by omega⟩
      have hk2 : k ≤ B1.size := by omega
      have hk3 : k ≤ 10000000 := by omega
      have hex : (B1.extract 0 k).size = k := by rw [ByteArray.size_extract]; omega
      obtain ⟨Y, hY, hz0, hadd⟩ := cat (B1.extract 0 k) ⟨#[92, 47]⟩ (by rw [hex]; show _ + 2 ≤ _; omega)
      have hz0 : Y.size = (B1.extract 0 k).size + 2 := hz0
      have HF : Hid (Y.data.toList = S2) := Lib.hid (by
        rw [hY, take_ext, HSf.out, if_pos rfl, List.dropLast_eq_take, ← Lib.size_eq, show B1.size - 1 = k by omega])
      have hYs : Y.size ≤ 6291459 := by omega
      clear hY hz0 HSf HXp hex hp
      go_wp2_with fail
      go_meet
      exact ⟨Y, rfl, rfl, hYs, HF⟩
  case rest =>
  obtain ⟨B2, rfl, rfl, hB2, HB2⟩ := hcut
  rw [← HB2.out] at HG
  clear HB2 HSf HXp hB1
  obtain ⟨Y2, hY2, hz2, hadd2⟩ := cat ⟨#[47]⟩ B2 (by show 1 + _ ≤ _; omega)
  have hz2 : Y2.size = 1 + B2.size := hz2
  have HY2 : Hid (Y2.data.toList = 47 :: B2.data.toList) := Lib.hid hY2
  clear hY2
  go_upto_if 44 with fail
  go_cut [3] (fun s3 wx => ∃ B3 : ByteArray, s3 = .string B3 ∧ w3 = wx ∧ B3.size ≤ 6291460 ∧ Hid (B3.data.toList = if rooted then 47 :: B2.data.toList else B2.data.toList))
  case first =>
    cases rooted
    · go_wp2_with fail
      go_meet
      exact ⟨B2, rfl, rfl, by omega, Lib.hid rfl⟩
    · go_wp2_with fail
      go_meet
      exact ⟨Y2, rfl, rfl, by omega, HY2⟩
  case rest =>
  obtain ⟨B3, rfl, rfl, hB3, HB3⟩ := hcut
  obtain ⟨Y3, hY3, _, hadd3⟩ := cat B3 ⟨#[47]⟩ (by show _ + 1 ≤ _; omega)
  have HG4 : Hid (G = B3.data.toList ++ (if dirs then [47] else [])) := Lib.hid (by rw [HG.out, HB3.out]; rfl)
  have HY3 : Hid (Y3.data.toList = B3.data.toList ++ [47]) := Lib.hid hY3
  clear HG HB3 hadd2 HY2 hY3 hz2
  cases dirs
  · have HF : Hid (B3 = ⟨G.toArray⟩) := Lib.hid (str_eq (by rw [HG4.out]; simp))
    go_wp2_with fail
    go_ret
    exact ⟨ret_strv HF.out, hb3⟩
  · have HF : Hid (Y3 = ⟨G.toArray⟩) := Lib.hid (str_eq (by rw [HG4.out, HY3.out]; rfl))
    go_wp2_with fail
    go_ret
    exact ⟨ret_strv HF.out, hb3⟩
end Go.Proofs.YtfenmeacimfiaaaGreatDoor
namespace Go.Proofs.YtfenmeacimfiaaaGreatDoor
open Go.RowKit

/-- What CheckGlob returns. -/
def ckG (rooted dirs : Bool) (n : Nat) (xs : List (P n)) : Int :=
  if 200 < cntL n xs ∨ 5 < dpL n xs then 8 else if chk n xs ≠ 0 then chk n xs else if xs = [] then 21 else if meet n xs then 6 else if 200 < (gtxtN rooted dirs n xs).length then 8 else 0
theorem gtxt_len (rooted dirs : Bool) (n : Nat) (xs : List (P n)) : (gtxtN rooted dirs n xs).length ≤ 6 * szL n xs + 5 := by
  have h := txt_len n false xs
  unfold gtxtN wrapG preG suffN
  generalize txt n false xs = T at *
  have h1 : (if !dirs && lastSl n xs then T.dropLast ++ [92, 47] else T).length ≤ T.length + 2 := by
    split <;> simp
  generalize (if !dirs && lastSl n xs then T.dropLast ++ [92, 47] else T) = S1 at *
  have h2 : (if !rooted && S1.head? == some 47 then 92 :: S1 else S1).length ≤ S1.length + 1 := by
    split <;> simp
  generalize (if !rooted && S1.head? == some 47 then 92 :: S1 else S1) = S2 at *
  rw [List.length_append]
  have h3 : (if rooted then 47 :: S2 else S2).length ≤ S2.length + 1 := by
    split <;> simp
  have h4 : (if dirs then [(47 : UInt8)] else []).length ≤ 1 := by
    split <;> simp
  omega

set_option maxHeartbeats 4000000 in
set_option maxRecDepth 100000 in
theorem checkGlob_any (n : Nat) (s : Sl (P n)) (rooted dirs : Bool) (w : World) (hs : SOk w n s) (hz : szL n s.xs ≤ 1048576) :
    Calls Tryz.prog 16 #[globVal rooted dirs s] w fun e w' => e = .returned (.int .i64 (ckG rooted dirs n s.xs)) ∧ Below w.heap.size w w' := by
  have hlen : s.xs.length ≤ 1048576 := Nat.le_trans (len_le_sz n s.xs) hz
  have HPC := Lib.hid (fun W (hb : Below w.heap.size w W) => partCount_any n s W (hs.under hb) hz hlen)
  have HCK := Lib.hid (fun W (hb : Below w.heap.size w W) => checkParts_any n s W (hs.under hb) hz)
  have HSM := Lib.hid (fun W (hb : Below w.heap.size w W) => starsMeet_any n s W (hs.under hb) hz)
  have HGT : Hid (chk n s.xs = 0 → s.xs ≠ [] → ∀ W (_ : Below w.heap.size w W), Calls Tryz.prog 55 #[globVal rooted dirs s] W fun e w' => e = .returned (.string ⟨(gtxtN rooted dirs n s.xs).toArray⟩) ∧ Below W.heap.size W w') := Lib.hid (fun h0 hne W hb => by
    have hg := good_of_chk n s.xs h0
    cases n with
    | zero =>
      obtain ⟨a, c, xs⟩ := s
      cases xs with
      | cons x _ => exact nomatch x
      | nil => exact absurd rfl hne
    | succ n => exact globText_any n s rooted dirs W (hs.under hb) hg hne hz)
  have HK : Hid (ckG rooted dirs n s.xs = if 200 < cntL n s.xs ∨ 5 < dpL n s.xs then 8 else if chk n s.xs ≠ 0 then chk n s.xs else if s.xs = [] then 21 else if meet n s.xs then 6 else if 200 < (gtxtN rooted dirs n s.xs).length then 8 else 0) := Lib.hid rfl
  have hgl := gtxt_len rooted dirs n s.xs
  have HTz : Hid ((⟨(gtxtN rooted dirs n s.xs).toArray⟩ : ByteArray).size = (gtxtN rooted dirs n s.xs).length) := Lib.hid (by rw [Lib.size_eq])
  have hts : (⟨(gtxtN rooted dirs n s.xs).toArray⟩ : ByteArray).size ≤ 10000000 := by rw [HTz.out]; omega
  generalize (⟨(gtxtN rooted dirs n s.xs).toArray⟩ : ByteArray) = TB at *
  generalize (gtxtN rooted dirs n s.xs).length = tl at *
  generalize ckG rooted dirs n s.xs = K at *
  generalize hcnt : cntL n s.xs = cn at *
  generalize hdep : dpL n s.xs = de at *
  have hcb : cn ≤ 1048576 := by rw [← hcnt]; exact Nat.le_trans (cntL_le n s.xs) hz
  have hdb : de ≤ 1048576 := by rw [← hdep]; exact Nat.le_trans (dpL_le n s.xs) hz
  generalize chk n s.xs = C at *
  generalize meet n s.xs = M at *
  have hb1 : Below w.heap.size w (w.alloc (.cells (globArr rooted dirs s) 34)) := bAlloc (Below.refl _ _) _
  have HQ := Lib.hid (BoxIs.new w (globArr rooted dirs s) 34)
  clear hs hcnt hdep hz
  obtain ⟨sa, sc, xs⟩ := s
  simp only [] at *
  go_enter Tryz.func16, Tryz.ntmps16
  go_upto_region 1 with fail
  generalize w.alloc (.cells (globArr rooted dirs (⟨sa, sc, xs⟩ : Sl (P n))) 34) = w1 at *
  have c2 := HQ.out.cell (j := 2) rfl
  go_wp2_with fail
  refine (HPC.out _ hb1).mono ?_
  rintro e w2 ⟨rfl, hb2⟩
  have HQ2 := Lib.hid (HQ.out.under hb2)
  replace hb2 := bTrans hb1 hb2
  clear c2 HPC HQ hb1
  have c2 := HQ2.out.cell (j := 2) rfl
  go_upto_region 2 with fail
  by_cases h1 : 200 < cn
  · have HR : Hid (K = 8) := Lib.hid (by rw [HK.out, if_pos (.inl h1)])
    clear HK
    go_wp2_with fail
    go_ret
    exact ⟨ret_int HR.out.symm, hb2⟩
  by_cases h2 : 5 < de
  · have HR : Hid (K = 8) := Lib.hid (by rw [HK.out, if_pos (.inr h2)])
    clear HK
    go_wp2_with fail
    go_ret
    exact ⟨ret_int HR.out.symm, hb2⟩
  replace HK := Lib.hid (HK.out.trans (if_neg (by omega)))
  by_cases hC : C = 0
  case neg =>
    have HR : Hid (K = C) := Lib.hid (HK.out.trans (if_pos hC))
    have hC' : (C != 0) = true := by simp [hC]
    clear HK hC HGT
    go_wp2_with fail
    refine (HCK.out _ hb2).mono ?_
    rintro e w3 ⟨rfl, hb3⟩
    go_wp2_with fail
    go_ret
    exact ⟨ret_int HR.out.symm, bTrans hb2 hb3⟩
  subst hC
  replace HK := Lib.hid (HK.out.trans (if_neg (by decide)))
  go_wp2_with fail
  refine (HCK.out _ hb2).mono ?_
  rintro e w3 ⟨rfl, hb3⟩
  have HQ3 := Lib.hid (HQ2.out.under hb3)
  replace hb3 := bTrans hb2 hb3
  clear c2 HCK HQ2 hb2 h1 h2
  have c2 := HQ3.out.cell (j := 2) rfl
  by_cases hx : xs = []
  · have HR : Hid (K = 21) := Lib.hid (HK.out.trans (if_pos hx))
    have hx0 : ((xs.length : Int) == 0) = true := by rw [hx]; rfl
    clear HK hx HGT
    go_wp2_with fail
    go_ret
    exact ⟨ret_int HR.out.symm, hb3⟩
  replace HK := Lib.hid (HK.out.trans (if_neg hx))
  have hx0 : ((xs.length : Int) == 0) = false := by
    have : xs.length ≠ 0 := fun e => hx (List.length_eq_zero_iff.1 e)
    simpa using this
  have HGT := Lib.hid (HGT.out (by first | rfl | trivial) hx)
  clear hx
  go_wp2_with fail
  refine (HSM.out _ hb3).mono ?_
  rintro e w4 ⟨rfl, hb4⟩
  have HQ4 := Lib.hid (HQ3.out.under hb4)
  replace hb4 := bTrans hb3 hb4
  clear c2 HSM HQ3 hb3
  cases M
  case true =>
    have HR : Hid (K = 6) := Lib.hid (HK.out.trans (if_pos rfl))
    clear HK HGT
    go_wp2_with fail
    go_ret
    exact ⟨ret_int HR.out.symm, hb4⟩
  replace HK := Lib.hid (HK.out.trans (if_neg (by decide)))
  have c0 := HQ4.out.cell (j := 0) rfl
  have c1 := HQ4.out.cell (j := 1) rfl
  have c2 := HQ4.out.cell (j := 2) rfl
  go_wp2_with fail
  refine (HGT.out _ hb4).mono ?_
  rintro e w5 ⟨rfl, hb5⟩
  clear c0 c1 c2
  by_cases hl : 200 < TB.size
  · have HR : Hid (K = 8) := Lib.hid (HK.out.trans (if_pos (by have := HTz.out; omega)))
    clear HK
    go_wp2_with fail
    go_ret
    exact ⟨ret_int HR.out.symm, bTrans hb4 hb5⟩
  · have HR : Hid (K = 0) := Lib.hid (HK.out.trans (if_neg (by have := HTz.out; omega)))
    clear HK
    go_wp2_with fail
    go_ret
    exact ⟨ret_int HR.out.symm, bTrans hb4 hb5⟩

set_option maxHeartbeats 4000000 in
set_option maxRecDepth 100000 in
theorem refCheckGlob_any (n : Nat) (s : Sl (P n)) (rooted dirs : Bool) (w : World) (hs : SOk w n s) (hz : szL n s.xs ≤ 1048576) :
    Calls Tryz.prog 14 #[globVal rooted dirs s] w fun e w' => e = .returned (.int .i64 (ckG rooted dirs n s.xs)) ∧ Below w.heap.size w w' := by
  have hlen : s.xs.length ≤ 1048576 := Nat.le_trans (len_le_sz n s.xs) hz
  have HPC := Lib.hid (fun W (hb : Below w.heap.size w W) => globSize_any n s W (hs.under hb) hz hlen)
  have HCK := Lib.hid (fun W (hb : Below w.heap.size w W) => refCheckParts_any n s W (hs.under hb) hz)
  rw [rchk_eq] at HCK
  have HSM := Lib.hid (fun W (hb : Below w.heap.size w W) => starsTogether_any n s W (hs.under hb) hz)
  have HGT : Hid (chk n s.xs = 0 → s.xs ≠ [] → ∀ W (_ : Below w.heap.size w W), Calls Tryz.prog 54 #[globVal rooted dirs s] W fun e w' => e = .returned (.string ⟨(gtxtN rooted dirs n s.xs).toArray⟩) ∧ Below W.heap.size W w') := Lib.hid (fun h0 hne W hb => by
    have hg := good_of_chk n s.xs h0
    cases n with
    | zero =>
      obtain ⟨a, c, xs⟩ := s
      cases xs with
      | cons x _ => exact nomatch x
      | nil => exact absurd rfl hne
    | succ n => rw [← gtxt_eq rooted dirs (n + 1) s.xs hg hne]; exact showGlob_any n s rooted dirs W (hs.under hb) hg hz)
  have HK : Hid (ckG rooted dirs n s.xs = if 200 < cntL n s.xs ∨ 5 < dpL n s.xs then 8 else if chk n s.xs ≠ 0 then chk n s.xs else if s.xs = [] then 21 else if meet n s.xs then 6 else if 200 < (gtxtN rooted dirs n s.xs).length then 8 else 0) := Lib.hid rfl
  have hgl := gtxt_len rooted dirs n s.xs
  have HTz : Hid ((⟨(gtxtN rooted dirs n s.xs).toArray⟩ : ByteArray).size = (gtxtN rooted dirs n s.xs).length) := Lib.hid (by rw [Lib.size_eq])
  have hts : (⟨(gtxtN rooted dirs n s.xs).toArray⟩ : ByteArray).size ≤ 10000000 := by rw [HTz.out]; omega
  generalize (⟨(gtxtN rooted dirs n s.xs).toArray⟩ : ByteArray) = TB at *
  generalize (gtxtN rooted dirs n s.xs).length = tl at *
  generalize ckG rooted dirs n s.xs = K at *
  generalize hcnt : cntL n s.xs = cn at *
  generalize hdep : dpL n s.xs = de at *
  have hcb : cn ≤ 1048576 := by rw [← hcnt]; exact Nat.le_trans (cntL_le n s.xs) hz
  have hdb : de ≤ 1048576 := by rw [← hdep]; exact Nat.le_trans (dpL_le n s.xs) hz
  generalize chk n s.xs = C at *
  generalize meet n s.xs = M at *
  have hb1 : Below w.heap.size w (w.alloc (.cells (globArr rooted dirs s) 34)) := bAlloc (Below.refl _ _) _
  have HQ := Lib.hid (BoxIs.new w (globArr rooted dirs s) 34)
  clear hs hcnt hdep hz
  obtain ⟨sa, sc, xs⟩ := s
  simp only [] at *
  go_enter Tryz.func14, Tryz.ntmps14
  go_upto_region 1 with fail
  generalize w.alloc (.cells (globArr rooted dirs (⟨sa, sc, xs⟩ : Sl (P n))) 34) = w1 at *
  have c2 := HQ.out.cell (j := 2) rfl
  go_wp2_with fail
  refine (HPC.out _ hb1).mono ?_
  rintro e w2 ⟨rfl, hb2⟩
  have HQ2 := Lib.hid (HQ.out.under hb2)
  replace hb2 := bTrans hb1 hb2
  clear c2 HPC HQ hb1
  have c2 := HQ2.out.cell (j := 2) rfl
  go_upto_region 2 with fail
  by_cases h1 : 200 < cn
  · have HR : Hid (K = 8) := Lib.hid (by rw [HK.out, if_pos (.inl h1)])
    clear HK
    go_wp2_with fail
    go_ret
    exact ⟨ret_int HR.out.symm, hb2⟩
  by_cases h2 : 5 < de
  · have HR : Hid (K = 8) := Lib.hid (by rw [HK.out, if_pos (.inr h2)])
    clear HK
    go_wp2_with fail
    go_ret
    exact ⟨ret_int HR.out.symm, hb2⟩
  replace HK := Lib.hid (HK.out.trans (if_neg (by omega)))
  by_cases hC : C = 0
  case neg =>
    have HR : Hid (K = C) := Lib.hid (HK.out.trans (if_pos hC))
    have hC' : (C != 0) = true := by simp [hC]
    clear HK hC HGT
    go_wp2_with fail
    refine (HCK.out _ hb2).mono ?_
    rintro e w3 ⟨rfl, hb3⟩
    go_wp2_with fail
    go_ret
    exact ⟨ret_int HR.out.symm, bTrans hb2 hb3⟩
  subst hC
  replace HK := Lib.hid (HK.out.trans (if_neg (by decide)))
  go_wp2_with fail
  refine (HCK.out _ hb2).mono ?_
  rintro e w3 ⟨rfl, hb3⟩
  have HQ3 := Lib.hid (HQ2.out.under hb3)
  replace hb3 := bTrans hb2 hb3
  clear c2 HCK HQ2 hb2 h1 h2
  have c2 := HQ3.out.cell (j := 2) rfl
  by_cases hx : xs = []
  · have HR : Hid (K = 21) := Lib.hid (HK.out.trans (if_pos hx))
    have hx0 : ((xs.length : Int) == 0) = true := by rw [hx]; rfl
    clear HK hx HGT
    go_wp2_with fail
    go_ret
    exact ⟨ret_int HR.out.symm, hb3⟩
  replace HK := Lib.hid (HK.out.trans (if_neg hx))
  have hx0 : ((xs.length : Int) == 0) = false := by
    have : xs.length ≠ 0 := fun e => hx (List.length_eq_zero_iff.1 e)
    simpa using this
  have HGT := Lib.hid (HGT.out (by first | rfl | trivial) hx)
  clear hx
  go_wp2_with fail
  refine (HSM.out _ hb3).mono ?_
  rintro e w4 ⟨rfl, hb4⟩
  have HQ4 := Lib.hid (HQ3.out.under hb4)
  replace hb4 := bTrans hb3 hb4
  clear c2 HSM HQ3 hb3
  cases M
  case true =>
    have HR : Hid (K = 6) := Lib.hid (HK.out.trans (if_pos rfl))
    clear HK HGT
    go_wp2_with fail
    go_ret
    exact ⟨ret_int HR.out.symm, hb4⟩
  replace HK := Lib.hid (HK.out.trans (if_neg (by decide)))
  have c0 := HQ4.out.cell (j := 0) rfl
  have c1 := HQ4.out.cell (j := 1) rfl
  have c2 := HQ4.out.cell (j := 2) rfl
  go_wp2_with fail
  refine (HGT.out _ hb4).mono ?_
  rintro e w5 ⟨rfl, hb5⟩
  clear c0 c1 c2
  by_cases hl : 200 < TB.size
  · have HR : Hid (K = 8) := Lib.hid (HK.out.trans (if_pos (by have := HTz.out; omega)))
    clear HK
    go_wp2_with fail
    go_ret
    exact ⟨ret_int HR.out.symm, bTrans hb4 hb5⟩
  · have HR : Hid (K = 0) := Lib.hid (HK.out.trans (if_neg (by have := HTz.out; omega)))
    clear HK
    go_wp2_with fail
    go_ret
    exact ⟨ret_int HR.out.symm, bTrans hb4 hb5⟩
end Go.Proofs.YtfenmeacimfiaaaGreatDoor
namespace Go.Proofs.YtfenmeacimfiaaaGreatDoor
open Go.RowKit

structure RuleOf (D : Nat) where
  inc : Bool
  rooted : Bool
  dirs : Bool
  parts : Sl (P D)
abbrev ruleArr {D : Nat} (r : RuleOf D) : Array Value := #[.bool r.inc, .bool r.rooted, .bool r.dirs, .slice r.parts.a r.parts.xs.length r.parts.c]
def ruleCells {D : Nat} (r : RuleOf D) : List Value := [.bool r.inc, .bool r.rooted, .bool r.dirs, r.parts.val]
structure FilterOf (D : Nat) where
  rules : Sl (RuleOf D)
  minS : Int
  maxS : Int
  minA : Int
  maxA : Int
  maxD : Int
abbrev filterArr {D : Nat} (f : FilterOf D) : Array Value := #[.slice f.rules.a f.rules.xs.length f.rules.c, .int .i64 f.minS, .int .i64 f.maxS, .int .i64 f.minA, .int .i64 f.maxA, .int .i64 f.maxD]
def RulesOk (w : World) (D : Nat) (s : Sl (RuleOf D)) : Prop := SlHolds w 4 ruleCells s ∧ (∀ r ∈ s.xs, SOk w D r.parts) ∧ (s.xs.map (fun r => 1 + szL D r.parts.xs)).sum ≤ 1048576
theorem RulesOk.under {w w' : World} {D : Nat} {s : Sl (RuleOf D)} (h : RulesOk w D s) (hb : Below w.heap.size w w') : RulesOk w' D s := ⟨h.1.under hb, fun r hr => (h.2.1 r hr).under hb, h.2.2⟩
theorem RulesOk.len {w : World} {D : Nat} {s : Sl (RuleOf D)} (h : RulesOk w D s) : s.xs.length ≤ 1048576 := by
  have h1 := sum_mono (xs := s.xs) (f := fun _ => 1) (g := fun r => 1 + szL D r.parts.xs) (fun r _ => by omega)
  rw [sum_ones1] at h1
  exact Nat.le_trans h1 h.2.2
theorem RulesOk.sz {w : World} {D : Nat} {s : Sl (RuleOf D)} (h : RulesOk w D s) {r : RuleOf D} (hr : r ∈ s.xs) : szL D r.parts.xs ≤ 1048576 := by
  have h1 := le_sum (List.mem_map.2 ⟨r, hr, rfl⟩ : (1 + szL D r.parts.xs) ∈ s.xs.map (fun r => 1 + szL D r.parts.xs))
  have h2 := h.2.2
  omega
theorem ruleRow {D : Nat} {w : World} {s : Sl (RuleOf D)} (h : SlHolds w 4 ruleCells s) {k : Nat} {r : RuleOf D} (hk : s.xs[k]? = some r) :
    ∃ b off, s.a = some ⟨b, off, none⟩ ∧ b < w.heap.size ∧ w.cell? ⟨b, off + k * 4, none⟩ = some (.bool r.inc) ∧ w.cell? ⟨b, off + k * 4 + 1, none⟩ = some (.bool r.rooted) ∧ w.cell? ⟨b, off + k * 4 + 2, none⟩ = some (.bool r.dirs) ∧ w.cell? ⟨b, off + k * 4 + 3, none⟩ = some (.slice r.parts.a r.parts.xs.length r.parts.c) := by
  obtain ⟨b, off, ha, hb, hc⟩ := h.1.at (k := k) (row := ruleCells r) (by rw [List.getElem?_map, hk]; rfl)
  exact ⟨b, off, ha, hb, hc 0 _ rfl, hc 1 _ rfl, hc 2 _ rfl, hc 3 _ rfl⟩

def ckR {D : Nat} (r : RuleOf D) : Int := ckG r.rooted r.dirs D r.parts.xs
/-- The error of rules. -/
def rulesErr {D : Nat} (xs : List (RuleOf D)) : Int := if 200 < xs.length then 8 else firstErr (xs.map ckR)

set_option maxHeartbeats 2000000 in
set_option maxRecDepth 100000 in
theorem checkRules_any {D : Nat} (s : Sl (RuleOf D)) (w : World) (hs : RulesOk w D s) :
    Calls Tryz.prog 63 #[.slice s.a s.xs.length s.c] w fun e w' => e = .returned (.int .i64 (rulesErr s.xs)) ∧ Below w.heap.size w w' := by
  have hlen := hs.len
  have HS := Lib.hid hs
  have HK : Hid (rulesErr s.xs = if 200 < s.xs.length then 8 else firstErr (s.xs.map ckR)) := Lib.hid rfl
  generalize rulesErr s.xs = K at *
  clear hs
  obtain ⟨sa, sc, xs⟩ := s
  simp only [] at *
  by_cases h1 : 200 < xs.length
  · have HR : Hid (K = 8) := Lib.hid (HK.out.trans (if_pos h1))
    clear HK
    go_enter Tryz.func63, Tryz.ntmps63
    go_wp2_with fail
    go_ret
    exact ⟨ret_int HR.out.symm, Below.refl _ _⟩
  have HR : Hid (K = firstErr ((xs.map ckR).drop 0)) := Lib.hid (HK.out.trans (if_neg h1))
  clear HK
  go_enter Tryz.func63, Tryz.ntmps63
  go_wp2_with fail
  go_loopg [11] xs.length (fun g i wx => ∃ k : Nat, k + g = xs.length ∧ i = .int .i64 k ∧ Below w.heap.size w wx ∧ Hid (K = firstErr ((xs.map ckR).drop k)))
  case atStart => exact ⟨0, by omega, rfl, Below.refl _ _, HR⟩
  case round =>
    clear HR
    obtain ⟨k, hk, rfl, hb, HK⟩ := hrel
    by_cases hlt : k < xs.length
    · obtain ⟨g, rfl⟩ : ∃ g, gk = g + 1 := ⟨gk - 1, by omega⟩
      obtain ⟨r, hx⟩ : ∃ r, xs[k]? = some r := ⟨_, List.getElem?_eq_getElem hlt⟩
      obtain ⟨ba, off, ha, hba, r0, r1, r2, r3⟩ := ruleRow ((HS.out.under hb).1) hx
      have hmem := List.mem_of_getElem? hx
      rw [firstErr_step (e := ckR r) (by rw [List.getElem?_map, hx]; rfl)] at HK
      have hbx := bAlloc (Below.refl wr.heap.size wr) (.cells (ruleArr r) 47)
      have HX := Lib.hid (BoxIs.new wr (ruleArr r) 47)
      have HC := Lib.hid (checkGlob_any D r.parts r.rooted r.dirs _ (((HS.out.under (bTrans hb hbx)).2.1 r hmem)) (HS.out.sz hmem))
      change Hid (Calls _ _ _ _ fun e w' => e = .returned (.int .i64 (ckR r)) ∧ _) at HC
      generalize ckR r = C at *
      have hb5 := bTrans hb hbx
      simp only [] at ha
      subst ha
      clear hx hmem hbx
      go_upto_region 6 with fail
      generalize wr.alloc _ = w5 at *
      obtain ⟨b0, b1, b2, b3⟩ : _ ∧ _ ∧ _ ∧ _ := ⟨HX.out.cell (j := 0) rfl, HX.out.cell (j := 1) rfl, HX.out.cell (j := 2) rfl, HX.out.cell (j := 3) rfl⟩
      clear r0 r1 r2 r3
      by_cases hC : C = 0
      · subst hC
        replace HK := Lib.hid (HK.out.trans (if_pos rfl))
        go_wp2_with fail
        refine HC.out.mono ?_
        rintro e w6 ⟨rfl, hb6⟩
        clear b0 b1 b2 b3
        go_wp2_with fail
        go_roundg g
        case measure => omega
        case rel => exact ⟨k + 1, by omega, by go_num, bTrans hb5 hb6, HK⟩
      · have HR : Hid (K = C) := Lib.hid (HK.out.trans (if_neg hC))
        have hC' : (C != 0) = true := by simp [hC]
        clear hC HK
        go_wp2_with fail
        refine HC.out.mono ?_
        rintro e w6 ⟨rfl, hb6⟩
        clear b0 b1 b2 b3
        go_wp2_with fail
        go_ret
        exact ⟨ret_int HR.out.symm, bTrans hb5 hb6⟩
    · have HR : Hid (K = 0) := Lib.hid (by rw [HK.out, List.drop_of_length_le (by simp; omega)]; rfl)
      clear HK
      go_wp2_with fail
      go_ret
      exact ⟨ret_int HR.out.symm, hb⟩

def limB (most least : Int) : Bool := decide (most < -1) || (decide (most ≠ -1) && decide (most < least))
def limR (most least : Int) : Bool := decide (most < -1) || (decide (0 ≤ most) && decide (most < least))
theorem limR_eq (m l : Int) : limR m l = limB m l := by
  unfold limR limB
  rw [Bool.eq_iff_iff]
  simp
  omega
def filBad {D : Nat} (f : FilterOf D) : Bool := decide (f.minS < 0) || decide (f.minA < 0) || decide (f.maxD < 0) || limB f.maxS f.minS || limB f.maxA f.minA
/-- What CheckFilter returns. -/
def ckF {D : Nat} (f : FilterOf D) : Int := if rulesErr f.rules.xs ≠ 0 then rulesErr f.rules.xs else if filBad f then 7 else 0

end Go.Proofs.YtfenmeacimfiaaaGreatDoor
namespace Go.Proofs.YtfenmeacimfiaaaGreatDoor
open Go.ChangeShapes Go.WideShapes Go.ChangeAt Go.RowKit Go.Deep

theorem partOne : ∃ fs : Array Field, Tryz.prog.underlying 212 = some (.struct fs) ∧ oneCellFields Tryz.prog fs = true ∧ fs.size = 5 ∧ Tryz.prog.cellsOf 212 = 5 ∧
    fs.map (·.type) = #[3, 9, 4, 209, 210] :=
  ⟨_, Tryz.underlying212, by kernel_rfl, rfl, by kernel_rfl, by simp⟩
theorem cells_pair : Tryz.prog.cellsOf 164 = 2 := by kernel_rfl
theorem cells_parts : Tryz.prog.cellsOf 32 = 1 := by kernel_rfl

abbrev okI (n : Int) : Prop := -9223372036854775808 ≤ n ∧ n ≤ 9223372036854775807
def RgIn : Type := {r : Int × Int // okI r.1 ∧ okI r.2}

theorem sum_ones {α : Type} : ∀ (xs : List α), (xs.map (fun _ => 1)).sum = xs.length
  | [] => rfl
  | _ :: xs => by
    rw [List.map_cons, List.sum_cons, sum_ones xs, List.length_cons]
    omega

theorem mapSub {α : Type} {p : α → Prop} {w : World} {n : Nat} {cells : α → List Value} {s : Sl {x : α // p x}} (h : SlHolds w n (fun x => cells x.1) s) : SlHolds w n cells ⟨s.a, s.c, s.xs.map (·.1)⟩ ∧ (∀ x ∈ s.xs.map (·.1), p x) ∧ (⟨s.a, s.c, s.xs.map (·.1)⟩ : Sl α).val = s.val := by
  refine ⟨⟨?_, ?_, h.2.2⟩, ?_, ?_⟩
  · show HoldsR w s.a n ((s.xs.map (·.1)).map cells)
    rw [List.map_map]
    exact h.1
  · show (s.xs.map (·.1)).length ≤ s.c
    rw [List.length_map]
    exact h.2.1
  · intro x hx
    obtain ⟨t, _, rfl⟩ := List.mem_map.1 hx
    exact t.2
  · simp [Sl.val]

section
variable {H : Type} {enc : TypeId × Value → H} {w : World}

set_option maxRecDepth 100000 in
theorem open_pairs {fuel : Nat} {cs : List Value} {y : DataW H × List MemPlace} (hf : DataW.trod enc Tryz.prog w 0 (fun _ => true) true fuel 209 cs = some y) :
    ∃ s : Sl (Int × Int), cs = [s.val] ∧ SlHolds w 2 rgCells s ∧ (∀ r ∈ s.xs, okI r.1 ∧ okI r.2) ∧ s.xs.length + 1 ≤ Rows.uptoBulk y.1 := by
  obtain ⟨s, hcs, hs, hbk⟩ := open_sl (α := RgIn) (fun r => rgCells r.1) (fun _ => 1) 2 Tryz.underlying209 cells_pair (by decide) (fun _ => rfl) (fun n vs z _ hl hz => by
    obtain ⟨xs, m, _, hzz, _, hxl, hx⟩ := DataW.trod_array Tryz.underlying164 hz
    match vs, hl with
    | [v0, v1], _ =>
      have h0 := hx 0 (by decide)
      have h1 := hx 1 (by decide)
      rw [cells_int, List.getElem?_eq_getElem (by omega)] at h0 h1
      obtain ⟨m0, u0, _, b0⟩ := DataW.trod_int Tryz.underlying3 h0
      obtain ⟨m1, u1, _, b1⟩ := DataW.trod_int Tryz.underlying3 h1
      simp at u0 u1
      subst u0 u1
      exact ⟨⟨(m0, m1), bounds_i64 b0, bounds_i64 b1⟩, rfl, by rw [hzz]; simp [Rows.uptoBulk]⟩) hf
  obtain ⟨h1, h2, h3⟩ := mapSub (p := fun r : Int × Int => okI r.1 ∧ okI r.2) hs
  refine ⟨_, by rw [h3]; exact hcs, h1, h2, ?_⟩
  rw [sum_ones] at hbk
  show (List.map (·.1) s.xs).length + 1 ≤ _
  rw [List.length_map]
  exact hbk

set_option maxRecDepth 100000 in
theorem open_parts : ∀ (fuel D : Nat), fuel ≤ D → ∀ {cs : List Value} {y : DataW H × List MemPlace}, DataW.trod enc Tryz.prog w 0 (fun _ => true) true fuel 32 cs = some y → ∃ s : Sl (P D), cs = [s.val] ∧ SOk w D s ∧ szL D s.xs + 1 ≤ Rows.uptoBulk y.1 := by
  intro fuel
  induction fuel using Nat.strongRecOn with
  | _ fuel ih =>
    intro D hD cs y hf
    obtain ⟨fs, hs, hone, h5, hC, hty⟩ := partOne
    obtain ⟨s, hcs, hsl, hbk⟩ := open_sl (α := {p : P D // POk w D p}) (fun p => partCells D p.1) (fun p => sz D p.1) 5 Tryz.underlying32 hC (by decide) (fun p => partCells_len D p.1) (fun n vs z hn hl hz => by
      cases D with
      | zero => omega
      | succ D =>
        obtain ⟨ys, n', hn', hzz, _, hyl, hg⟩ := DataW.trod_struct hs hz
        have hfld : ∀ (j : Nat) (f : Field), fs[j]? = some f → ∃ v y', vs[j]? = some v ∧ DataW.trod enc Tryz.prog w 0 (fun _ => true) true n' f.type [v] = some y' ∧ ys[j]? = some y' := by
          intro j f hj
          obtain ⟨ho, hk⟩ := hone_of hone j f hj
          have hjl : j < fs.size := (Array.getElem?_eq_some_iff.1 hj).1
          have h1 := hg j f hj
          rw [ho, hk] at h1
          have hone' : (vs.drop j).take 1 = [vs[j]'(by omega)] := by
            rw [List.drop_eq_getElem_cons (by omega)]
            rfl
          rw [hone'] at h1
          have hys : ys[j]? = some (ys[j]'(by omega)) := List.getElem?_eq_getElem (by omega)
          exact ⟨_, _, List.getElem?_eq_getElem (by omega), h1.trans hys, hys⟩
        obtain ⟨f0, e0, t0⟩ := field_at hty (j := 0) rfl
        obtain ⟨f1, e1, t1⟩ := field_at hty (j := 1) rfl
        obtain ⟨f2, e2, t2⟩ := field_at hty (j := 2) rfl
        obtain ⟨f3, e3, t3⟩ := field_at hty (j := 3) rfl
        obtain ⟨f4, e4, t4⟩ := field_at hty (j := 4) rfl
        obtain ⟨c0, y0, q0, z0, v0⟩ := hfld 0 f0 e0
        obtain ⟨c1, y1, q1, z1, v1⟩ := hfld 1 f1 e1
        obtain ⟨c2, y2, q2, z2, v2⟩ := hfld 2 f2 e2
        obtain ⟨c3, y3, q3, z3, v3⟩ := hfld 3 f3 e3
        obtain ⟨c4, y4, q4, z4, v4⟩ := hfld 4 f4 e4
        rw [t0] at z0
        rw [t1] at z1
        rw [t2] at z2
        rw [t3] at z3
        rw [t4] at z4
        obtain ⟨m0, u0, _, b0⟩ := DataW.trod_int Tryz.underlying3 z0
        obtain ⟨m1, u1, g1, b1⟩ := DataW.trod_string Tryz.underlying9 z1
        obtain ⟨m2, u2, _⟩ := DataW.trod_bool Tryz.underlying4 z2
        obtain ⟨rg, u3, hrg, hrb, k3⟩ := open_pairs z3
        obtain ⟨ws, u4, hws, k4⟩ := open_sl (α := {s : Sl (P D) // SOk w D s}) (fun s => [s.1.val]) (fun s => 1 + szL D s.1.xs) 1 Tryz.underlying210 cells_parts (by decide) (fun _ => rfl) (fun k vs' z' hk hl' hz' => by
          obtain ⟨s, hcs', hs', hk'⟩ := ih k (by omega) D (by omega) hz'
          exact ⟨⟨s, hs'⟩, hcs'.symm, by show 1 + szL D s.xs ≤ _; omega⟩) z4
        obtain ⟨w1, w2, w3⟩ := mapSub (p := fun s : Sl (P D) => SOk w D s) (cells := fun s => [s.val]) hws
        cases u0
        cases u1
        cases u2
        cases u3
        cases u4
        match vs, hl with
        | [d0, d1, d2, d3, d4], _ =>
          simp at q0 q1 q2 q3 q4
          subst q0 q1 q2 q3 q4
          refine ⟨⟨(⟨m0, m1, m2, rg, ⟨ws.a, ws.c, ws.xs.map (·.1)⟩⟩ : PartOf (P D)), ⟨⟨b1, bounds_i64 b0⟩, hrg, hrb, w1, fun s hs => w2 s hs⟩⟩, ?_, ?_⟩
          · show [_, _, _, _, _] = _
            rw [w3]
          · obtain ⟨r0, rfl⟩ : ∃ r0, ys = r0 := ⟨_, rfl⟩
            match ys, hyl.trans h5, hzz, v0, v1, v2, v3, v4 with
            | [x0, x1, x2, x3, x4], _, hzz, v0, v1, v2, v3, v4 =>
              simp at v0 v1 v2 v3 v4
              subst v0 v1 v2 v3 v4
              rw [hzz]
              show szOf (sz D) _ ≤ Rows.uptoBulk x0.1 + (Rows.uptoBulk x1.1 + (Rows.uptoBulk x2.1 + (Rows.uptoBulk x3.1 + (Rows.uptoBulk x4.1 + 0)))) + 1
              have j1 : Rows.uptoBulk x1.1 = m1.size + 1 := by rw [g1, Lib.size_eq]; rfl
              have j4 : (ws.xs.map (fun s => 1 + szL D s.1.xs)).sum + 1 ≤ Rows.uptoBulk x4.1 := k4
              have j5 : (List.map (fun s : Sl (P D) => 1 + (s.xs.map (sz D)).sum) (ws.xs.map (·.1))).sum = (ws.xs.map (fun s => 1 + szL D s.1.xs)).sum := by rw [List.map_map]; rfl
              unfold szOf
              simp only []
              rw [j5]
              omega) hf
    obtain ⟨h1, h2, h3⟩ := mapSub (p := fun q : P D => POk w D q) (cells := partCells D) hsl
    refine ⟨_, by rw [h3]; exact hcs, ⟨h1, h2⟩, ?_⟩
    have e : szL D (s.xs.map (·.1)) = (s.xs.map (fun p => sz D p.1)).sum := by unfold szL; rw [List.map_map]; rfl
    show szL D (s.xs.map (·.1)) + 1 ≤ _
    rw [e]
    exact hbk
end
end Go.Proofs.YtfenmeacimfiaaaGreatDoor
namespace Go.Proofs.YtfenmeacimfiaaaGreatDoor
open Go.ChangeShapes Go.WideShapes Go.ChangeAt Go.RowKit Go.Deep

theorem cells_bool1 : Tryz.prog.cellsOf 4 = 1 := by kernel_rfl
theorem cells_glob3 : Tryz.prog.cellsOf 34 = 3 := by kernel_rfl
theorem cells_rule4 : Tryz.prog.cellsOf 47 = 4 := by kernel_rfl

section
variable {H : Type} {enc : TypeId × Value → H} {w : World}

set_option maxRecDepth 100000 in
theorem open_glob3 {fuel D : Nat} (hD : fuel ≤ D) {cs : List Value} {y : DataW H × List MemPlace} (hl : cs.length = 3) (hf : DataW.trod enc Tryz.prog w 0 (fun _ => true) true fuel 34 cs = some y) :
    ∃ (rooted dirs : Bool) (s : Sl (P D)), cs = [.bool rooted, .bool dirs, s.val] ∧ SOk w D s ∧ szL D s.xs + 1 ≤ Rows.uptoBulk y.1 := by
  obtain ⟨ys, n', hn', hzz, _, hyl, hg⟩ := DataW.trod_struct Tryz.underlying34 hf
  match cs, hl with
  | [c0, c1, c2], _ =>
    match ys, hyl with
    | [x0, x1, x2], _ =>
      have h0 : DataW.trod enc Tryz.prog w 0 (fun _ => true) true n' 4 (([c0, c1, c2].drop 0).take (Tryz.prog.cellsOf 4)) = some x0 := hg 0 _ rfl
      have h1 : DataW.trod enc Tryz.prog w 0 (fun _ => true) true n' 4 (([c0, c1, c2].drop 1).take (Tryz.prog.cellsOf 4)) = some x1 := hg 1 _ rfl
      have h2 : DataW.trod enc Tryz.prog w 0 (fun _ => true) true n' 32 (([c0, c1, c2].drop 2).take (Tryz.prog.cellsOf 32)) = some x2 := hg 2 _ rfl
      rw [cells_bool1] at h0 h1
      rw [cells_parts] at h2
      obtain ⟨m0, u0, _⟩ := DataW.trod_bool Tryz.underlying4 h0
      obtain ⟨m1, u1, _⟩ := DataW.trod_bool Tryz.underlying4 h1
      obtain ⟨s, u2, hs, hk⟩ := open_parts n' D (by omega) h2
      simp at u0 u1 u2
      subst u0 u1 u2
      refine ⟨m0, m1, s, rfl, hs, ?_⟩
      rw [hzz]
      show _ ≤ Rows.uptoBulk x0.1 + (Rows.uptoBulk x1.1 + (Rows.uptoBulk x2.1 + 0)) + 1
      omega

set_option maxRecDepth 100000 in
theorem open_rules {fuel D : Nat} (hD : fuel ≤ D) {cs : List Value} {y : DataW H × List MemPlace} (hf : DataW.trod enc Tryz.prog w 0 (fun _ => true) true fuel 41 cs = some y) :
    ∃ s : Sl (RuleOf D), cs = [s.val] ∧ SlHolds w 4 ruleCells s ∧ (∀ r ∈ s.xs, SOk w D r.parts) ∧ (s.xs.map (fun r => 1 + szL D r.parts.xs)).sum + 1 ≤ Rows.uptoBulk y.1 := by
  obtain ⟨s, hcs, hsl, hbk⟩ := open_sl (α := {r : RuleOf D // SOk w D r.parts}) (fun r => ruleCells r.1) (fun r => 1 + szL D r.1.parts.xs) 4 Tryz.underlying41 cells_rule4 (by decide) (fun _ => rfl) (fun n vs z hn hl hz => by
    obtain ⟨ys, n', hn', hzz, _, hyl, hg⟩ := DataW.trod_struct Tryz.underlying47 hz
    match vs, hl with
    | [c0, c1, c2, c3], _ =>
      match ys, hyl with
      | [x0, x1], _ =>
        have h0 : DataW.trod enc Tryz.prog w 0 (fun _ => true) true n' 4 (([c0, c1, c2, c3].drop 0).take (Tryz.prog.cellsOf 4)) = some x0 := hg 0 _ rfl
        have h1 : DataW.trod enc Tryz.prog w 0 (fun _ => true) true n' 34 (([c0, c1, c2, c3].drop 1).take (Tryz.prog.cellsOf 34)) = some x1 := hg 1 _ rfl
        rw [cells_bool1] at h0
        rw [cells_glob3] at h1
        obtain ⟨m0, u0, _⟩ := DataW.trod_bool Tryz.underlying4 h0
        obtain ⟨rooted, dirs, s, u1, hs, hk⟩ := open_glob3 (D := D) (by omega) rfl h1
        simp at u0 u1
        obtain ⟨e1, e2, e3⟩ := u1
        subst u0 e1 e2 e3
        refine ⟨⟨⟨m0, rooted, dirs, s⟩, hs⟩, rfl, ?_⟩
        rw [hzz]
        show 1 + szL D s.xs ≤ Rows.uptoBulk x0.1 + (Rows.uptoBulk x1.1 + 0) + 1
        omega) hf
  obtain ⟨h1, h2, h3⟩ := mapSub (p := fun r : RuleOf D => SOk w D r.parts) (cells := ruleCells) hsl
  refine ⟨_, by rw [h3]; exact hcs, h1, h2, ?_⟩
  have e : ((s.xs.map (·.1)).map (fun r : RuleOf D => 1 + szL D r.parts.xs)).sum = (s.xs.map (fun r => 1 + szL D r.1.parts.xs)).sum := by rw [List.map_map]; rfl
  show ((s.xs.map (·.1)).map (fun r : RuleOf D => 1 + szL D r.parts.xs)).sum + 1 ≤ _
  rw [e]
  exact hbk
end

/-- An Info that came in. -/
structure InfoOf where
  path : ByteArray
  dir : Bool
  size : Int
  time : Int
  a4 : Option Addr
  n4 : Nat
  c4 : Nat
  a5 : Option Addr
  n5 : Nat
  c5 : Nat
  id : ByteArray
abbrev infoArr (x : InfoOf) : Array Value := #[.string x.path, .bool x.dir, .int .i64 x.size, .int .i64 x.time, .slice x.a4 x.n4 x.c4, .slice x.a5 x.n5 x.c5, .string x.id]

theorem six_of {cs : Array Value} {c0 c1 c2 c3 c4 c5 : Value} (h : cs.size = 6) (h0 : cs[0]? = some c0) (h1 : cs[1]? = some c1) (h2 : cs[2]? = some c2) (h3 : cs[3]? = some c3) (h4 : cs[4]? = some c4) (h5 : cs[5]? = some c5) : cs = #[c0, c1, c2, c3, c4, c5] := by
  apply Array.ext'
  obtain ⟨l⟩ := cs
  match l, h with
  | [d0, d1, d2, d3, d4, d5], _ =>
    simp at h0 h1 h2 h3 h4 h5
    subst h0 h1 h2 h3 h4 h5
    rfl
theorem seven_of {cs : Array Value} {c0 c1 c2 c3 c4 c5 c6 : Value} (h : cs.size = 7) (h0 : cs[0]? = some c0) (h1 : cs[1]? = some c1) (h2 : cs[2]? = some c2) (h3 : cs[3]? = some c3) (h4 : cs[4]? = some c4) (h5 : cs[5]? = some c5) (h6 : cs[6]? = some c6) : cs = #[c0, c1, c2, c3, c4, c5, c6] := by
  apply Array.ext'
  obtain ⟨l⟩ := cs
  match l, h with
  | [d0, d1, d2, d3, d4, d5, d6], _ =>
    simp at h0 h1 h2 h3 h4 h5 h6
    subst h0 h1 h2 h3 h4 h5 h6
    rfl

theorem infoOne : ∃ fs : Array Field, Tryz.prog.underlying 90 = some (.struct fs) ∧ oneCellFields Tryz.prog fs = true ∧ fs.size = 7 ∧ Tryz.prog.cellsOf 90 = fs.size ∧
    fs.map (·.type) = #[9, 4, 3, 3, 87, 88, 9] :=
  ⟨_, Tryz.underlying90, by kernel_rfl, rfl, by kernel_rfl, by simp⟩

theorem upto_hd {H : Type} {d : DataW H} {ds : List (DataW H)} (hk : Rows.uptoSmall H (d :: ds) = true) : Rows.uptoBulk d ≤ 1048576 := by
  have := upto_bound hk
  rw [Rows.uptoBulkAll] at this
  omega
theorem upto_tl {H : Type} {d : DataW H} {ds : List (DataW H)} (hk : Rows.uptoSmall H (d :: ds) = true) : Rows.uptoSmall H ds = true := by
  have := upto_bound hk
  rw [Rows.uptoBulkAll] at this
  exact decide_eq_true (by omega)

section
variable {H : Type} {enc : TypeId × Value → H} {w : World} {b0 : Nat} {r : Reach}

set_option maxRecDepth 100000 in
theorem open_info {v : Value} {d : DataW H} {p : List MemPlace} (hv : Value.okWide Tryz.prog w r b0 90 v) (h : DataW.Trod enc Tryz.prog w 0 (fun _ => true) true 90 v d p) :
    ∃ x : InfoOf, v = .agg (infoArr x) ∧ x.path.size ≤ maxLen ∧ okI x.size ∧ okI x.time ∧ x.path.size + 1 ≤ Rows.uptoBulk d := by
  obtain ⟨fs, hs, hone, h6, hC, hty⟩ := infoOne
  obtain ⟨cs, ys, n, rfl, hcs, hd, hyl, hg⟩ := open_struct hs hone hC hv h
  obtain ⟨f0, e0, t0⟩ := field_at hty (j := 0) rfl
  obtain ⟨f1, e1, t1⟩ := field_at hty (j := 1) rfl
  obtain ⟨f2, e2, t2⟩ := field_at hty (j := 2) rfl
  obtain ⟨f3, e3, t3⟩ := field_at hty (j := 3) rfl
  obtain ⟨f4, e4, t4⟩ := field_at hty (j := 4) rfl
  obtain ⟨f5, e5, t5⟩ := field_at hty (j := 5) rfl
  obtain ⟨f6, e6, t6⟩ := field_at hty (j := 6) rfl
  obtain ⟨c0, y0, q0, v0, z0⟩ := hg 0 f0 e0
  obtain ⟨c1, y1, q1, v1, z1⟩ := hg 1 f1 e1
  obtain ⟨c2, y2, q2, v2, z2⟩ := hg 2 f2 e2
  obtain ⟨c3, y3, q3, v3, z3⟩ := hg 3 f3 e3
  obtain ⟨c4, y4, q4, v4, z4⟩ := hg 4 f4 e4
  obtain ⟨c5, y5, q5, v5, z5⟩ := hg 5 f5 e5
  obtain ⟨c6, y6, q6, v6, z6⟩ := hg 6 f6 e6
  rw [t0] at z0
  rw [t1] at z1
  rw [t2] at z2
  rw [t3] at z3
  rw [t4] at z4
  rw [t5] at z5
  rw [t6] at z6
  obtain ⟨m0, u0, g0, b0⟩ := DataW.trod_string Tryz.underlying9 z0
  obtain ⟨m1, u1, _⟩ := DataW.trod_bool Tryz.underlying4 z1
  obtain ⟨m2, u2, _, b2⟩ := DataW.trod_int Tryz.underlying3 z2
  obtain ⟨m3, u3, _, b3⟩ := DataW.trod_int Tryz.underlying3 z3
  obtain ⟨a4, n4, k4, u4⟩ : ∃ a n c, [c4] = [Value.slice a n c] := by
    rcases DataW.trod_slice Tryz.underlying87 z4 with ⟨u, _⟩ | ⟨a, len, cap, elems, rest, n, _, u, _⟩
    · exact ⟨_, _, _, u⟩
    · exact ⟨_, _, _, u⟩
  obtain ⟨a5, n5, k5, u5⟩ : ∃ a n c, [c5] = [Value.slice a n c] := by
    rcases DataW.trod_slice Tryz.underlying88 z5 with ⟨u, _⟩ | ⟨a, len, cap, elems, rest, n, _, u, _⟩
    · exact ⟨_, _, _, u⟩
    · exact ⟨_, _, _, u⟩
  obtain ⟨m6, u6, _, _⟩ := DataW.trod_string Tryz.underlying9 z6
  cases u0
  cases u1
  cases u2
  cases u3
  cases u4
  cases u5
  cases u6
  refine ⟨⟨m0, m1, m2, m3, a4, n4, k4, a5, n5, k5, m6⟩, ?_, b0, bounds_i64 b2, bounds_i64 b3, ?_⟩
  · rw [seven_of (hcs.trans h6) q0 q1 q2 q3 q4 q5 q6]
  · match ys, hyl.trans h6, v0 with
    | [x0, x1, x2, x3, x4, x5, x6], _, v0 =>
      simp at v0
      subst v0
      rw [hd]
      have j1 : Rows.uptoBulk x0.1 = m0.size + 1 := by rw [g0, Lib.size_eq]; rfl
      show _ ≤ Rows.uptoBulk x0.1 + (Rows.uptoBulk x1.1 + (Rows.uptoBulk x2.1 + (Rows.uptoBulk x3.1 + (Rows.uptoBulk x4.1 + (Rows.uptoBulk x5.1 + (Rows.uptoBulk x6.1 + 0)))))) + 1
      simp only []
      omega

set_option maxRecDepth 100000 in
theorem open_glob {v : Value} {d : DataW H} {p : List MemPlace} (hv : Value.okWide Tryz.prog w r b0 34 v) (h : DataW.Trod enc Tryz.prog w 0 (fun _ => true) true 34 v d p) :
    ∃ (D : Nat) (rooted dirs : Bool) (s : Sl (P D)), v = .agg #[.bool rooted, .bool dirs, .slice s.a s.xs.length s.c] ∧ SOk w D s ∧ szL D s.xs + 1 ≤ Rows.uptoBulk d := by
  obtain ⟨cs, rfl, hsz⟩ := okWide_struct Tryz.underlying34 hv
  obtain ⟨fuel, hf⟩ := h
  obtain ⟨rooted, dirs, s, hc, hs, hk⟩ := open_glob3 (Nat.le_refl fuel) (by show cs.toList.length = 3; rw [Array.length_toList, hsz, cells_glob3]) hf
  refine ⟨fuel, rooted, dirs, s, ?_, hs, hk⟩
  have hc : cs.toList = [.bool rooted, .bool dirs, s.val] := hc
  congr 1
  exact Array.toList_inj.1 hc
end
end Go.Proofs.YtfenmeacimfiaaaGreatDoor
