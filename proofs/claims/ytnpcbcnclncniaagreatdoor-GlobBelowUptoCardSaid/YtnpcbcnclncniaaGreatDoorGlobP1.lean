/-
  names.escape.
-/
import Derived.Test.YtnpcbcnclncniaaGreatDoorGlobT2
import Derived.Test.YtnpcbcnclncniaaGreatDoorBuild
import Derived.Test.YtnpcbcnclncniaaGreatDoorBytes
namespace Go.Proofs.YtnpcbcnclncniaaGreatDoor
open Go.RowKit

/-- WriteByte's closure, numbered as Join's is. -/
def ren167 : Go.Shelf.Ren := ⟨fun | 167 => 107 | n => Tryz.lays156_ren.f n, Tryz.lays156_ren.t, Tryz.lays156_ren.g⟩
theorem lays167 : Go.Proofs.Lays.n167 Tryz.prog ren167 := {
  mixed := Tryz.lays156.mixed
  f167 := Tryz.func107.trans (congrArg some (by kernel_rfl))
  f240 := Tryz.lays156.f240
  f276 := Tryz.lays156.f276
  t5 := Tryz.Builder_Extra_156.t5
  a5 := Tryz.Builder_Extra_156.a5
  z5 := Tryz.Builder_Extra_156.z5
  v5 := Tryz.Builder_Extra_156.v5
  t0 := Tryz.lays156.t0
  a0 := Tryz.lays156.a0
  z0 := Tryz.lays156.z0
  v0 := Tryz.lays156.v0
  t4 := Tryz.lays156.t4
  a4 := Tryz.lays156.a4
  z4 := Tryz.lays156.z4
  v4 := Tryz.lays156.v4
  t9 := Tryz.lays156.t9
  a9 := Tryz.lays156.a9
  z9 := Tryz.lays156.z9
  v9 := Tryz.lays156.v9
  t20 := Tryz.lays156.t20
  a20 := Tryz.lays156.a20
  z20 := Tryz.lays156.z20
  v20 := Tryz.lays156.v20
  t37 := Tryz.lays156.t37
  a37 := Tryz.lays156.a37
  z37 := Tryz.lays156.z37
  v37 := Tryz.lays156.v37
  t70 := Tryz.lays156.t70
  a70 := Tryz.lays156.a70
  z70 := Tryz.lays156.z70
  v70 := Tryz.lays156.v70
  t72 := Tryz.lays156.t72
  a72 := Tryz.lays156.a72
  z72 := Tryz.lays156.z72
  v72 := Tryz.lays156.v72
  t75 := Tryz.lays156.t75
  a75 := Tryz.lays156.a75
  z75 := Tryz.lays156.z75
  v75 := Tryz.lays156.v75
  t164 := Tryz.lays156.t164
  a164 := Tryz.lays156.a164
  z164 := Tryz.lays156.z164
  v164 := Tryz.lays156.v164 }
theorem extra167 : Builder.Extra Tryz.prog ren167 := {
  sizeBuilder := by kernel_rfl
  liesBuilder := by kernel_rfl
  t5 := Tryz.Builder_Extra_156.t5
  a5 := Tryz.Builder_Extra_156.a5
  z5 := Tryz.Builder_Extra_156.z5
  v5 := Tryz.Builder_Extra_156.v5
  infoByte := by kernel_rfl
  cellsByte := by kernel_rfl
  sizeByte := by kernel_rfl
  neB5 := by decide }

theorem writeByte_any {c : UInt8} {n : Int} (hn : n = c.toNat) {w0 w : World} {b : Nat} {out : List UInt8} (h : Bld w0 b out w) (hl : out.length + 1 ≤ 140737488355328) :
    Calls Tryz.prog 107 #[.pointer (some ⟨b, 0, none⟩), .int .u8 n] w fun e w' => e = .returned .nilIface ∧ Bld w0 b (out ++ [c]) w' ∧ Lib.OthersKept 5 (some b) w w' := by
  refine (Any.Builder_WriteByte_k lays167 extra167 w0.heap.size b (Lib.byteCells out) n w h.1 (by simpa [Lib.byteCells] using hl) h.2.size).mono ?_
  rintro e w' ⟨rfl, h1, h2, h3⟩
  refine ⟨rfl, ⟨.inr ?_, h.2.trans h2⟩, h3⟩
  have : Lib.byteCells (out ++ [c]) = Lib.byteCells out ++ [.int .u8 n] := by
    subst hn
    simp [Lib.byteCells]
  rw [this]
  exact h1

theorem escL_snoc (f : UInt8 → Bool) (l : List UInt8) (c : UInt8) : escL f (l ++ [c]) = escL f l ++ esc1 f c := by
  unfold escL
  rw [List.flatMap_append]
  simp

set_option maxHeartbeats 2000000 in
set_option maxRecDepth 100000 in
theorem escape_any (s sm : ByteArray) {w0 w : World} {b : Nat} {out : List UInt8} (h : Bld w0 b out w) (hs : s.size ≤ 1048576) (hl : out.length ≤ 100000000000000) :
    Calls Tryz.prog 106 #[.pointer (some ⟨b, 0, none⟩), .string s, .string sm] w fun e w' => e = .returned (.tuple #[]) ∧ Bld w0 b (out ++ escL (fun c => sm.data.toList.contains c) s.data.toList) w' ∧ Lib.OthersKept 5 (some b) w w' := by
  have HB := Lib.hid h
  clear h
  go_enter Tryz.func106, Tryz.ntmps106
  go_wp2_with fail
  go_loopg [9] s.size (fun g i wx => ∃ k : Nat, k + g = s.size ∧ i = .int .i64 k ∧ Hid (Bld w0 b (out ++ escL (fun c => sm.data.toList.contains c) (s.data.toList.take k)) wx) ∧ Hid (Lib.OthersKept 5 (some b) w wx))
  case atStart => exact ⟨0, by omega, rfl, Lib.hid (by simpa [escL] using HB.out), Lib.hid (Lib.OthersKept.refl _ _ _)⟩
  case round =>
    clear HB
    obtain ⟨k, hk, rfl, HBk, HKk⟩ := hrel
    by_cases hlt : k < s.size
    · obtain ⟨g, rfl⟩ : ∃ g, gk = g + 1 := ⟨gk - 1, by omega⟩
      obtain ⟨ch, hch⟩ : ∃ ch : UInt8, s[k]'hlt = ch := ⟨_, rfl⟩
      have hcl : s.data.toList[k]? = some ch := by rw [← hch]; exact Lib.data_getElem? s k hlt
      have hT : s.data.toList.take (k + 1) = s.data.toList.take k ++ [ch] := by rw [List.take_add_one, hcl]; rfl
      have HT : Hid (out ++ escL (fun c => sm.data.toList.contains c) (s.data.toList.take (k + 1)) = (out ++ escL (fun c => sm.data.toList.contains c) (s.data.toList.take k)) ++ esc1 (fun c => sm.data.toList.contains c) ch) := Lib.hid (by rw [hT, escL_snoc, List.append_assoc])
      have hlen : (out ++ escL (fun c => sm.data.toList.contains c) (s.data.toList.take k)).length ≤ 110000000000000 := by
        have h1 := escL_len (fun c => sm.data.toList.contains c) (s.data.toList.take k)
        have h2 : (s.data.toList.take k).length ≤ s.size := by rw [List.length_take]; omega
        rw [List.length_append]
        omega
      generalize out ++ escL (fun c => sm.data.toList.contains c) (s.data.toList.take k) = o2 at *
      have HF := Lib.hid (fun W => hasByte_any sm ch W)
      have HE1 : Hid (esc1 (fun c => sm.data.toList.contains c) ch = if sm.data.toList.contains ch then [92, ch] else [ch]) := Lib.hid rfl
      generalize esc1 (fun c => sm.data.toList.contains c) ch = e1 at *
      generalize sm.data.toList.contains ch = bc at *
      clear hT hcl
      cases bc
      · have HT2 : Hid (out ++ escL (fun c => sm.data.toList.contains c) (s.data.toList.take (k + 1)) = o2 ++ [ch]) := Lib.hid (by rw [HT.out, HE1.out]; rfl)
        clear HT HE1
        go_wp2_with (go_at_call 105; refine (HF.out _).mono ?_; rintro e w' ⟨rfl, rfl⟩)
        refine (writeByte_any (c := ch) rfl HBk.out (by omega)).mono ?_
        rintro e w5 ⟨rfl, hB5, hK5⟩
        have HB5 := Lib.hid hB5
        have HK5 := Lib.hid hK5
        clear hB5 hK5
        go_wp2_with fail
        go_roundg g
        case measure => omega
        case rel => exact ⟨k + 1, by omega, by go_num, Lib.hid (by rw [HT2.out]; exact HB5.out), Lib.hid (HKk.out.trans HK5.out)⟩
      · have HT2 : Hid (out ++ escL (fun c => sm.data.toList.contains c) (s.data.toList.take (k + 1)) = o2 ++ [92] ++ [ch]) := Lib.hid (by rw [HT.out, HE1.out]; simp)
        clear HT HE1
        go_wp2_with (go_at_call 105; refine (HF.out _).mono ?_; rintro e w' ⟨rfl, rfl⟩)
        refine (writeByte_any (c := 92) rfl HBk.out (by omega)).mono ?_
        rintro e w5 ⟨rfl, hB5, hK5⟩
        have HB5 := Lib.hid hB5
        have HK5 := Lib.hid hK5
        clear hB5 hK5
        go_wp2_with fail
        refine (writeByte_any (c := ch) rfl HB5.out (by rw [List.length_append]; simp; omega)).mono ?_
        rintro e w6 ⟨rfl, hB6, hK6⟩
        have HB6 := Lib.hid hB6
        have HK6 := Lib.hid hK6
        clear hB6 hK6
        go_wp2_with fail
        go_roundg g
        case measure => omega
        case rel => exact ⟨k + 1, by omega, by go_num, Lib.hid (by rw [HT2.out]; exact HB6.out), Lib.hid ((HKk.out.trans HK5.out).trans HK6.out)⟩
    · have HBe : Hid (Bld w0 b (out ++ escL (fun c => sm.data.toList.contains c) s.data.toList) wr) := Lib.hid (by
        have := HBk.out
        rw [List.take_of_length_le (by rw [← Lib.size_eq]; omega)] at this
        exact this)
      clear HBk
      go_wp2_with fail
      go_end0
      exact ⟨rfl, HBe.out, HKk.out⟩
end Go.Proofs.YtnpcbcnclncniaaGreatDoor
