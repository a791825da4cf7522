/-
  names.Above, and the law NamesCheck, walked.
-/
import Derived.Test.YtbcadgooelcnhaaDoorParts
import Derived.Test.YtbcadgooelcnhaaDoorFold
namespace Go.Proofs.YtbcadgooelcnhaaDoor
open Go.RowKit

theorem lastIndex_cases (s : ByteArray) : Lib.lastIndexByte s 47 = -1 ∨ ∃ i : Nat, i < s.size ∧ Lib.lastIndexByte s 47 = i := by
  rcases Lib.lastIdx_spec s 47 s.size with h | ⟨i, h1, h2, _⟩
  · exact .inl h.1
  · exact .inr ⟨i, h1, h2⟩

set_option maxHeartbeats 1000000 in
theorem above_bad (s : ByteArray) (w : World) (hE : Env w) (hs : s.size ≤ 9223372036854775807) (hp : Wh.pathErr s.data.toList = 1) :
    Calls Tryd.prog 46 #[.string s] w fun e w' => e = .returned (.tuple #[.string ⟨#[]⟩, .string ⟨#[]⟩, .int .i64 1]) ∧ Below w.heap.size w w' := by
  have HC := check_any s w hE hs
  rw [hp] at HC
  have HC := Lib.hid HC
  clear hE hp
  go_enter Tryd.func46, Tryd.ntmps46
  go_wp2_with fail
  refine HC.out.mono ?_
  rintro e w1 ⟨rfl, hb1⟩
  go_wp2_with fail
  go_ret3
  exact ⟨rfl, hb1⟩

set_option maxHeartbeats 1000000 in
theorem above_root (s : ByteArray) (w : World) (hE : Env w) (hs : s.size ≤ 1024) (hp : Wh.pathErr s.data.toList = 0) (h0 : s.toList.isEmpty = true) :
    Calls Tryd.prog 46 #[.string s] w fun e w' => e = .returned (.tuple #[.string ⟨#[]⟩, .string ⟨#[]⟩, .int .i64 21]) ∧ Below w.heap.size w w' := by
  have HC := check_any s w hE (by omega)
  rw [hp] at HC
  have HC := Lib.hid HC
  clear hE hp
  go_enter Tryd.func46, Tryd.ntmps46
  go_wp2_with fail
  refine HC.out.mono ?_
  rintro e w1 ⟨rfl, hb1⟩
  go_wp2_with fail
  go_ret3
  exact ⟨rfl, hb1⟩

set_option maxHeartbeats 1000000 in
theorem above_flat (s : ByteArray) (w : World) (hE : Env w) (hs : s.size ≤ 1024) (hp : Wh.pathErr s.data.toList = 0) (h0 : s.toList.isEmpty = false) (hi : Lib.lastIndexByte s 47 = -1) :
    Calls Tryd.prog 46 #[.string s] w fun e w' => e = .returned (.tuple #[.string ⟨#[]⟩, .string s, .int .i64 0]) ∧ Below w.heap.size w w' := by
  have HC := check_any s w hE (by omega)
  rw [hp] at HC
  have HC := Lib.hid HC
  have HL := fun W => Tryd.strings_LastIndexByte s 47 (by omega) W
  rw [hi] at HL
  have HL := Lib.hid HL
  clear hE hp hi
  go_enter Tryd.func46, Tryd.ntmps46
  go_wp2_with fail
  refine HC.out.mono ?_
  rintro e w1 ⟨rfl, hb1⟩
  go_wp2_with fail
  refine (HL.out _).mono ?_
  rintro e w2 ⟨rfl, rfl⟩
  go_wp2_with fail
  go_ret3
  exact ⟨rfl, hb1⟩

set_option maxHeartbeats 1000000 in
theorem above_deep (s : ByteArray) (i : Nat) (w : World) (hE : Env w) (hs : s.size ≤ 1024) (hp : Wh.pathErr s.data.toList = 0) (h0 : s.toList.isEmpty = false) (hi : Lib.lastIndexByte s 47 = i) (hlt : i < s.size) :
    Calls Tryd.prog 46 #[.string s] w fun e w' => e = .returned (.tuple #[.string (s.extract 0 i), .string (s.extract (i + 1) s.size), .int .i64 0]) ∧ Below w.heap.size w w' := by
  have HC := check_any s w hE (by omega)
  rw [hp] at HC
  have HC := Lib.hid HC
  have HL := fun W => Tryd.strings_LastIndexByte s 47 (by omega) W
  rw [hi] at HL
  have HL := Lib.hid HL
  clear hE hp hi
  go_enter Tryd.func46, Tryd.ntmps46
  go_wp2_with fail
  refine HC.out.mono ?_
  rintro e w1 ⟨rfl, hb1⟩
  go_wp2_with fail
  refine (HL.out _).mono ?_
  rintro e w2 ⟨rfl, rfl⟩
  have hz : (i : Int) + 1 ≤ s.size := by omega
  go_wp2_with fail
  go_quiet (fail)
  go_wp2_with fail
  go_ret3
  exact ⟨rfl, bDrewN hb1 _⟩
end Go.Proofs.YtbcadgooelcnhaaDoor
