/-
  strconv.Itoa: numbers, written.
-/
import Derived.Test.YtikegddlbelfaaaGreatDoorBase
import Derived.Lib.AppendIntMem
import Derived.Lib.ItoaLen
namespace Go.Proofs.YtikegddlbelfaaaGreatDoor
open Go.RowKit

/-- The library's table of powers is as it is laid. -/
def EnvT (w : World) : Prop := Lib.TabIs Tryz.prog w "internal/strconv.uint64pow10" .u64 Lib.pow10Tab
theorem EnvT.under {w w' : World} (h : EnvT w) (hb : Below w.heap.size w w') : EnvT w' := Lib.tabBelow_of_tabIs h w' hb

/-- A number, written. -/
def numS (n : Int) : ByteArray := ⟨(Lib.itoa n).toArray⟩

theorem itoa_any (n : Int) (w : World) (hT : EnvT w) (h0 : -9223372036854775808 ≤ n) (h1 : n ≤ 9223372036854775807) :
    Calls Tryz.prog 90 #[.int .i64 n] w fun e w' => e = .returned (.string (numS n)) ∧ Below w.heap.size w w' := by
  refine (Tryz.strconv_Itoa n h0 h1 w hT).mono ?_
  rintro e w' ⟨rfl, k, os, rfl⟩
  exact ⟨rfl, Lib.below_grow _ _ (Nat.le_refl _) _ _⟩

theorem numS_size (n : Int) (h0 : -9223372036854775808 ≤ n) (h1 : n ≤ 9223372036854775807) : (numS n).size ≤ 21 := by
  rw [Lib.size_eq]
  exact Lib.itoa_length_le n h0 h1

theorem numS_add (n : Int) (c : ByteArray) (hc : c.size ≤ 100) (h0 : -9223372036854775808 ≤ n) (h1 : n ≤ 9223372036854775807) :
    ∀ W : World, (Op.stringOp .add (numS n) c).run Tryz.prog W = .ok (.string (numS n ++ c)) W := fun W => by
  have := numS_size n h0 h1
  rw [run_string_add_sum W (numS n) c (by omega)]

end Go.Proofs.YtikegddlbelfaaaGreatDoor
