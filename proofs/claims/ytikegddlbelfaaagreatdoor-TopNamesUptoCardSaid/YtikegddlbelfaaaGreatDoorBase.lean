/-
  The ground of this seat's walks: what a world must hold for the library's calls, and small lemmas on worlds and lists.
-/
import Derived.Test.YtikegddlbelfaaaGreatDoorShelf
import Derived.WalkKit
import Derived.WalkSpells
import Derived.WalkLawsBesides
import Derived.Lib.Hide
import Derived.Lib.OthersKept
import Derived.Deep.LoopGhost
import Derived.Deep.QuietTactic
import Derived.BigQuiet
import Derived.Lib.IndexAny
namespace Go.Proofs.YtikegddlbelfaaaGreatDoor
open Go.RowKit

/-- The library's variable MaxLen holds an int. -/
def Env (w : World) : Prop := ∃ m, w.cell? ⟨0, 0, none⟩ = some (.int .i64 m)

theorem cell_lt {w : World} {p : Addr} {v : Value} (h : w.cell? p = some v) : p.block < w.heap.size := by
  rcases Nat.lt_or_ge p.block w.heap.size with hlt | hge
  · exact hlt
  · simp [World.cell?, Array.getElem?_eq_none hge] at h

theorem Env.lt {w : World} (h : Env w) : 0 < w.heap.size := by
  obtain ⟨m, hm⟩ := h
  exact cell_lt (p := ⟨0, 0, none⟩) hm

theorem Env.below {B : Nat} {w w' : World} (h : Env w) (hb : Below B w w') (hB : w.heap.size ≤ B) : Env w' := by
  have hl := h.lt
  obtain ⟨m, hm⟩ := h
  exact ⟨m, by rw [hb.cell (p := ⟨0, 0, none⟩) (Nat.lt_of_lt_of_le hl hB)]; exact hm⟩

theorem Env.under {w w' : World} (h : Env w) (hb : Below w.heap.size w w') : Env w' := h.below hb (Nat.le_refl _)

theorem Env.alloc {w : World} (h : Env w) (o : Obj) : Env (w.alloc o) := h.under ((Below.refl _ _).alloc (Nat.le_refl _) o)

theorem bTrans {a b c : World} (h : Below a.heap.size a b) (k : Below b.heap.size b c) : Below a.heap.size a c := h.trans (k.mono h.size)

theorem bAlloc {a b : World} (h : Below a.heap.size a b) (o : Obj) : Below a.heap.size a (b.alloc o) := h.alloc h.size o

theorem bDrewN {a b : World} (h : Below a.heap.size a b) (n : Nat) : Below a.heap.size a (b.drewN n) := ⟨h.os, h.tape, h.output, h.size, h.block⟩

/-- A callee that leaves the world alone, met inside a quiet region behind earlier draws. -/
theorem quietAfter {P : Program} {f : FuncId} {args : Array Value} {w : World} {a n : Nat} {v : Value}
    (h : Calls P f args (w.drewN (a + n)) fun e w' => e = .returned v ∧ w' = w.drewN (a + n)) :
    Calls P f args (w.drewN (a + n)) fun e w'' => e = .returned v ∧ ∃ m, w'' = w.drewN (a + m) :=
  h.mono fun _ _ hh => ⟨hh.1, n, hh.2⟩

/-- A slice's first cells: the address is asked for only where there is a cell. -/
def Holds (w : World) (a : Option Addr) (xs : List Value) : Prop :=
  xs = [] ∨ ∃ b off, a = some ⟨b, off, none⟩ ∧ b < w.heap.size ∧ ∀ (j : Nat) (u : Value), xs[j]? = some u → w.cell? ⟨b, off + j, none⟩ = some u

theorem Holds.none (w : World) (a : Option Addr) : Holds w a [] := .inl rfl

theorem Holds.at {w : World} {a : Option Addr} {xs : List Value} (h : Holds w a xs) {k : Nat} {u : Value} (hk : xs[k]? = some u) :
    ∃ b off, a = some ⟨b, off, Option.none⟩ ∧ b < w.heap.size ∧ w.cell? ⟨b, off + k, Option.none⟩ = some u := by
  rcases h with rfl | ⟨b, off, ha, hb, hc⟩
  · simp at hk
  · exact ⟨b, off, ha, hb, hc k u hk⟩

theorem Holds.keep {w w' : World} {a : Option Addr} {xs : List Value} {B : Nat} (h : Holds w a xs) (hb : Below B w w') (hB : w.heap.size ≤ B) : Holds w' a xs := by
  rcases h with rfl | ⟨b, off, ha, hlt, hc⟩
  · exact .inl rfl
  · refine .inr ⟨b, off, ha, Nat.lt_of_lt_of_le hlt hb.size, fun j u hu => ?_⟩
    rw [hb.cell (p := ⟨b, off + j, Option.none⟩) (Nat.lt_of_lt_of_le hlt hB)]
    exact hc j u hu

theorem Holds.under {w w' : World} {a : Option Addr} {xs : List Value} (h : Holds w a xs) (hb : Below w.heap.size w w') : Holds w' a xs := h.keep hb (Nat.le_refl _)

theorem ret_int {k : IntKind} {a b : Int} (h : a = b) : Ending.returned (.int k a) = .returned (.int k b) := by rw [h]
theorem ret_bool {a b : Bool} (h : a = b) : Ending.returned (.bool a) = .returned (.bool b) := by rw [h]

theorem indexByte_miss {l : List UInt8} {c : UInt8} (h : ∀ b ∈ l, b ≠ c) : Lib.indexByte l c = -1 := by
  induction l with
  | nil => rfl
  | cons b l ih =>
    unfold Lib.indexByte
    rw [if_neg (by simpa using h b (by simp)), ih (fun x hx => h x (by simp [hx]))]
    rfl
end Go.Proofs.YtikegddlbelfaaaGreatDoor
