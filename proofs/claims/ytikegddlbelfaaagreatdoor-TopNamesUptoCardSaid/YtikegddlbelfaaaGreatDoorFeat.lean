/-
  The reference's CheckFeatures, walked.
-/
import Derived.Test.YtikegddlbelfaaaGreatDoorBytes
import Derived.Test.YtikegddlbelfaaaGreatDoorPlainFeat
import Derived.Deep.DeepCutAuto
namespace Go.Proofs.YtikegddlbelfaaaGreatDoor
open Go.RowKit

/-- Features as a value. -/
def featVal (f : Wh.Feat) : Value := .agg #[.int .i64 f.has, .int .i64 f.sums, .int .i64 f.prec, .int .i64 f.maxName, .int .i64 f.maxPath, .int .i64 f.maxSize, .int .i64 f.page, .int .i64 f.partSize, .string f.forbid]

/-- Features that came in: what is known of their parts. -/
structure FeatOk (f : Wh.Feat) : Prop where
  sums : -9223372036854775808 ≤ f.sums ∧ f.sums ≤ 9223372036854775807
  forbid : f.forbid.size ≤ 9223372036854775807

/-- A block that holds features. -/
def FeatBox (w : World) (b : Nat) (f : Wh.Feat) : Prop :=
  b < w.heap.size ∧ w.cell? ⟨b, 0, none⟩ = some (.int .i64 f.has) ∧ w.cell? ⟨b, 1, none⟩ = some (.int .i64 f.sums) ∧ w.cell? ⟨b, 2, none⟩ = some (.int .i64 f.prec) ∧ w.cell? ⟨b, 3, none⟩ = some (.int .i64 f.maxName) ∧
    w.cell? ⟨b, 4, none⟩ = some (.int .i64 f.maxPath) ∧ w.cell? ⟨b, 5, none⟩ = some (.int .i64 f.maxSize) ∧ w.cell? ⟨b, 6, none⟩ = some (.int .i64 f.page) ∧ w.cell? ⟨b, 7, none⟩ = some (.int .i64 f.partSize) ∧ w.cell? ⟨b, 8, none⟩ = some (.string f.forbid)

theorem FeatBox.under {w w' : World} {b : Nat} {f : Wh.Feat} (h : FeatBox w b f) (hb : Below w.heap.size w w') : FeatBox w' b f := by
  obtain ⟨h0, h1, h2, h3, h4, h5, h6, h7, h8, h9⟩ := h
  have hc := fun j => hb.cell (p := ⟨b, j, none⟩) h0
  exact ⟨Nat.lt_of_lt_of_le h0 hb.size, (hc 0).trans h1, (hc 1).trans h2, (hc 2).trans h3, (hc 3).trans h4, (hc 4).trans h5, (hc 5).trans h6, (hc 6).trans h7, (hc 7).trans h8, (hc 8).trans h9⟩

/-- The block itself. -/
abbrev featObj (f : Wh.Feat) : Obj := .cells #[.int .i64 f.has, .int .i64 f.sums, .int .i64 f.prec, .int .i64 f.maxName, .int .i64 f.maxPath, .int .i64 f.maxSize, .int .i64 f.page, .int .i64 f.partSize, .string f.forbid] 27

theorem featBox_new (w : World) (f : Wh.Feat) : FeatBox (w.alloc (featObj f)) w.heap.size f := by
  refine ⟨by simp, ?_, ?_, ?_, ?_, ?_, ?_, ?_, ?_, ?_⟩ <;> (rw [World.cell?_alloc_at _ _ _ _ rfl]; rfl)

theorem bne_flip (a b : Int) : (a == b) = !(a != b) := by simp [bne]

end Go.Proofs.YtikegddlbelfaaaGreatDoor
