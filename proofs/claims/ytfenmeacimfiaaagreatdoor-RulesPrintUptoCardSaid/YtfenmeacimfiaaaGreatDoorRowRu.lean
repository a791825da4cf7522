/-
  An argument that is a list of rules, opened.
-/
import Derived.Test.YtfenmeacimfiaaaGreatDoorRuC
namespace Go.Proofs.YtfenmeacimfiaaaGreatDoor
open Go.ChangeShapes Go.WideShapes Go.ChangeAt Go.RowKit Go.Deep

set_option maxRecDepth 100000 in
theorem open_rules1 {H : Type} {enc : TypeId × Value → H} {w : World} {b0 : Nat} {r : Reach} {v : Value} {d : DataW H} {p : List MemPlace}
    (hv : Value.okWide Tryz.prog w r b0 41 v) (h : DataW.Trod enc Tryz.prog w 0 (fun _ => true) true 41 v d p) :
    ∃ (D : Nat) (s : Sl (RuleOf D)), v = .slice s.a s.xs.length s.c ∧ SlHolds w 4 ruleCells s ∧ (∀ r ∈ s.xs, SOk w D r.parts) ∧ (s.xs.map (fun r => 1 + szL D r.parts.xs)).sum + 1 ≤ Rows.uptoBulk d := by
  obtain ⟨a0, len, cap, rfl⟩ := okWide_slice Tryz.underlying41 hv
  obtain ⟨fuel, hf⟩ := h
  obtain ⟨s, u0, hsl, hso, hk⟩ := open_rules (Nat.le_refl fuel) hf
  exact ⟨fuel, s, (List.cons.inj u0).1, hsl, hso, hk⟩
end Go.Proofs.YtfenmeacimfiaaaGreatDoor
