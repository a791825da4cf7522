/-
  What the row's measure gives of one argument: its bytes.
-/
import Derived.Test.YtfenmeacimfiaaaGreatDoorRow
namespace Go.Proofs.YtfenmeacimfiaaaGreatDoor
open Go.RowKit

theorem reach_at {H : Type} {P : Program} : ∀ {ts : List TypeId} {ds : List (DataW H)}, (DataW.weightsEach P ts ds).all (· ≤ reachBytes) = true →
    ∀ {j : Nat} {t : TypeId} {d : DataW H}, ts[j]? = some t → ds[j]? = some d → ∀ x ∈ d.weights P t, x ≤ reachBytes
  | [], _, _, j, t, d, ht, _ => by simp at ht
  | _ :: _, [], _, j, t, d, _, hd => by simp at hd
  | u :: ts, e :: ds, h, j, t, d, ht, hd => by
    simp only [DataW.weightsEach, List.all_append, Bool.and_eq_true] at h
    cases j with
    | zero =>
      simp at ht hd
      subst ht hd
      intro x hx
      exact of_decide_eq_true (List.all_eq_true.1 h.1 x hx)
    | succ j => exact reach_at h.2 (j := j) (by simpa using ht) (by simpa using hd)

theorem reach_string {H : Type} {P : Program} {ts : List TypeId} {ds : List (DataW H)} (h : (DataW.weightsEach P ts ds).all (· ≤ reachBytes) = true)
    {j : Nat} {t : TypeId} {s : ByteArray} (ht : ts[j]? = some t) (hd : ds[j]? = some (.lit (.string s.data.toList))) : s.size ≤ 140737488351232 := by
  have := reach_at h ht hd s.data.toList.length (by simp [DataW.weights])
  rw [Lib.size_eq]
  exact this
end Go.Proofs.YtfenmeacimfiaaaGreatDoor
