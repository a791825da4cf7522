/-
  names.Clean and the reference's Clean.
-/
import Derived.Test.YtikegddlbelfaaaGreatDoorParts
import Derived.Test.YtikegddlbelfaaaGreatDoorPlainClean
namespace Go.Proofs.YtikegddlbelfaaaGreatDoor
open Go.RowKit

theorem info_str : (Tryz.prog.info? 9).map (fun i => (i.zero, i.size, i.bytes)) = some (some (.string ByteArray.empty), 1, 16) := by kernel_rfl

/-- A row of the call's own, as a slice's value. -/
theorem own_form {w : World} {base : Nat} {e : TypeId} {v : Value} {n : Nat} {xs : List Value} (h : w.ownsRow base e 1 v n xs) :
    ∃ a cap, v = .slice a n cap ∧ n ≤ cap ∧ (0 < n → ∃ g, a = some ⟨g, 0, none⟩) := by
  obtain ⟨h1, h2⟩ := h
  rcases h2 with ⟨rfl, rfl⟩ | ⟨g, cap, cur, rfl, _, _, hn, _⟩
  · exact ⟨none, 0, rfl, Nat.le_refl _, fun h => absurd h (by omega)⟩
  · exact ⟨_, _, rfl, hn, fun _ => ⟨g, rfl⟩⟩

theorem own_base {w : World} {base : Nat} {e : TypeId} {v : Value} {n : Nat} {xs : List Value} (h : w.ownsRow base e 1 v n xs) (k : Nat) (hk : v.ownBlock = some k) : base ≤ k := by
  rcases h.2 with ⟨rfl, _⟩ | ⟨g, cap, cur, rfl, hg, _⟩
  · simp [Value.ownBlock] at hk
  · simp [Value.ownBlock] at hk
    omega

theorem own_holds {w : World} {base : Nat} {e : TypeId} {a : Option Addr} {n c : Nat} {xs : List Value} (h : w.ownsRow base e 1 (.slice a n c) n xs) : Holds w a xs := by
  obtain ⟨h1, h2⟩ := h
  rcases h2 with ⟨_, rfl⟩ | ⟨g, cap, cur, hv, _, hg, hn, _, hsz, htk⟩
  · simp at h1
    exact .inl h1
  · injection hv with hv1
    subst hv1
    refine .inr ⟨g, 0, rfl, (Array.getElem?_eq_some_iff.1 hg).1, fun j u hu => ?_⟩
    rw [Nat.zero_add]
    have hjl : j < n := by have := (List.getElem?_eq_some_iff.1 hu).1; omega
    rw [← htk, List.getElem?_take_of_lt (by omega)] at hu
    simp only [World.cell?, hg]
    simpa using hu

theorem own_pop {w : World} {base : Nat} {e : TypeId} {g cap n : Nat} {out : List ByteArray} (hn : out.length = n + 1)
    (h : w.ownsRow base e 1 (.slice (some ⟨g, 0, none⟩) (n + 1) cap) (n + 1) (out.map Value.string)) : w.ownsRow base e 1 (.slice (some ⟨g, 0, none⟩) n cap) n (out.dropLast.map Value.string) := by
  have hne : out ≠ [] := by intro h0; rw [h0] at hn; simp at hn
  have e1 : out.map Value.string = out.dropLast.map Value.string ++ [Value.string (out.getLast hne)] := by
    conv => lhs; rw [← List.dropLast_concat_getLast hne]
    simp
  rw [e1] at h
  exact ownsRow_pop (by simp; omega) h

def CleanRel (xs : List ByteArray) (w1 : World) (B g : Nat) (s4 s10 : Value) (wx : World) : Prop :=
  ∃ (k : Nat) (out : List ByteArray) (a : Option Addr) (cap : Nat), k + g = xs.length ∧ s10 = .int .i64 k ∧ s4 = .slice a out.length cap ∧ out.length ≤ k ∧
    wx.ownsRow B 9 1 (.slice a out.length cap) out.length (out.map Value.string) ∧ Below B w1 wx ∧ Wh.cleanGo (xs.drop k) out = Wh.cleanGo xs [] ∧ (∀ x ∈ out, x ∈ xs)

end Go.Proofs.YtikegddlbelfaaaGreatDoor
