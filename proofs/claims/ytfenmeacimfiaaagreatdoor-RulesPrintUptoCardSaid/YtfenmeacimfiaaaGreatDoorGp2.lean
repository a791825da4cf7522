/-
  Globs read from their text, in plain words: the readers without their fuel.
-/
import Derived.Test.YtfenmeacimfiaaaGreatDoorGp1
namespace Wh.G

theorem bnd_len {l : List UInt8} {c : UInt8} {q : List UInt8} (h : bnd l = .ok c q) : q.length < l.length := by
  cases l with
  | nil => cases h
  | cons x r =>
    simp only [bnd] at h
    split at h
    · split at h
      · cases h
      · split at h
        · cases h
        · injection h with _ h
          subst h
          simp
          omega
    · split at h
      · cases h
      · injection h with _ h
        subst h
        simp
theorem rng2_len {a : UInt8} {l : List UInt8} {x : Int × Int} {q : List UInt8} (h : rng2 a l = .ok x q) : q.length ≤ l.length := by
  unfold rng2 at h
  split at h
  · rename_i s
    split at h
    · cases h
    · rename_i b s' hb
      split at h
      · cases h
      · injection h with _ h
        subst h
        have := bnd_len hb
        simp
        omega
  · injection h with _ h
    subst h
    exact Nat.le_refl _
theorem rng_len {l : List UInt8} {x : Int × Int} {q : List UInt8} (h : rng l = .ok x q) : q.length < l.length := by
  unfold rng at h
  split at h
  · cases h
  · rename_i a r hb
    have h1 := bnd_len hb
    have h2 := rng2_len h
    omega
theorem setGo_len : ∀ {n : Nat} {acc : List (Int × Int)} {l : List UInt8} {x : List (Int × Int)} {q : List UInt8}, setGo n acc l = .ok x q → q.length ≤ l.length
  | 0, acc, l, x, q, h => by
    injection h with _ h
    subst h
    exact Nat.le_refl _
  | n + 1, acc, l, x, q, h => by
    unfold setGo at h
    split at h
    · injection h with _ h
      subst h
      simp
    · split at h
      · cases h
      · rename_i y s hr
        have h1 := rng_len hr
        have h2 := setGo_len h
        omega
theorem setR_len {l : List UInt8} {p : GP} {q : List UInt8} (h : setR l = .ok p q) : q.length ≤ l.length := by
  unfold setR at h
  split at h
  · cases h
  · rename_i x s hs
    injection h with _ h
    subst h
    split at hs
    · have := setGo_len hs
      rw [List.length_tail] at this
      omega
    · exact setGo_len hs
theorem read_len (n : Nat) : (∀ (d : Bool) (acc : List GP) (l : List UInt8) (a : List GP) (q : List UInt8), parts n d acc l = .ok a q → q.length ≤ l.length) ∧ (∀ (ws : List (List GP)) (l : List UInt8) (a : List (List GP)) (q : List UInt8), ways n ws l = .ok a q → q.length ≤ l.length) := by
  induction n with
  | zero =>
    refine ⟨fun d acc l a q h => ?_, fun ws l a q h => ?_⟩
    · unfold parts at h
      injection h with _ h
      subst h
      exact Nat.le_refl _
    · unfold ways at h
      injection h with _ h
      subst h
      exact Nat.le_refl _
  | succ n ih =>
    obtain ⟨ih1, ih2⟩ := ih
    refine ⟨fun d acc l a q h => ?_, fun ws l a q h => ?_⟩
    · cases l with
      | nil =>
        unfold parts at h
        injection h with _ h
        subst h
        exact Nat.le_refl _
      | cons c r =>
        unfold parts at h
        have tl : ∀ s : List UInt8, s.tail.length ≤ s.length := fun s => by rw [List.length_tail]; omega
        have key : ∀ {d acc s}, parts n d acc s = .ok a q → s.length ≤ (c :: r).length → q.length ≤ (c :: r).length := fun h1 h2 => Nat.le_trans (ih1 _ _ _ _ _ h1) h2
        split at h
        · injection h with _ h
          subst h
          exact Nat.le_refl _
        split at h
        · exact key h (by simp)
        split at h
        · split at h
          · split at h
            · cases h
            · exact key h (by have := tl r; simp; omega)
          · exact key h (by simp)
        split at h
        · split at h
          · cases h
          · rename_i p s hs
            have := setR_len hs
            exact key h (by simp; omega)
        split at h
        · split at h
          · cases h
          · rename_i p s hs
            have := ih2 _ _ _ _ hs
            exact key h (by simp; omega)
        split at h
        · cases r with
          | nil => cases h
          | cons x s =>
            dsimp only at h
            split at h
            · cases h
            · exact key h (by simp; omega)
        split at h
        · cases h
        · exact key h (by simp)
    · unfold ways at h
      split at h
      · cases h
      · cases h
      · rename_i p c s hs
        have h1 := ih1 _ _ _ _ _ hs
        simp at h1
        split at h
        · have := ih2 _ _ _ _ h
          omega
        · injection h with _ h
          subst h
          omega
theorem read_fuel (n : Nat) : (∀ (m : Nat) (d : Bool) (acc : List GP) (l : List UInt8), 2 * l.length + 1 ≤ n → 2 * l.length + 1 ≤ m → parts n d acc l = parts m d acc l) ∧ (∀ (m : Nat) (ws : List (List GP)) (l : List UInt8), 2 * l.length + 2 ≤ n → 2 * l.length + 2 ≤ m → ways n ws l = ways m ws l) := by
  induction n with
  | zero => exact ⟨fun m d acc l h _ => by omega, fun m ws l h _ => by omega⟩
  | succ n ih =>
    obtain ⟨ih1, ih2⟩ := ih
    refine ⟨fun m d acc l hn hm => ?_, fun m ws l hn hm => ?_⟩
    · obtain ⟨m, rfl⟩ : ∃ k, m = k + 1 := ⟨m - 1, by omega⟩
      cases l with
      | nil => unfold parts; rfl
      | cons c r =>
        simp only [List.length_cons] at hn hm
        have tl : r.tail.length ≤ r.length := by rw [List.length_tail]; omega
        have key : ∀ (acc : List GP) (s : List UInt8), s.length ≤ r.length → parts n d acc s = parts m d acc s := fun acc s hs => ih1 _ _ _ _ (by omega) (by omega)
        have kw : ways n [] r = ways m [] r := ih2 _ _ _ (by omega) (by omega)
        unfold parts
        rw [key _ r (Nat.le_refl _), key _ r.tail tl, key _ r (Nat.le_refl _), key _ r (Nat.le_refl _), kw]
        split
        · rfl
        split
        · rfl
        split
        · rfl
        split
        · split
          · rfl
          · rename_i p s hs
            exact key _ _ (setR_len hs)
        split
        · split
          · rfl
          · rename_i p s hs
            exact key _ _ ((read_len m).2 _ _ _ _ hs)
        split
        · cases r with
          | nil => rfl
          | cons x s =>
            dsimp only
            split
            · rfl
            · exact key _ _ (by simp)
        split
        · rfl
        · rfl
    · obtain ⟨m, rfl⟩ : ∃ k, m = k + 1 := ⟨m - 1, by omega⟩
      unfold ways
      rw [ih1 m true [] l (by omega) (by omega)]
      split
      · rfl
      · rfl
      · rename_i p c s hs
        have h1 := (read_len m).1 _ _ _ _ _ hs
        simp at h1
        split
        · exact ih2 _ _ _ (by omega) (by omega)
        · rfl

/-- The readers without their fuel. -/
noncomputable def PL (d : Bool) (acc : List GP) (l : List UInt8) : Rd (List GP) := parts (2 * l.length + 1) d acc l
noncomputable def WL (ws : List (List GP)) (l : List UInt8) : Rd (List (List GP)) := ways (2 * l.length + 2) ws l
theorem PL_eq (n : Nat) (d : Bool) (acc : List GP) (l : List UInt8) (h : 2 * l.length + 1 ≤ n) : parts n d acc l = PL d acc l := (read_fuel n).1 _ _ _ _ h (Nat.le_refl _)
theorem WL_eq (n : Nat) (ws : List (List GP)) (l : List UInt8) (h : 2 * l.length + 2 ≤ n) : ways n ws l = WL ws l := (read_fuel n).2 _ _ _ h (Nat.le_refl _)
theorem PL_nil (d : Bool) (acc : List GP) : PL d acc [] = .ok acc [] := by unfold PL parts; rfl
theorem PL_cons (d : Bool) (acc : List GP) (c : UInt8) (r : List UInt8) : PL d acc (c :: r) =
    if d = true ∧ (c = 44 ∨ c = 125) then .ok acc (c :: r)
    else if c = 63 then PL d (acc ++ [.one]) r
    else if c = 42 then (if r.head? = some 42 then (if r.tail.head? = some 42 then .bad r.tail else PL d (acc ++ [.deep]) r.tail) else PL d (acc ++ [.star]) r)
    else if c = 91 then (match setR r with | .bad s => .bad s | .ok p q => PL d (acc ++ [p]) q)
    else if c = 123 then (match WL [] r with | .bad s => .bad s | .ok w q => PL d (acc ++ [.ways w]) q)
    else if c = 92 then (match r with | [] => .bad [] | x :: q => if x = 0 then .bad (x :: q) else PL d (addT acc x) q)
    else if c = 0 ∨ c = 93 ∨ c = 125 then .bad (c :: r)
    else PL d (addT acc c) r := by
  have tl : r.tail.length ≤ r.length := by rw [List.length_tail]; omega
  have key : ∀ (acc : List GP) (s : List UInt8), s.length ≤ r.length → parts (2 * (c :: r).length) d acc s = PL d acc s := fun acc s hs => PL_eq _ _ _ _ (by simp; omega)
  have kw : ways (2 * (c :: r).length) [] r = WL [] r := WL_eq _ _ _ (by simp; omega)
  show parts (2 * (c :: r).length + 1) d acc (c :: r) = _
  unfold parts
  rw [key _ r (Nat.le_refl _), key _ r.tail tl, key _ r (Nat.le_refl _), key _ r (Nat.le_refl _), kw]
  split
  · rfl
  split
  · rfl
  split
  · rfl
  split
  · split
    · rename_i s hs
      rw [hs]
    · rename_i p s hs
      rw [hs]
      exact key _ _ (setR_len hs)
  split
  · split
    · rename_i s hs
      rw [hs]
    · rename_i p s hs
      rw [hs]
      exact key _ _ ((read_len _).2 _ _ _ _ hs)
  split
  · cases r with
    | nil => rfl
    | cons x s =>
      dsimp only
      split
      · rfl
      · exact key _ _ (by simp)
  split
  · rfl
  · rfl
theorem WL_unf (ws : List (List GP)) (l : List UInt8) : WL ws l = match PL true [] l with
    | .bad s => .bad s
    | .ok _ [] => .bad []
    | .ok p (c :: q) => if c = 44 then WL (ws ++ [p]) q else .ok (ws ++ [p]) q := by
  show ways (2 * l.length + 1 + 1) ws l = _
  unfold ways
  rw [PL_eq _ true [] l (Nat.le_refl _)]
  split
  · rename_i s hs
    rw [hs]
  · rename_i p hs
    rw [hs]
  · rename_i p c s hs
    rw [hs]
    have h1 := (read_len _).1 _ _ _ _ _ hs
    simp at h1
    dsimp only
    split
    · exact WL_eq _ _ _ (by omega)
    · rfl
theorem PL_len {d : Bool} {acc : List GP} {l : List UInt8} {a : List GP} {q : List UInt8} (h : PL d acc l = .ok a q) : q.length ≤ l.length := (read_len _).1 _ _ _ _ _ h
theorem WL_len {ws : List (List GP)} {l : List UInt8} {a : List (List GP)} {q : List UInt8} (h : WL ws l = .ok a q) : q.length ≤ l.length := (read_len _).2 _ _ _ _ h
end Wh.G
