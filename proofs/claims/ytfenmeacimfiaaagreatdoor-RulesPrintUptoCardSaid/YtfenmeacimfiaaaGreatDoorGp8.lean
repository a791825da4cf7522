/-
  How great what is read of a text can be, in plain words.
-/
import Derived.Test.YtfenmeacimfiaaaGreatDoorGp2
namespace Wh.G

mutual
def gP : GP → Nat
  | .text l => 1 + l.length
  | .one => 1
  | .star => 1
  | .deep => 1
  | .set _ rg => 1 + rg.length
  | .ways ws => 1 + gW ws
def gL : List GP → Nat
  | [] => 0
  | p :: r => gP p + gL r
def gW : List (List GP) → Nat
  | [] => 0
  | x :: r => 1 + gL x + gW r
end
theorem gL_app : ∀ (a b : List GP), gL (a ++ b) = gL a + gL b
  | [], b => by simp [gL]
  | x :: a, b => by
    show gP x + gL (a ++ b) = gP x + gL a + gL b
    rw [gL_app a b]
    omega
theorem gW_app : ∀ (a b : List (List GP)), gW (a ++ b) = gW a + gW b
  | [], b => by simp [gW]
  | x :: a, b => by
    show 1 + gL x + gW (a ++ b) = 1 + gL x + gW a + gW b
    rw [gW_app a b]
    omega
theorem gL_addT : ∀ (a : List GP) (c : UInt8), gL (addT a c) ≤ gL a + 2
  | [], c => by
    show gL [.text [c]] ≤ gL [] + 2
    simp [gL, gP]
  | [x], c => by
    cases x with
    | text l =>
      show gL [.text (l ++ [c])] ≤ gL [.text l] + 2
      simp only [gL, gP, List.length_append, List.length_cons, List.length_nil]
      omega
    | one => show gL [.one, .text [c]] ≤ gL [.one] + 2; simp [gL, gP]
    | star => show gL [.star, .text [c]] ≤ gL [.star] + 2; simp [gL, gP]
    | deep => show gL [.deep, .text [c]] ≤ gL [.deep] + 2; simp [gL, gP]
    | set n r => show gL [.set n r, .text [c]] ≤ gL [.set n r] + 2; simp [gL, gP]
    | ways w => show gL [.ways w, .text [c]] ≤ gL [.ways w] + 2; simp [gL, gP]
  | x :: y :: r, c => by
    have h : addT (x :: y :: r) c = x :: addT (y :: r) c := by cases x <;> rfl
    rw [h]
    have := gL_addT (y :: r) c
    show gP x + gL (addT (y :: r) c) ≤ gP x + gL (y :: r) + 2
    omega

theorem canon_len : ∀ (c : List (Int × Int)) (lo hi : Int), Canon c → (∀ n, In n c → lo ≤ n ∧ n ≤ hi) → (c.length : Int) ≤ max 0 (hi - lo + 1)
  | [], _, _, _, _ => by
    show (0 : Int) ≤ _
    omega
  | x :: r, lo, hi, h, hb => by
    have h1 := h.head
    have h2 := hb x.1 (in_cons.2 (.inl ⟨Int.le_refl _, h1⟩))
    have h3 := hb x.2 (in_cons.2 (.inl ⟨h1, Int.le_refl _⟩))
    have h4 := canon_len r (x.2 + 1) hi h.tail (fun n hn => by
      refine ⟨?_, (hb n (in_cons.2 (.inr hn))).2⟩
      obtain ⟨y, hy, hy2⟩ := hn
      have := h.above y hy
      omega)
    rw [List.length_cons]
    omega
theorem canonOf_len {l : List (Int × Int)} (h : ∀ n, In n l → 0 ≤ n ∧ n ≤ 255) : (canonOf l).length ≤ 256 := by
  unfold canonOf
  split
  · rename_i hx
    have hc := Classical.choose_spec hx
    have := canon_len _ 0 255 hc.1 (fun n hn => h n ((hc.2 n).1 hn))
    omega
  · exact Nat.zero_le _
theorem rng2_in {a : UInt8} {l : List UInt8} {x : Int × Int} {q : List UInt8} (h : rng2 a l = .ok x q) : 0 ≤ x.1 ∧ x.2 ≤ 255 := by
  unfold rng2 at h
  have ha := a.toNat_lt
  split at h
  · split at h
    · cases h
    · rename_i b s' hb
      split at h
      · cases h
      · injection h with h _
        have := b.toNat_lt
        rw [← h]
        dsimp only
        omega
  · injection h with h _
    rw [← h]
    dsimp only
    omega
theorem setGo_in : ∀ {n : Nat} {acc : List (Int × Int)} {l : List UInt8} {x : List (Int × Int)} {q : List UInt8}, setGo n acc l = .ok x q → (∀ r ∈ acc, 0 ≤ r.1 ∧ r.2 ≤ 255) → ∀ r ∈ x, 0 ≤ r.1 ∧ r.2 ≤ 255
  | 0, acc, l, x, q, h, ha => by
    injection h with h _
    rw [← h]
    exact ha
  | n + 1, acc, l, x, q, h, ha => by
    unfold setGo at h
    split at h
    · injection h with h _
      rw [← h]
      exact ha
    · split at h
      · cases h
      · rename_i y s hr
        refine setGo_in h (fun r hr2 => ?_)
        rcases List.mem_append.1 hr2 with hr2 | hr2
        · exact ha r hr2
        · rw [List.mem_singleton.1 hr2]
          unfold rng at hr
          split at hr
          · cases hr
          · exact rng2_in hr
theorem setR_sz {l : List UInt8} {p : GP} {q : List UInt8} (h : setR l = .ok p q) : gP p ≤ 257 := by
  unfold setR at h
  split at h
  · cases h
  · rename_i x s hs
    injection h with h _
    rw [← h]
    have hin : ∀ r ∈ x, 0 ≤ r.1 ∧ r.2 ≤ 255 := by
      split at hs
      · exact setGo_in hs (fun r hr => by cases hr)
      · exact setGo_in hs (fun r hr => by cases hr)
    have := canonOf_len (l := x) (fun n ⟨r, hr, h1, h2⟩ => by have := hin r hr; omega)
    show 1 + (canonOf x).length ≤ 257
    omega
theorem read_sz (n : Nat) : (∀ (d : Bool) (acc : List GP) (l : List UInt8) (a : List GP) (q : List UInt8), parts n d acc l = .ok a q → gL a + 300 * q.length ≤ gL acc + 300 * l.length) ∧ (∀ (ws : List (List GP)) (l : List UInt8) (a : List (List GP)) (q : List UInt8), ways n ws l = .ok a q → gW a + 300 * q.length ≤ gW ws + 300 * l.length) := by
  induction n with
  | zero =>
    refine ⟨fun d acc l a q h => ?_, fun ws l a q h => ?_⟩
    · unfold parts at h
      injection h with h1 h
      rw [h1, h]
      exact Nat.le_refl _
    · unfold ways at h
      injection h with h1 h
      rw [h1, h]
      exact Nat.le_refl _
  | succ n ih =>
    obtain ⟨ih1, ih2⟩ := ih
    refine ⟨fun d acc l a q h => ?_, fun ws l a q h => ?_⟩
    · cases l with
      | nil =>
        unfold parts at h
        injection h with h1 h
        rw [h1, ← h]
        exact Nat.le_refl _
      | cons c r =>
        unfold parts at h
        have tl : ∀ s : List UInt8, s.tail.length ≤ s.length := fun s => by rw [List.length_tail]; omega
        have key : ∀ {acc' s}, parts n d acc' s = .ok a q → gL acc' + 300 * s.length ≤ gL acc + 300 * (c :: r).length → gL a + 300 * q.length ≤ gL acc + 300 * (c :: r).length := fun h1 h2 => Nat.le_trans (ih1 _ _ _ _ _ h1) h2
        have one : ∀ (p : GP), gL (acc ++ [p]) = gL acc + gP p := fun p => by rw [gL_app]; simp [gL]
        split at h
        · injection h with h1 h
          rw [h1, ← h]
          exact Nat.le_refl _
        split at h
        · exact key h (by rw [one, List.length_cons]; simp only [gP]; omega)
        split at h
        · split at h
          · split at h
            · cases h
            · exact key h (by have := tl r; rw [one, List.length_cons]; simp only [gP]; omega)
          · exact key h (by rw [one, List.length_cons]; simp only [gP]; omega)
        split at h
        · split at h
          · cases h
          · rename_i p s hs
            have h2 := setR_len hs
            have h3 := setR_sz hs
            exact key h (by rw [one, List.length_cons]; omega)
        split at h
        · split at h
          · cases h
          · rename_i w s hs
            have h2 := ih2 _ _ _ _ hs
            exact key h (by rw [one, List.length_cons]; simp only [gP]; simp only [gW] at h2; omega)
        split at h
        · split at h
          · cases h
          · split at h
            · cases h
            · rename_i x s _
              have h2 := gL_addT acc x
              exact key h (by simp only [List.length_cons]; omega)
        split at h
        · cases h
        · have h2 := gL_addT acc c
          exact key h (by simp only [List.length_cons]; omega)
    · unfold ways at h
      split at h
      · cases h
      · cases h
      · rename_i p c s hs
        have h1 := ih1 _ _ _ _ _ hs
        simp only [gL, List.length_cons] at h1
        have h2 : gW (ws ++ [p]) = gW ws + 1 + gL p := by rw [gW_app]; simp [gW]; omega
        split at h
        · have := ih2 _ _ _ _ h
          omega
        · injection h with h3 h
          rw [← h3, ← h, h2]
          omega
theorem PL_sz {d : Bool} {l : List UInt8} {a : List GP} {q : List UInt8} (h : PL d [] l = .ok a q) : gL a ≤ 300 * l.length := by
  have := (read_sz _).1 _ _ _ _ _ h
  simp only [gL] at this
  omega
end Wh.G
