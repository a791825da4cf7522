/-
  Plain law: ages: what a text says.
-/
import Derived.Test.YtjfnkkpmmebnfaaDoorPlainSize3
namespace Wh

/-- The units: their words, their sizes. -/
def uWord : Nat → List UInt8
  | 0 => [119] | 1 => [100] | 2 => [104] | 3 => [109] | 4 => [115] | 5 => [109, 115] | 6 => [117, 115] | 7 => [110, 115] | _ => []
def uSize : Nat → Nat
  | 0 => 604800000000000 | 1 => 86400000000000 | 2 => 3600000000000 | 3 => 60000000000 | 4 => 1000000000 | 5 => 1000000 | 6 => 1000 | _ => 1

theorem uSize_pos (k : Nat) : 1 ≤ uSize k ∧ uSize k ≤ 604800000000000 := by
  unfold uSize
  split <;> omega

/-- The first unit from 'next' on with a word. -/
def findU (w : List UInt8) (next : Nat) : Option Nat := (List.range 8).find? (fun k => decide (next ≤ k) && uWord k == w)

theorem findU_some {w : List UInt8} {next k : Nat} (h : findU w next = some k) : next ≤ k ∧ k < 8 ∧ uWord k = w := by
  have h1 := List.find?_some h
  have h2 := List.mem_of_find?_eq_some h
  simp at h1 h2
  exact ⟨h1.1, h2, h1.2⟩

theorem findU_none {w : List UInt8} {next : Nat} (h : findU w next = none) : ∀ k, next ≤ k → k < 8 → uWord k ≠ w := by
  intro k h1 h2 h3
  have := List.find?_eq_none.1 h k (by simpa using h2)
  simp [h1, h3] at this

theorem uWord_inj {j k : Nat} (hj : j < 8) (hk : k < 8) (h : uWord j = uWord k) : j = k := by
  have : ∀ a b : Fin 8, uWord a.1 = uWord b.1 → a = b := by decide
  have := this ⟨j, hj⟩ ⟨k, hk⟩ h
  simpa using this

theorem findU_at {w : List UInt8} {next k : Nat} (hn : next ≤ k) (hk : k < 8) (h : uWord k = w) : findU w next = some k := by
  cases hf : findU w next with
  | none => exact absurd h (findU_none hf k hn hk)
  | some j =>
    obtain ⟨_, h2, h3⟩ := findU_some hf
    rw [uWord_inj h2 hk (h3.trans h.symm)]

theorem findU_miss {w : List UInt8} {next : Nat} (h : ∀ k, next ≤ k → k < 8 → uWord k ≠ w) : findU w next = none := by
  cases hf : findU w next with
  | none => rfl
  | some j =>
    obtain ⟨h1, h2, h3⟩ := findU_some hf
    exact absurd h3 (h j h1 h2)

/-- The sum of a text of ages; none: it has not its form. -/
def ageGo (p : UInt8 → Bool) : Nat → List UInt8 → Nat → Nat → Option Nat
  | 0, l, _, tot => if l = [] then some tot else none
  | g + 1, l, next, tot =>
    if l = [] then some tot
    else if numOk (l.takeWhile digit) then
      match findU ((l.dropWhile digit).takeWhile p) next with
      | none => none
      | some k => ageGo p g ((l.dropWhile digit).dropWhile p) (k + 1) (tot + dval (l.takeWhile digit) * uSize k)
    else none

def ageEnd : Option Nat → Int × Int
  | none => (0, 9)
  | some t => if t ≤ most then ((t : Int), 0) else (0, 7)

/-- What ParseAge returns. -/
def parseAg (l : List UInt8) : Int × Int := if l = [] then (0, 9) else ageEnd (ageGo letter l.length l 0 0)

theorem ageGo_nil {p : UInt8 → Bool} {g next tot : Nat} : ageGo p g [] next tot = some tot := by cases g <;> simp [ageGo]
theorem ageGo_bad {p : UInt8 → Bool} {g next tot : Nat} {l : List UInt8} (h0 : l ≠ []) (h : numOk (l.takeWhile digit) = false) : ageGo p (g + 1) l next tot = none := by rw [ageGo, if_neg h0, if_neg (by simp [h])]
theorem ageGo_miss {p : UInt8 → Bool} {g next tot : Nat} {l : List UInt8} (h0 : l ≠ []) (h : findU ((l.dropWhile digit).takeWhile p) next = none) : ageGo p (g + 1) l next tot = none := by
  rw [ageGo, if_neg h0, h]
  simp
theorem ageGo_step {p : UInt8 → Bool} {g next tot k : Nat} {l : List UInt8} (h0 : l ≠ []) (hn : numOk (l.takeWhile digit) = true) (h : findU ((l.dropWhile digit).takeWhile p) next = some k) :
    ageGo p (g + 1) l next tot = ageGo p g ((l.dropWhile digit).dropWhile p) (k + 1) (tot + dval (l.takeWhile digit) * uSize k) := by
  rw [ageGo, if_neg h0, if_pos hn, h]

theorem numOk_ne {d : List UInt8} (h : numOk d = true) : d ≠ [] := by
  rintro rfl
  simp [numOk] at h

theorem age_shorter {p : UInt8 → Bool} {l : List UInt8} (h : numOk (l.takeWhile digit) = true) : ((l.dropWhile digit).dropWhile p).length + 1 ≤ l.length := by
  have e : l = l.takeWhile digit ++ l.dropWhile digit := (List.takeWhile_append_dropWhile).symm
  have h1 : ((l.dropWhile digit).dropWhile p).length ≤ (l.dropWhile digit).length := (List.dropWhile_sublist _).length_le
  have h2 : 0 < (l.takeWhile digit).length := List.length_pos_iff.2 (numOk_ne h)
  have h3 := congrArg List.length e
  rw [List.length_append] at h3
  omega

/-- Small letters alone: the reference's scan. -/
def lowerL (c : UInt8) : Bool := decide (97 ≤ c.toNat) && decide (c.toNat ≤ 122)

theorem lower_letter {c : UInt8} (h : lowerL c = true) : letter c = true := by
  simp [lowerL] at h
  simp [letter, h]

theorem uWord_lower (k : Nat) (hk : k < 8) : (uWord k).all lowerL = true ∧ uWord k ≠ [] := by
  have : ∀ k : Fin 8, (uWord k.1).all lowerL = true ∧ uWord k.1 ≠ [] := by decide
  exact this ⟨k, hk⟩

/-- Where the letters end, the small ones end; where the small ones end earlier, another letter stands. -/
theorem scan_split : ∀ r : List UInt8, (r.takeWhile letter = r.takeWhile lowerL ∧ r.dropWhile letter = r.dropWhile lowerL) ∨
    ((r.takeWhile letter).all lowerL = false ∧ ∃ c q, r.dropWhile lowerL = c :: q ∧ letter c = true)
  | [] => .inl ⟨rfl, rfl⟩
  | x :: r => by
    cases hx : lowerL x
    · cases hl : letter x
      · exact .inl ⟨by simp [hx, hl], by simp [hx, hl]⟩
      · exact .inr ⟨by simp [hl, hx], x, r, by simp [hx], hl⟩
    · have hl := lower_letter hx
      rcases scan_split r with ⟨h1, h2⟩ | ⟨h1, c, q, h2, h3⟩
      · exact .inl ⟨by simp [hx, hl, h1], by simp [hx, hl, h2]⟩
      · exact .inr ⟨by simp [hl, hx, h1], c, q, by simp [hx, h2], h3⟩

theorem letter_digit {c : UInt8} (h : letter c = true) : digit c = false := by
  simp [letter] at h
  simp [digit]
  omega

theorem ageGo_same : ∀ (g : Nat) (l : List UInt8) (next tot : Nat), l.length ≤ g → ageGo letter g l next tot = ageGo lowerL g l next tot
  | 0, l, _, _, h => by
    have : l = [] := List.eq_nil_of_length_eq_zero (by omega)
    subst this
    rfl
  | g + 1, l, next, tot, h => by
    by_cases h0 : l = []
    · subst h0; rw [ageGo_nil, ageGo_nil]
    cases hn : numOk (l.takeWhile digit)
    · rw [ageGo_bad h0 hn, ageGo_bad h0 hn]
    have hs1 := age_shorter (p := letter) hn
    have hs2 := age_shorter (p := lowerL) hn
    rcases scan_split (l.dropWhile digit) with ⟨h1, h2⟩ | ⟨h1, c, q, h2, h3⟩
    · cases hf : findU ((l.dropWhile digit).takeWhile letter) next with
      | none => rw [ageGo_miss h0 hf, ageGo_miss h0 (by rw [← h1]; exact hf)]
      | some k =>
        rw [ageGo_step h0 hn hf, ageGo_step h0 hn (by rw [← h1]; exact hf), ← h2]
        exact ageGo_same g _ _ _ (by omega)
    · have hf : findU ((l.dropWhile digit).takeWhile letter) next = none := findU_miss (fun k _ hk he => by
        have := (uWord_lower k hk).1
        rw [he, h1] at this
        cases this)
      rw [ageGo_miss h0 hf]
      cases hf2 : findU ((l.dropWhile digit).takeWhile lowerL) next with
      | none => rw [ageGo_miss h0 hf2]
      | some k =>
        rw [ageGo_step h0 hn hf2, h2]
        rw [h2] at hs2
        rcases g with _ | g
        · simp at hs2; omega
        · rw [ageGo_bad (by simp)]
          rw [List.takeWhile_cons, letter_digit h3]
          rfl

/-- What is greater than the greatest. -/
def satur (t : Nat) : Nat := if t ≤ most then t else most + 1

theorem times_satur (d : List UInt8) {u : Nat} (hu : 1 ≤ u) : timesV (numV d) u = satur (dval d * u) := by
  have hle : ∀ n, n ≤ most / u ↔ n * u ≤ most := fun n => Nat.le_div_iff_mul_le hu
  unfold satur timesV numV
  by_cases h : dval d ≤ most
  · rw [if_pos h]
    by_cases h2 : dval d * u ≤ most
    · rw [if_pos ((hle _).2 h2), if_pos h2]
    · rw [if_neg (fun hh => h2 ((hle _).1 hh)), if_neg h2]
  · rw [if_neg h]
    have hx : ¬ dval d * u ≤ most := fun hh => h (Nat.le_trans (Nat.le_mul_of_pos_right _ hu) hh)
    have hy : ¬ most + 1 ≤ most / u := fun hh => by
      have := (hle _).1 hh
      have h3 : most + 1 ≤ (most + 1) * u := Nat.le_mul_of_pos_right _ hu
      omega
    rw [if_neg hy, if_neg hx]

theorem satur_over {a b : Nat} (h : most < satur a ∨ most < satur b + satur a) : satur (a + b) = most + 1 := by
  have : ¬ a + b ≤ most := by
    unfold satur at h
    split at h <;> split at h <;> omega
  unfold satur
  rw [if_neg this]

theorem satur_fits {a b : Nat} (h1 : satur a ≤ most) (h : satur b + satur a ≤ most) : satur (a + b) = satur a + satur b := by
  unfold satur at h1 h ⊢
  split at h1
  · rename_i ha
    rw [if_pos ha] at h
    split at h
    · rename_i hb
      rw [if_pos (by omega), if_pos ha, if_pos hb]
    · omega
  · omega

theorem satur_le (t : Nat) : satur t ≤ most + 1 := by unfold satur; split <;> omega

theorem ageEnd_over {t : Nat} (h : most < satur t) : ageEnd (some t) = (0, 7) := by
  unfold satur at h
  split at h
  · omega
  · rename_i h2; show (if t ≤ most then ((t : Int), (0 : Int)) else (0, 7)) = _; rw [if_neg h2]

theorem ageEnd_fits {t : Nat} (h : satur t ≤ most) : ageEnd (some t) = ((satur t : Int), 0) := by
  unfold satur at h ⊢
  split at h
  · rename_i h2; rw [if_pos h2]; show (if t ≤ most then ((t : Int), (0 : Int)) else (0, 7)) = _; rw [if_pos h2]
  · omega
end Wh
