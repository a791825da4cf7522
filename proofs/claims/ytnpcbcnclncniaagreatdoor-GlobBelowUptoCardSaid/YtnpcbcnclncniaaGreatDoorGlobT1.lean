/-
  The text of globs, in plain words.
-/
import Derived.Test.YtnpcbcnclncniaaGreatDoorGlob9
namespace Go.Proofs.YtnpcbcnclncniaaGreatDoor
open Go.RowKit

def spc (d : Bool) (c : UInt8) : Bool := ([92, 42, 63, 91, 93, 123, 125] : List UInt8).contains c || (d && c == 44)
def esc1 (f : UInt8 → Bool) (c : UInt8) : List UInt8 := if f c then [92, c] else [c]
def escL (f : UInt8 → Bool) (l : List UInt8) : List UInt8 := l.flatMap (esc1 f)
def bndS (c : UInt8) : Bool := ([92, 93, 94, 45] : List UInt8).contains c
def bnd (n : Int) : List UInt8 := esc1 bndS (UInt8.ofNat n.toNat)
def rgTxt (r : Int × Int) : List UInt8 := bnd r.1 ++ (if r.1 + 1 < r.2 then [45] else []) ++ (if r.1 < r.2 then bnd r.2 else [])
def setTxt (neg : Bool) (rg : List (Int × Int)) : List UInt8 := [91] ++ (if neg then [94] else []) ++ rg.flatMap rgTxt ++ [93]
def waysTxt (l : List (List UInt8)) : List UInt8 := [123] ++ Lib.join l [44] ++ [125]
def txtOf {α : Type} (f : Sl α → List UInt8) (d : Bool) (p : PartOf α) : List UInt8 :=
  if p.kind = 1 then escL (spc d) p.text.data.toList else if p.kind = 2 then [63] else if p.kind = 3 then [42] else if p.kind = 4 then [42, 42] else if p.kind = 5 then setTxt p.neg p.rg.xs else if p.kind = 6 then waysTxt (p.ways.xs.map f) else []
/-- The text of parts. -/
def txt : (n : Nat) → Bool → List (P n) → List UInt8
  | 0, _, _ => []
  | n + 1, d, xs => xs.flatMap (fun p => txtOf (fun s => txt n true s.xs) d (pt n p))

/-- What right parts are, as far as their text asks. -/
def Good : (n : Nat) → List (P n) → Prop
  | 0, _ => True
  | n + 1, xs => ∀ p ∈ xs, (1 ≤ (pt n p).kind ∧ (pt n p).kind ≤ 6) ∧ partBad (pt n p) = false ∧ (∀ r ∈ (pt n p).rg.xs, (1 ≤ r.1 ∧ r.1 ≤ 255) ∧ 1 ≤ r.2 ∧ r.2 ≤ 255) ∧ ∀ s ∈ (pt n p).ways.xs, Good n s.xs

theorem firstErr_zero : ∀ {l : List Int}, firstErr l = 0 → ∀ e ∈ l, e = 0
  | [], _, _, h => nomatch h
  | x :: r, h, e, he => by
    unfold firstErr at h
    by_cases hx : x = 0
    · rw [if_pos hx] at h
      rcases List.mem_cons.1 he with rfl | he
      · exact hx
      · exact firstErr_zero h e he
    · rw [if_neg hx] at h
      exact absurd h hx
theorem rgGo_zero : ∀ {l : List (Int × Int)} {prev : Option Int}, rgGo prev l = 0 → ∀ r ∈ l, (1 ≤ r.1 ∧ r.1 ≤ 255) ∧ 1 ≤ r.2 ∧ r.2 ≤ 255
  | [], _, _, _, h => nomatch h
  | x :: r, prev, h, e, he => by
    rw [rgGo_cons] at h
    cases hb : rgBad x.1 x.2
    · rw [hb] at h
      rw [if_neg (by decide)] at h
      have hr : rgGo (some x.2) r = 0 := by
        cases hn : rgNear prev x.1
        · rw [hn] at h
          exact h
        · rw [hn, if_pos rfl] at h
          exact absurd h (by decide)
      rcases List.mem_cons.1 he with rfl | he
      · have := rgBad_no hb
        exact ⟨⟨this.1, this.2.1⟩, this.2.2.1, this.2.2.2.1⟩
      · exact rgGo_zero hr e he
    · rw [hb, if_pos rfl] at h
      exact absurd h (by decide)
theorem chkGo_zero {n : Nat} {f : Sl (P n) → Int} {ks : List Int} : ∀ {xs : List (P (n + 1))} {i : Nat}, chkGo n f ks i xs = 0 → ∀ p ∈ xs, ∃ j, stepErr n f ks j p = 0
  | [], _, _, _, h => nomatch h
  | x :: r, i, h, p, hp => by
    unfold chkGo at h
    by_cases hx : stepErr n f ks i x = 0
    · rw [if_pos hx] at h
      rcases List.mem_cons.1 hp with rfl | hp
      · exact ⟨i, hx⟩
      · exact chkGo_zero h p hp
    · rw [if_neg hx] at h
      exact absurd h hx
theorem stepErr_zero {n : Nat} {f : Sl (P n) → Int} {ks : List Int} {j : Nat} {p : P (n + 1)} (h : stepErr n f ks j p = 0) : (1 ≤ (pt n p).kind ∧ (pt n p).kind ≤ 6) ∧ partBad (pt n p) = false ∧ (∀ r ∈ (pt n p).rg.xs, (1 ≤ r.1 ∧ r.1 ≤ 255) ∧ 1 ≤ r.2 ∧ r.2 ≤ 255) ∧ ∀ s ∈ (pt n p).ways.xs, f s = 0 := by
  unfold stepErr at h
  by_cases k1 : (pt n p).kind < 1 ∨ 6 < (pt n p).kind
  · rw [if_pos k1] at h
    exact absurd h (by decide)
  rw [if_neg k1] at h
  by_cases k2 : formErr (pt n p) = 0
  case neg =>
    rw [if_pos k2] at h
    exact absurd h k2
  rw [if_neg (by simpa using k2)] at h
  have hb : partBad (pt n p) = false := by
    unfold formErr at k2
    cases hb : partBad (pt n p)
    · rfl
    · rw [hb, if_pos rfl] at k2
      exact absurd k2 (by decide)
  cases k3 : (isTxt ks j && (isTxt ks ((j : Int) - 1) || isTxt ks ((j : Int) + 1)))
  case true =>
    rw [k3, if_pos rfl] at h
    exact absurd h (by decide)
  rw [k3, if_neg (by decide)] at h
  by_cases k4 : rgErr (pt n p).rg.xs = 0
  case neg =>
    rw [if_pos k4] at h
    exact absurd h k4
  rw [if_neg (by simpa using k4)] at h
  exact ⟨by omega, hb, rgGo_zero k4, fun s hs => firstErr_zero h _ (List.mem_map.2 ⟨s, hs, rfl⟩)⟩
theorem good_of_chk : ∀ (n : Nat) (xs : List (P n)), chk n xs = 0 → Good n xs
  | 0, _, _ => trivial
  | n + 1, xs, h => fun p hp => by
    obtain ⟨j, hj⟩ := chkGo_zero (i := 0) h p hp
    obtain ⟨a, b, c, d⟩ := stepErr_zero hj
    exact ⟨a, b, c, fun s hs => good_of_chk n s.xs (d s hs)⟩

theorem flat_le {α : Type} {f : α → List UInt8} {g : α → Nat} : ∀ {l : List α}, (∀ x ∈ l, (f x).length ≤ g x) → (l.flatMap f).length ≤ (l.map g).sum
  | [], _ => by simp
  | x :: l, h => by
    rw [List.flatMap_cons, List.length_append, List.map_cons, List.sum_cons]
    have h1 := h x (by simp)
    have h2 := flat_le (l := l) (fun y hy => h y (by simp [hy]))
    omega
theorem esc1_len (f : UInt8 → Bool) (c : UInt8) : (esc1 f c).length ≤ 2 := by
  unfold esc1
  split <;> simp
theorem const_sum {α : Type} (l : List α) (k : Nat) : (l.map (fun _ => k)).sum = l.length * k := by
  induction l with
  | nil => simp
  | cons x l ih => rw [List.map_cons, List.sum_cons, ih, List.length_cons, Nat.add_mul, Nat.one_mul]; omega
theorem escL_len (f : UInt8 → Bool) (l : List UInt8) : (escL f l).length ≤ l.length * 2 := by
  have := flat_le (l := l) (f := esc1 f) (g := fun _ => 2) (fun c _ => esc1_len f c)
  rw [const_sum] at this
  exact this
theorem rgTxt_len (r : Int × Int) : (rgTxt r).length ≤ 5 := by
  unfold rgTxt bnd
  have h1 := esc1_len bndS (UInt8.ofNat r.1.toNat)
  have h2 := esc1_len bndS (UInt8.ofNat r.2.toNat)
  rw [List.length_append, List.length_append]
  split <;> split <;> simp <;> omega
theorem setTxt_len (neg : Bool) (l : List (Int × Int)) : (setTxt neg l).length ≤ 3 + l.length * 5 := by
  have := flat_le (l := l) (f := rgTxt) (g := fun _ => 5) (fun r _ => rgTxt_len r)
  rw [const_sum] at this
  unfold setTxt
  simp only [List.length_append, List.length_cons, List.length_nil]
  cases neg <;> simp only [if_true, if_false, Bool.false_eq_true, List.length_cons, List.length_nil] <;> omega
theorem lens_succ (l : List (List UInt8)) : (l.map (fun x => x.length + 1)).sum = Lib.lens l + l.length := by
  induction l with
  | nil => rfl
  | cons x l ih =>
    rw [List.map_cons, List.sum_cons, ih, List.length_cons]
    unfold Lib.lens
    rw [List.map_cons, List.sum_cons]
    omega
theorem join_len (l : List (List UInt8)) : (Lib.join l [44]).length ≤ (l.map (fun x => x.length + 1)).sum := by
  cases l with
  | nil => simp [Lib.join_nil]
  | cons x r =>
    rw [Lib.join_cons, List.length_append, Lib.joinTail_length, lens_succ]
    unfold Lib.lens
    rw [List.map_cons, List.sum_cons]
    simp only [List.length_cons, List.length_nil]
    omega
theorem txt_len : ∀ (n : Nat) (d : Bool) (xs : List (P n)), (txt n d xs).length ≤ 6 * szL n xs
  | 0, _, _ => Nat.zero_le _
  | n + 1, d, xs => by
    have h := flat_le (l := xs) (f := fun p => txtOf (fun s => txt n true s.xs) d (pt n p)) (g := fun p => 6 * sz (n + 1) p) (fun p _ => by
      have hs : sz (n + 1) p = 1 + (pt n p).text.size + (pt n p).rg.xs.length + ((pt n p).ways.xs.map (fun s => 1 + szL n s.xs)).sum := rfl
      rw [hs]
      unfold txtOf
      have e1 := escL_len (spc d) (pt n p).text.data.toList
      have e2 : (pt n p).text.data.toList.length = (pt n p).text.size := (Lib.size_eq _).symm
      have e3 := setTxt_len (pt n p).neg (pt n p).rg.xs
      have e4 := join_len ((pt n p).ways.xs.map (fun s => txt n true s.xs))
      have e5 : (((pt n p).ways.xs.map (fun s => txt n true s.xs)).map (fun x => x.length + 1)).sum ≤ 6 * ((pt n p).ways.xs.map (fun s => 1 + szL n s.xs)).sum := by
        rw [List.map_map]
        have := sum_mono (xs := (pt n p).ways.xs) (f := (fun x : List UInt8 => x.length + 1) ∘ (fun s => txt n true s.xs)) (g := fun s => 6 * (1 + szL n s.xs)) (fun s _ => by
          have := txt_len n true s.xs
          show (txt n true s.xs).length + 1 ≤ _
          omega)
        have hm : ((pt n p).ways.xs.map (fun s => 6 * (1 + szL n s.xs))).sum = 6 * ((pt n p).ways.xs.map (fun s => 1 + szL n s.xs)).sum := by
          generalize (pt n p).ways.xs = l
          induction l with
          | nil => rfl
          | cons a l ih => rw [List.map_cons, List.sum_cons, List.map_cons, List.sum_cons, ih]; omega
        omega
      split
      · omega
      split
      · simp; omega
      split
      · simp; omega
      split
      · simp; omega
      split
      · omega
      split
      · unfold waysTxt
        simp only [List.length_append, List.length_cons, List.length_nil]
        omega
      · simp)
    have hm : (xs.map (fun p => 6 * sz (n + 1) p)).sum = 6 * szL (n + 1) xs := by
      unfold szL
      generalize xs = l
      induction l with
      | nil => rfl
      | cons a l ih => rw [List.map_cons, List.sum_cons, List.map_cons, List.sum_cons, ih]; omega
    rw [hm] at h
    exact h
end Go.Proofs.YtnpcbcnclncniaaGreatDoor
