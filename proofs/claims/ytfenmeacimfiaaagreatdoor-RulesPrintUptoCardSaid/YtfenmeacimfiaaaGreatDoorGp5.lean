/-
  A glob read from its text, in plain words: both ways to find the slash at the end; and what is printed of a glob is read as the glob.
-/
import Derived.Test.YtfenmeacimfiaaaGreatDoorGp3
import Derived.Test.YtfenmeacimfiaaaGreatDoorGp4
namespace Wh.G

def odd (b : Bool) (l : List UInt8) : Bool := l.foldl (fun b c => c == 92 && !b) b
theorem odd_app (b : Bool) (l m : List UInt8) : odd b (l ++ m) = odd (odd b l) m := List.foldl_append
/-- A reader takes no half of a quoted byte. -/
def Par {α : Type} (f : List UInt8 → Rd α) (l : List UInt8) : Prop := ∀ a q, f l = .ok a q → ∃ u, l = u ++ q ∧ odd false u = false
theorem bnd_par (l : List UInt8) : Par bnd l := by
  intro a q h
  cases l with
  | nil => cases h
  | cons c r =>
    simp only [bnd] at h
    split at h
    · rename_i hc
      subst hc
      cases r with
      | nil => cases h
      | cons x r =>
        dsimp only at h
        split at h
        · cases h
        · injection h with _ h
          subst h
          refine ⟨[92, x], rfl, ?_⟩
          show (x == 92 && !(92 == 92 && !false)) = false
          simp
    · rename_i hc
      split at h
      · cases h
      · injection h with _ h
        subst h
        refine ⟨[c], rfl, ?_⟩
        show (c == 92 && !false) = false
        simp [hc]
theorem rng2_par (a : UInt8) (l : List UInt8) : Par (rng2 a) l := by
  intro x q h
  by_cases hl : l.head? = some 45
  · obtain ⟨r, rfl⟩ : ∃ r, l = 45 :: r := by
      cases l with
      | nil => cases hl
      | cons c r => injection hl with hl; exact ⟨r, by rw [hl]⟩
    rw [rng2_hyphen] at h
    unfold rng3 at h
    cases hb : bnd r with
    | bad s => rw [hb] at h; cases h
    | ok b s =>
      rw [hb] at h
      obtain ⟨u, rfl, hu⟩ := bnd_par r _ _ hb
      have h : (if b.toNat < a.toNat then Rd.bad (b :: s) else .ok ((a.toNat : Int), (b.toNat : Int)) s) = .ok x q := h
      split at h
      · cases h
      · injection h with _ h
        subst h
        exact ⟨45 :: u, rfl, hu⟩
  · rw [rng2_other a hl] at h
    injection h with _ h
    subst h
    exact ⟨[], rfl, rfl⟩
theorem rng_par (l : List UInt8) : Par rng l := by
  intro x q h
  rw [rng_bind] at h
  cases hb : bnd l with
  | bad s => rw [hb] at h; cases h
  | ok b s =>
    rw [hb] at h
    obtain ⟨u, rfl, hu⟩ := bnd_par l _ _ hb
    obtain ⟨v, rfl, hv⟩ := rng2_par b s x q h
    exact ⟨u ++ v, by simp, by rw [odd_app, hu, hv]⟩
theorem setGo_par : ∀ (n : Nat) (acc : List (Int × Int)) (l : List UInt8), Par (setGo n acc) l
  | 0, acc, l, x, q, h => by
    injection h with _ h
    exact ⟨[], by rw [← h]; rfl, rfl⟩
  | n + 1, acc, l, x, q, h => by
    unfold setGo at h
    split at h
    · rename_i hc
      injection h with _ h
      obtain ⟨r, rfl⟩ : ∃ r, l = 93 :: r := by
        cases l with
        | nil => cases hc.2
        | cons c r => have := hc.2; injection this with this; exact ⟨r, by rw [this]⟩
      exact ⟨[93], by rw [← h]; rfl, rfl⟩
    · split at h
      · cases h
      · rename_i y s hr
        obtain ⟨u, rfl, hu⟩ := rng_par l _ _ hr
        obtain ⟨v, rfl, hv⟩ := setGo_par n _ s _ _ h
        exact ⟨u ++ v, by simp, by rw [odd_app, hu, hv]⟩
theorem setR_par (l : List UInt8) : Par setR l := by
  intro p q h
  by_cases hl : l.head? = some 94
  · obtain ⟨r, rfl⟩ : ∃ r, l = 94 :: r := by
      cases l with
      | nil => cases hl
      | cons c r => injection hl with hl; exact ⟨r, by rw [hl]⟩
    rw [setR_pos hl] at h
    replace h : (SG [] r).bind (fun x q => Rd.ok (GP.set true (canonOf x)) q) = .ok p q := h
    cases hb : SG [] r with
    | bad s => rw [hb] at h; cases h
    | ok b s =>
      rw [hb] at h
      obtain ⟨u, rfl, hu⟩ := setGo_par _ _ r _ _ hb
      injection h with _ h
      subst h
      exact ⟨94 :: u, rfl, hu⟩
  · rw [setR_neg hl] at h
    cases hb : SG [] l with
    | bad s => rw [hb] at h; cases h
    | ok b s =>
      rw [hb] at h
      obtain ⟨u, rfl, hu⟩ := setGo_par _ _ l _ _ hb
      injection h with _ h
      subst h
      exact ⟨u, rfl, hu⟩
theorem PL_end : ∀ (n : Nat) (d : Bool) (acc : List GP) (l : List UInt8) (a : List GP) (q : List UInt8), l.length ≤ n → PL d acc l = .ok a q → q = [] ∨ (d = true ∧ (q.head? = some 44 ∨ q.head? = some 125))
  | _, _, _, [], _, _, _, h => by
    rw [PL_nil] at h
    injection h with _ h
    exact .inl h.symm
  | 0, _, _, _ :: _, _, _, hn, _ => by simp at hn
  | n + 1, d, acc, c :: r, a, q, hn, h => by
    simp only [List.length_cons] at hn
    have key : ∀ (acc : List GP) (s : List UInt8), s.length ≤ r.length → PL d acc s = .ok a q → q = [] ∨ (d = true ∧ (q.head? = some 44 ∨ q.head? = some 125)) := fun acc s hs h => PL_end n d acc s a q (by omega) h
    have tl : r.tail.length ≤ r.length := by rw [List.length_tail]; omega
    rw [PL_bind] at h
    split at h
    · rename_i hc
      injection h with _ h
      subst h
      exact .inr ⟨hc.1, hc.2.elim (fun e => .inl (by rw [e]; rfl)) (fun e => .inr (by rw [e]; rfl))⟩
    split at h
    · exact key _ r (Nat.le_refl _) h
    split at h
    · split at h
      · split at h
        · cases h
        · exact key _ r.tail tl h
      · exact key _ r (Nat.le_refl _) h
    split at h
    · cases hb : setR r with
      | bad s => rw [hb] at h; cases h
      | ok p s =>
        rw [hb] at h
        exact key _ s (setR_len hb) h
    split at h
    · cases hb : WL [] r with
      | bad s => rw [hb] at h; cases h
      | ok p s =>
        rw [hb] at h
        exact key _ s (WL_len hb) h
    split at h
    · split at h
      · cases h
      · split at h
        · cases h
        · exact key _ r.tail tl h
    split at h
    · cases h
    · exact key _ r (Nat.le_refl _) h
theorem PL_stop {acc a : List GP} {l : List UInt8} {c : UInt8} {s : List UInt8} (h : PL true acc l = .ok a (c :: s)) (hc : ¬ (c = 44 ∨ c = 125)) : False := by
  rcases PL_end _ true acc l a _ (Nat.le_refl _) h with h | ⟨_, h | h⟩
  · cases h
  · injection h with h; exact hc (.inl h)
  · injection h with h; exact hc (.inr h)
theorem PL_whole {acc a : List GP} {l q : List UInt8} (h : PL false acc l = .ok a q) : q = [] := by
  rcases PL_end _ false acc l a _ (Nat.le_refl _) h with h | ⟨h, _⟩
  · exact h
  · cases h
theorem read_par (n : Nat) : (∀ (d : Bool) (acc : List GP) (l : List UInt8), 2 * l.length ≤ n → Par (PL d acc) l) ∧ (∀ (ws : List (List GP)) (l : List UInt8), 2 * l.length + 1 ≤ n → Par (WL ws) l) := by
  induction n with
  | zero =>
    refine ⟨fun d acc l hn a q h => ?_, fun ws l hn => by omega⟩
    obtain rfl : l = [] := List.eq_nil_of_length_eq_zero (by omega)
    rw [PL_nil] at h
    injection h with _ h
    exact ⟨[], by rw [← h]; rfl, rfl⟩
  | succ n ih =>
    obtain ⟨ih1, ih2⟩ := ih
    refine ⟨fun d acc l hn a q h => ?_, fun ws l hn a q h => ?_⟩
    · cases l with
      | nil =>
        rw [PL_nil] at h
        injection h with _ h
        exact ⟨[], by rw [← h]; rfl, rfl⟩
      | cons c r =>
        simp only [List.length_cons] at hn
        have key : ∀ (u : List UInt8) (acc : List GP) (s : List UInt8), c :: r = u ++ s → odd false u = false → s.length ≤ r.length → PL d acc s = .ok a q → ∃ u, c :: r = u ++ q ∧ odd false u = false := fun u acc s e hu hs h => by
          obtain ⟨v, rfl, hv⟩ := ih1 d acc s (by omega) a q h
          exact ⟨u ++ v, by rw [e]; simp, by rw [odd_app, hu, hv]⟩
        rw [PL_bind] at h
        by_cases k1 : d = true ∧ (c = 44 ∨ c = 125)
        · rw [if_pos k1] at h
          injection h with _ h
          exact ⟨[], by rw [← h]; rfl, rfl⟩
        rw [if_neg k1] at h
        by_cases k2 : c = 63
        · rw [if_pos k2] at h
          subst k2
          exact key [63] _ r rfl rfl (Nat.le_refl _) h
        rw [if_neg k2] at h
        by_cases k3 : c = 42
        · rw [if_pos k3] at h
          subst k3
          by_cases hx : r.head? = some 42
          · rw [if_pos hx] at h
            obtain ⟨s, rfl⟩ : ∃ s, r = 42 :: s := by
              cases r with
              | nil => cases hx
              | cons c r => injection hx with hx; exact ⟨r, by rw [hx]⟩
            by_cases hy : (42 :: s).tail.head? = some 42
            · rw [if_pos hy] at h
              cases h
            · rw [if_neg hy] at h
              exact key [42, 42] _ s rfl rfl (by simp) h
          · rw [if_neg hx] at h
            exact key [42] _ r rfl rfl (Nat.le_refl _) h
        rw [if_neg k3] at h
        by_cases k4 : c = 91
        · rw [if_pos k4] at h
          subst k4
          cases hb : setR r with
          | bad s => rw [hb] at h; cases h
          | ok p s =>
            rw [hb] at h
            obtain ⟨u, hr, hu⟩ := setR_par r _ _ hb
            exact key (91 :: u) _ s (by rw [hr]; rfl) hu (by rw [hr]; simp) h
        rw [if_neg k4] at h
        by_cases k5 : c = 123
        · rw [if_pos k5] at h
          subst k5
          cases hb : WL [] r with
          | bad s => rw [hb] at h; cases h
          | ok p s =>
            rw [hb] at h
            obtain ⟨u, hr, hu⟩ := ih2 [] r (by omega) _ _ hb
            exact key (123 :: u) _ s (by rw [hr]; rfl) hu (by rw [hr]; simp) h
        rw [if_neg k5] at h
        by_cases k6 : c = 92
        · rw [if_pos k6] at h
          subst k6
          cases r with
          | nil => cases h
          | cons x s =>
            have n1 : ¬ (x :: s = []) := by simp
            rw [if_neg n1] at h
            split at h
            · cases h
            · refine key [92, x] _ s rfl ?_ (by simp) h
              show (x == 92 && !(92 == 92 && !false)) = false
              simp
        rw [if_neg k6] at h
        by_cases k7 : c = 0 ∨ c = 93 ∨ c = 125
        · rw [if_pos k7] at h; cases h
        rw [if_neg k7] at h
        refine key [c] _ r rfl ?_ (Nat.le_refl _) h
        show (c == 92 && !false) = false
        simp [k6]
    · rw [WL_bind] at h
      cases hb : PL true [] l with
      | bad s => rw [hb] at h; cases h
      | ok p s =>
        rw [hb] at h
        obtain ⟨u, hr, hu⟩ := ih1 true [] l (by omega) _ _ hb
        have h : (if s = [] then Rd.bad [] else if s.head? = some 44 then WL (ws ++ [p]) s.tail else .ok (ws ++ [p]) s.tail) = .ok a q := h
        split at h
        · cases h
        · cases s with
          | nil => rename_i hn; exact absurd rfl hn
          | cons c s =>
            have hlen := congrArg List.length hr
            simp only [List.length_append, List.length_cons] at hlen
            split at h
            · rename_i hc
              injection hc with hc
              subst hc
              obtain ⟨v, hv, hv2⟩ := ih2 _ s (by omega) _ _ h
              refine ⟨u ++ 44 :: v, by rw [hr, hv]; simp, ?_⟩
              rw [odd_app, hu]
              exact hv2
            · injection h with _ h
              subst h
              by_cases hc : c = 92
              · -- a way ends at no backslash
                subst hc
                exfalso
                exact PL_stop hb (by decide)
              · refine ⟨u ++ [c], by rw [hr]; simp, ?_⟩
                rw [odd_app, hu]
                show (c == 92 && !false) = false
                simp [hc]
theorem PL_odd {acc a : List GP} {l q : List UInt8} (h : PL false acc l = .ok a q) : odd false l = false := by
  obtain ⟨u, hl, hu⟩ := (read_par (2 * l.length)).1 false acc l (Nat.le_refl _) a q h
  rw [PL_whole h, List.append_nil] at hl
  rw [hl]
  exact hu

/-- What a reader of a glob says. -/
inductive GR where
  | err (at' : Nat)
  | ok (rooted dirs : Bool) (l : List GP)
def rootOf (t : List UInt8) : Bool := t.head? == some 47
def bodyOf (t : List UInt8) : List UInt8 := if rootOf t then t.tail else t
noncomputable def plainG (t : List UInt8) : GR :=
  match PL false [] (bodyOf t) with
  | .bad r => .err (t.length - r.length)
  | .ok [] _ => .err t.length
  | .ok (p :: l) _ => .ok (rootOf t) false (p :: l)
noncomputable def readG (t : List UInt8) : GR :=
  if (bodyOf t).getLast? = some 47 then
    match PL false [] (bodyOf t).dropLast with
    | .ok [] _ => .err t.length
    | .ok (p :: l) _ => .ok (rootOf t) true (p :: l)
    | .bad _ => plainG t
  else plainG t
/-- A fault ahead of the slash at the end. -/
theorem plainG_inner {t r : List UInt8} (hl : (bodyOf t).getLast? = some 47) (h : PL false [] (bodyOf t).dropLast = .bad r) (hr : r ≠ []) : plainG t = .err (t.length - (r.length + 1)) := by
  have hb : (bodyOf t).dropLast ++ [47] = bodyOf t := by
    obtain ⟨ys, hy⟩ := List.getLast?_eq_some_iff.1 hl
    rw [hy, List.dropLast_concat]
  have := PL_ext false [] (bodyOf t).dropLast (by rw [h]; exact hr) [47]
  rw [h, hb] at this
  unfold plainG
  rw [this]
  show GR.err (t.length - (r ++ [47]).length) = _
  rw [List.length_append]
  rfl
/-- What is read ahead of a slash that is no quoted one. -/
theorem inner_even {t : List UInt8} {l : List GP} {q : List UInt8} (h : PL false [] (bodyOf t).dropLast = .ok l q) (hne : bodyOf t ≠ []) : odd false t.dropLast = false := by
  have h1 := PL_odd h
  unfold bodyOf at h1 hne
  cases hr : rootOf t
  · rw [hr] at h1
    exact h1
  · rw [hr, if_pos rfl] at h1 hne
    cases t with
    | nil => cases hr
    | cons c r =>
      have hc : c = 47 := by
        unfold rootOf at hr
        have : some c = some 47 := by simpa using hr
        injection this
      subst hc
      cases r with
      | nil => exact absurd rfl hne
      | cons x r => exact h1
end Wh.G
