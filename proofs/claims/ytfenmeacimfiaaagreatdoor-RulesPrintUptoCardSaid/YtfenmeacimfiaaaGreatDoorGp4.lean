/-
  Globs read from their text, in plain words: what stands behind does not matter to a reader that does not come to the end.
-/
import Derived.Test.YtfenmeacimfiaaaGreatDoorGp2
namespace Wh.G

def Rd.rest {α : Type} : Rd α → List UInt8
  | .ok _ r => r
  | .bad r => r
def Rd.app {α : Type} (s : List UInt8) : Rd α → Rd α
  | .ok a r => .ok a (r ++ s)
  | .bad r => .bad (r ++ s)
def Rd.bind {α β : Type} (m : Rd α) (k : α → List UInt8 → Rd β) : Rd β :=
  match m with
  | .ok a r => k a r
  | .bad r => .bad r
/-- More text behind does not matter, if the reader leaves something. -/
def Ext {α : Type} (f : List UInt8 → Rd α) (l : List UInt8) : Prop := (f l).rest ≠ [] → ∀ s, f (l ++ s) = (f l).app s
theorem bind_ext {α β : Type} {g : List UInt8 → Rd α} {k : α → List UInt8 → Rd β} {l : List UInt8} (hg : Ext g l) (hk : ∀ a q, g l = .ok a q → (q = [] → (k a q).rest = []) ∧ Ext (k a) q) : Ext (fun l => (g l).bind k) l := by
  intro h s
  show (g (l ++ s)).bind k = ((g l).bind k).app s
  have h : ((g l).bind k).rest ≠ [] := h
  cases hgl : g l with
  | ok a q =>
    rw [hgl] at h
    have h : (k a q).rest ≠ [] := h
    obtain ⟨h1, h2⟩ := hk a q hgl
    have hq : q ≠ [] := fun e => h (h1 e)
    rw [hg (by rw [hgl]; exact hq) s, hgl]
    exact h2 h s
  | bad r =>
    rw [hgl] at h
    rw [hg (by rw [hgl]; exact h) s, hgl]
    rfl

theorem bnd_ext (l : List UInt8) : Ext bnd l := by
  intro h s
  cases l with
  | nil => exact absurd rfl h
  | cons c r =>
    simp only [bnd, List.cons_append] at h ⊢
    split at h
    · rename_i hc
      rw [if_pos hc, if_pos hc]
      cases r with
      | nil => exact absurd rfl h
      | cons x q =>
        simp only [List.cons_append]
        split <;> rfl
    · rename_i hc
      rw [if_neg hc, if_neg hc]
      split <;> rfl
def rng3 (a : UInt8) (q : List UInt8) : Rd (Int × Int) := (bnd q).bind (fun b s => if b.toNat < a.toNat then .bad (b :: s) else .ok (a.toNat, b.toNat) s)
theorem rng2_hyphen (a : UInt8) (q : List UInt8) : rng2 a (45 :: q) = rng3 a q := by
  simp only [rng2, rng3, Rd.bind]
  cases bnd q <;> rfl
theorem rng2_other (a : UInt8) {l : List UInt8} (h : l.head? ≠ some 45) : rng2 a l = .ok (a.toNat, a.toNat) l := by
  unfold rng2
  split
  · exact absurd rfl h
  · rfl
theorem rng2_ext (a : UInt8) (l : List UInt8) : Ext (rng2 a) l := by
  intro h s
  cases l with
  | nil => exact absurd rfl h
  | cons c r =>
    by_cases hc : c = 45
    · subst hc
      rw [List.cons_append, rng2_hyphen, rng2_hyphen]
      rw [rng2_hyphen] at h
      by_cases hr : ∃ b q, bnd r = .ok b q
      · obtain ⟨b, q, hb⟩ := hr
        unfold rng3 at h ⊢
        rw [hb] at h ⊢
        have hq : b.toNat < a.toNat ∨ q ≠ [] := by
          by_cases hlt : b.toNat < a.toNat
          · exact .inl hlt
          · refine .inr fun e => h ?_
            subst e
            show (if b.toNat < a.toNat then Rd.bad (b :: []) else .ok (_, _) []).rest = []
            rw [if_neg hlt]
            rfl
        have key : bnd (r ++ s) = .ok b (q ++ s) := by
          rcases List.eq_nil_or_concat q with rfl | ⟨_, _, rfl⟩
          · -- a bound takes just its bytes
            cases r with
            | nil => cases hb
            | cons y z =>
              simp only [bnd, List.cons_append] at hb ⊢
              split at hb
              · rename_i hy
                rw [if_pos hy]
                cases z with
                | nil => cases hb
                | cons u v =>
                  simp only [List.cons_append] at hb ⊢
                  split at hb
                  · cases hb
                  · rename_i hu
                    rw [if_neg hu]
                    injection hb with e1 e2
                    subst e1 e2
                    rfl
              · rename_i hy
                rw [if_neg hy]
                split at hb
                · cases hb
                · rename_i hu
                  rw [if_neg hu]
                  injection hb with e1 e2
                  subst e1 e2
                  rfl
          · have := bnd_ext r (by rw [hb]; simp [Rd.rest]) s
            rw [hb] at this
            exact this
        rw [key]
        show (if b.toNat < a.toNat then Rd.bad (b :: (q ++ s)) else .ok (_, _) (q ++ s)) = Rd.app s (if b.toNat < a.toNat then Rd.bad (b :: q) else .ok (_, _) q)
        split <;> rfl
      · obtain ⟨q, hb⟩ : ∃ q, bnd r = .bad q := by
          cases hb : bnd r with
          | ok b q => exact absurd ⟨b, q, hb⟩ hr
          | bad q => exact ⟨q, rfl⟩
        unfold rng3 at h ⊢
        rw [hb] at h ⊢
        have := bnd_ext r (by rw [hb]; exact h) s
        rw [hb] at this
        rw [this]
        rfl
    · have h1 : ∀ z : List UInt8, (c :: z).head? ≠ some 45 := fun z e => hc (by injection e)
      rw [List.cons_append, rng2_other a (h1 _), rng2_other a (h1 _)]
      rfl
theorem rng_bind (l : List UInt8) : rng l = (bnd l).bind rng2 := by
  unfold rng Rd.bind
  cases bnd l <;> rfl
theorem rng2_nil (a : UInt8) : (rng2 a []).rest = [] := rfl
theorem rng_ext (l : List UInt8) : Ext rng l := by
  have : Ext (fun l => (bnd l).bind rng2) l := bind_ext (bnd_ext l) (fun a q _ => ⟨fun e => by subst e; rfl, rng2_ext a q⟩)
  intro h s
  rw [rng_bind] at h ⊢
  rw [rng_bind]
  exact this h s

theorem setGo_fuel : ∀ (n m : Nat) (acc : List (Int × Int)) (l : List UInt8), l.length < n → l.length < m → setGo n acc l = setGo m acc l
  | 0, _, _, _, h, _ => by omega
  | n + 1, 0, _, _, _, h => by omega
  | n + 1, m + 1, acc, l, h1, h2 => by
    unfold setGo
    split
    · rfl
    · split
      · rfl
      · rename_i x q hr
        have := rng_len hr
        exact setGo_fuel n m _ _ (by omega) (by omega)
/-- The ranges of a set, without fuel. -/
def SG (acc : List (Int × Int)) (l : List UInt8) : Rd (List (Int × Int)) := setGo (l.length + 1) acc l
theorem SG_eq (n : Nat) (acc : List (Int × Int)) (l : List UInt8) (h : l.length < n) : setGo n acc l = SG acc l := setGo_fuel _ _ _ _ h (Nat.lt_succ_self _)
theorem SG_unf (acc : List (Int × Int)) (l : List UInt8) : SG acc l = if acc ≠ [] ∧ l.head? = some 93 then .ok acc l.tail else (rng l).bind (fun x q => SG (acc ++ [x]) q) := by
  show setGo (l.length + 1) acc l = _
  unfold setGo
  split
  · rfl
  · split
    · rename_i hr
      rw [hr]
      rfl
    · rename_i x q hr
      rw [hr]
      have := rng_len hr
      exact SG_eq _ _ _ (by omega)
theorem rng_nil : rng [] = .bad [] := rfl
theorem SG_nil (acc : List (Int × Int)) : SG acc [] = .bad [] := by
  rw [SG_unf, if_neg (by rintro ⟨_, h⟩; cases h), rng_nil]
  rfl
theorem SG_ext : ∀ (n : Nat) (acc : List (Int × Int)) (l : List UInt8), l.length < n → Ext (SG acc) l
  | 0, _, _, h => by omega
  | n + 1, acc, l, hn => by
    intro h s
    cases l with
    | nil => exact absurd (by rw [SG_nil]; rfl) h
    | cons c r =>
      rw [SG_unf] at h ⊢
      rw [SG_unf acc (c :: r)]
      by_cases hc : acc ≠ [] ∧ (c :: r).head? = some 93
      · rw [if_pos hc, if_pos ⟨hc.1, hc.2⟩]
        rfl
      · rw [if_neg hc] at h
        rw [if_neg hc, if_neg (fun h2 => hc ⟨h2.1, h2.2⟩)]
        exact bind_ext (g := rng) (k := fun x q => SG (acc ++ [x]) q) (rng_ext _) (fun x q hr => ⟨fun e => by subst e; rw [SG_nil]; rfl, SG_ext n _ q (by have := rng_len hr; simp only [List.length_cons] at hn this; omega)⟩) h s
theorem setR_pos {l : List UInt8} (h : l.head? = some 94) : setR l = (SG [] l.tail).bind (fun x q => .ok (.set true (canonOf x)) q) := by
  unfold setR
  rw [SG_eq _ [] l.tail (by rw [List.length_tail]; omega), if_pos h, decide_eq_true h]
  cases SG [] l.tail <;> rfl
theorem setR_neg {l : List UInt8} (h : l.head? ≠ some 94) : setR l = (SG [] l).bind (fun x q => .ok (.set false (canonOf x)) q) := by
  unfold setR
  rw [SG_eq _ [] l (Nat.lt_succ_self _), if_neg h, decide_eq_false h]
  cases SG [] l <;> rfl
theorem setR_ext (l : List UInt8) : Ext setR l := by
  intro h s
  cases l with
  | nil =>
    rw [setR_neg (by decide), SG_nil] at h
    exact absurd rfl h
  | cons c r =>
    by_cases hc : (c :: r).head? = some 94
    · have hc' : (c :: r ++ s).head? = some 94 := hc
      rw [setR_pos hc] at h ⊢
      rw [setR_pos hc']
      exact bind_ext (g := SG []) (k := fun x q => Rd.ok (GP.set true (canonOf x)) q) (SG_ext _ [] r (Nat.lt_succ_self _)) (fun x q _ => ⟨fun e => e, fun _ _ => rfl⟩) h s
    · have hc' : (c :: r ++ s).head? ≠ some 94 := hc
      rw [setR_neg hc] at h ⊢
      rw [setR_neg hc']
      exact bind_ext (g := SG []) (k := fun x q => Rd.ok (GP.set false (canonOf x)) q) (SG_ext _ [] (c :: r) (Nat.lt_succ_self _)) (fun x q _ => ⟨fun e => e, fun _ _ => rfl⟩) h s

theorem PL_bind (d : Bool) (acc : List GP) (c : UInt8) (r : List UInt8) : PL d acc (c :: r) =
    if d = true ∧ (c = 44 ∨ c = 125) then .ok acc (c :: r)
    else if c = 63 then PL d (acc ++ [.one]) r
    else if c = 42 then (if r.head? = some 42 then (if r.tail.head? = some 42 then .bad r.tail else PL d (acc ++ [.deep]) r.tail) else PL d (acc ++ [.star]) r)
    else if c = 91 then (setR r).bind (fun p q => PL d (acc ++ [p]) q)
    else if c = 123 then (WL [] r).bind (fun w q => PL d (acc ++ [.ways w]) q)
    else if c = 92 then (if r = [] then .bad [] else if r.head? = some 0 then .bad r else PL d (addT acc (r.headD 0)) r.tail)
    else if c = 0 ∨ c = 93 ∨ c = 125 then .bad (c :: r)
    else PL d (addT acc c) r := by
  rw [PL_cons]
  have e1 : (match setR r with | .bad s => Rd.bad s | .ok p q => PL d (acc ++ [p]) q) = (setR r).bind (fun p q => PL d (acc ++ [p]) q) := by cases setR r <;> rfl
  have e2 : (match WL [] r with | .bad s => Rd.bad s | .ok w q => PL d (acc ++ [.ways w]) q) = (WL [] r).bind (fun w q => PL d (acc ++ [.ways w]) q) := by cases WL [] r <;> rfl
  have e3 : (match r with | [] => Rd.bad [] | x :: q => if x = 0 then Rd.bad (x :: q) else PL d (addT acc x) q) = (if r = [] then .bad [] else if r.head? = some 0 then .bad r else PL d (addT acc (r.headD 0)) r.tail) := by
    cases r with
    | nil => rfl
    | cons x q =>
      rw [if_neg (by simp)]
      by_cases hx : x = 0
      · subst hx; rfl
      · show (if x = 0 then _ else _) = _
        rw [if_neg hx, if_neg (fun e => hx (by injection e))]
        rfl
  rw [← e1, ← e2, ← e3]
  rfl
theorem WL_bind (ws : List (List GP)) (l : List UInt8) : WL ws l = (PL true [] l).bind (fun p q => if q = [] then .bad [] else if q.head? = some 44 then WL (ws ++ [p]) q.tail else .ok (ws ++ [p]) q.tail) := by
  rw [WL_unf]
  cases PL true [] l with
  | bad s => rfl
  | ok p q =>
    cases q with
    | nil => rfl
    | cons c s =>
      have n1 : ¬ (c :: s = []) := by simp
      dsimp only [Rd.bind]
      rw [if_neg n1]
      by_cases hc : c = 44
      · have hx : (c :: s).head? = some 44 := by rw [hc]; rfl
        rw [if_pos hc, if_pos hx]
        rfl
      · have hx : ¬ (c :: s).head? = some 44 := fun e => hc (by injection e)
        rw [if_neg hc, if_neg hx]
        rfl
theorem read_ext (n : Nat) : (∀ (d : Bool) (acc : List GP) (l : List UInt8), 2 * l.length ≤ n → Ext (PL d acc) l) ∧ (∀ (ws : List (List GP)) (l : List UInt8), 2 * l.length + 1 ≤ n → Ext (WL ws) l) := by
  induction n with
  | zero =>
    refine ⟨fun d acc l hn h s => ?_, fun ws l hn => by omega⟩
    obtain rfl : l = [] := List.eq_nil_of_length_eq_zero (by omega)
    rw [PL_nil] at h
    exact absurd rfl h
  | succ n ih =>
    obtain ⟨ih1, ih2⟩ := ih
    refine ⟨fun d acc l hn h s => ?_, fun ws l hn h s => ?_⟩
    · cases l with
      | nil => exact absurd (by rw [PL_nil]; rfl) h
      | cons c r =>
        simp only [List.length_cons] at hn
        have key : ∀ (acc : List GP) (q : List UInt8), q.length ≤ r.length → Ext (PL d acc) q := fun acc q hq => ih1 d acc q (by omega)
        have pn : ∀ acc, (PL d acc []).rest = [] := fun acc => by rw [PL_nil]; rfl
        rw [List.cons_append, PL_bind d acc c (r ++ s)]
        rw [PL_bind] at h ⊢
        by_cases k1 : d = true ∧ (c = 44 ∨ c = 125)
        · rw [if_pos k1, if_pos k1]; rfl
        rw [if_neg k1] at h ⊢; rw [if_neg k1]
        by_cases k2 : c = 63
        · rw [if_pos k2] at h ⊢; rw [if_pos k2]
          exact key _ r (Nat.le_refl _) h s
        rw [if_neg k2] at h ⊢; rw [if_neg k2]
        by_cases k3 : c = 42
        · rw [if_pos k3] at h ⊢; rw [if_pos k3]
          cases r with
          | nil =>
            rw [if_neg (by decide)] at h
            exact absurd (pn _) h
          | cons x q =>
            by_cases hx : (x :: q).head? = some 42
            · have hx' : (x :: q ++ s).head? = some 42 := hx
              rw [if_pos hx] at h ⊢; rw [if_pos hx']
              cases q with
              | nil =>
                rw [if_neg (by simp)] at h
                exact absurd (pn _) h
              | cons y q =>
                by_cases hy : (x :: y :: q).tail.head? = some 42
                · have hy' : (x :: y :: q ++ s).tail.head? = some 42 := hy
                  rw [if_pos hy, if_pos hy']; rfl
                · have hy' : ¬ (x :: y :: q ++ s).tail.head? = some 42 := hy
                  rw [if_neg hy] at h ⊢; rw [if_neg hy']
                  exact key _ (y :: q) (by simp) h s
            · have hx' : ¬ (x :: q ++ s).head? = some 42 := hx
              rw [if_neg hx] at h ⊢; rw [if_neg hx']
              exact key _ (x :: q) (Nat.le_refl _) h s
        rw [if_neg k3] at h ⊢; rw [if_neg k3]
        by_cases k4 : c = 91
        · rw [if_pos k4] at h ⊢; rw [if_pos k4]
          exact bind_ext (g := setR) (k := fun p q => PL d (acc ++ [p]) q) (setR_ext r) (fun p q hr => ⟨fun e => by subst e; exact pn _, key _ q (setR_len hr)⟩) h s
        rw [if_neg k4] at h ⊢; rw [if_neg k4]
        by_cases k5 : c = 123
        · rw [if_pos k5] at h ⊢; rw [if_pos k5]
          exact bind_ext (g := WL []) (k := fun w q => PL d (acc ++ [.ways w]) q) (ih2 [] r (by omega)) (fun p q hr => ⟨fun e => by subst e; exact pn _, key _ q (WL_len hr)⟩) h s
        rw [if_neg k5] at h ⊢; rw [if_neg k5]
        by_cases k6 : c = 92
        · rw [if_pos k6] at h ⊢; rw [if_pos k6]
          cases r with
          | nil => exact absurd rfl h
          | cons x q =>
            have n1 : ¬ (x :: q = []) := by simp
            have n2 : ¬ (x :: q ++ s = []) := by simp
            rw [if_neg n1] at h ⊢; rw [if_neg n2]
            by_cases hx : (x :: q).head? = some 0
            · have hx' : (x :: q ++ s).head? = some 0 := hx
              rw [if_pos hx, if_pos hx']; rfl
            · have hx' : ¬ (x :: q ++ s).head? = some 0 := hx
              rw [if_neg hx] at h ⊢; rw [if_neg hx']
              exact key _ q (by simp) h s
        rw [if_neg k6] at h ⊢; rw [if_neg k6]
        by_cases k7 : c = 0 ∨ c = 93 ∨ c = 125
        · rw [if_pos k7, if_pos k7]; rfl
        rw [if_neg k7] at h ⊢; rw [if_neg k7]
        exact key _ r (Nat.le_refl _) h s
    · rw [WL_bind] at h ⊢
      rw [WL_bind]
      refine bind_ext (g := PL true []) (ih1 true [] l (by omega)) (fun p q hr => ⟨fun e => by subst e; rfl, fun h s => ?_⟩) h s
      have hq := PL_len hr
      cases q with
      | nil => exact absurd rfl h
      | cons x q =>
        have n1 : ¬ (x :: q = []) := by simp
        have n2 : ¬ (x :: q ++ s = []) := by simp
        rw [if_neg n1] at h ⊢; rw [if_neg n2]
        by_cases hx : (x :: q).head? = some 44
        · have hx' : (x :: q ++ s).head? = some 44 := hx
          rw [if_pos hx] at h ⊢; rw [if_pos hx']
          exact ih2 _ q (by simp at hq; omega) h s
        · have hx' : ¬ (x :: q ++ s).head? = some 44 := hx
          rw [if_neg hx, if_neg hx']; rfl
theorem PL_ext (d : Bool) (acc : List GP) (l : List UInt8) : Ext (PL d acc) l := (read_ext (2 * l.length)).1 d acc l (Nat.le_refl _)
end Wh.G
