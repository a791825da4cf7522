/-
  Globs, in plain words: the reference's errors and texts are the program's.
-/
import Derived.Test.YtnpcbcnclncniaaGreatDoorGlobT1
namespace Go.Proofs.YtnpcbcnclncniaaGreatDoor
open Go.RowKit

def refStep (n : Nat) (f : Sl (P n) → Int) (ks : List Int) (i : Nat) (p : P (n + 1)) : Int :=
  if (pt n p).kind < 1 ∨ 6 < (pt n p).kind then 5 else if partBad (pt n p) then 6
  else if isTxt ks i && isTxt ks ((i : Int) - 1) then 6 else if rgErr (pt n p).rg.xs ≠ 0 then rgErr (pt n p).rg.xs else firstErr ((pt n p).ways.xs.map f)
def rchkGo (n : Nat) (f : Sl (P n) → Int) (ks : List Int) : Nat → List (P (n + 1)) → Int
  | _, [] => 0
  | i, p :: r => if refStep n f ks i p = 0 then rchkGo n f ks (i + 1) r else refStep n f ks i p
/-- What the reference's checkParts returns. -/
def rchk : (n : Nat) → List (P n) → Int
  | 0, _ => 0
  | n + 1, xs => rchkGo n (fun s => rchk n s.xs) (kdL (n + 1) xs) 0 xs
theorem rchkGo_step {n : Nat} {f : Sl (P n) → Int} {ks : List Int} {xs : List (P (n + 1))} {k : Nat} {p : P (n + 1)} (h : xs[k]? = some p) : rchkGo n f ks k (xs.drop k) = if refStep n f ks k p = 0 then rchkGo n f ks (k + 1) (xs.drop (k + 1)) else refStep n f ks k p := by
  have hl := (List.getElem?_eq_some_iff.1 h).1
  rw [List.drop_eq_getElem_cons hl, (List.getElem?_eq_some_iff.1 h).2]
  rfl

theorem text_bare {α : Type} {p : PartOf α} (h1 : p.kind = 1) (h : partBad p = false) : p.rg.xs = [] ∧ p.ways.xs = [] ∧ p.text.data.toList ≠ [] := by
  unfold partBad formBad at h
  rw [if_pos h1] at h
  simp only [Bool.or_eq_false_iff, decide_eq_false_iff_not, Bool.not_not] at h
  obtain ⟨⟨⟨⟨_, a⟩, b⟩, c⟩, _⟩ := h
  rw [Lib.toList_data] at c
  refine ⟨List.length_eq_zero_iff.1 (by omega), List.length_eq_zero_iff.1 (by omega), fun e => ?_⟩
  rw [e] at c
  exact absurd c (by decide)
theorem ways_some {α : Type} {p : PartOf α} (h1 : p.kind = 6) (h : partBad p = false) : p.ways.xs ≠ [] := by
  unfold partBad formBad at h
  rw [if_neg (by omega), if_neg (by omega), if_pos h1] at h
  intro e
  rw [e] at h
  simp at h
theorem refStep_eq {n : Nat} {f : Sl (P n) → Int} {ks : List Int} {i : Nat} {p : P (n + 1)} (h : (isTxt ks i && isTxt ks ((i : Int) - 1)) = (isTxt ks i && (isTxt ks ((i : Int) - 1) || isTxt ks ((i : Int) + 1)))) : refStep n f ks i p = stepErr n f ks i p := by
  unfold refStep stepErr formErr
  rw [h]
  cases partBad (pt n p) <;> rfl
theorem isTxt_nat (ks : List Int) (i : Nat) : isTxt ks (i : Int) = (ks[i]? == some 1) := by
  unfold isTxt
  rw [decide_eq_true (by omega), Int.toNat_natCast]
  rfl
theorem rchkGo_eq {n : Nat} {f : Sl (P n) → Int} {ks : List Int} : ∀ (l : List (P (n + 1))) (i : Nat), (∀ j, ks[i + j]? = (l.map (kd (n + 1)))[j]?) → rchkGo n f ks i l = chkGo n f ks i l
  | [], _, _ => rfl
  | p :: r, i, hk => by
    have ih := rchkGo_eq (f := f) r (i + 1) (fun j => by
      have := hk (j + 1)
      rw [show i + 1 + j = i + (j + 1) by omega, this]
      rfl)
    have k0 : ks[i]? = some (pt n p).kind := hk 0
    have k1 : ks[i + 1]? = (r.map (kd (n + 1)))[0]? := hk 1
    unfold rchkGo chkGo
    by_cases hsame : (isTxt ks i && isTxt ks ((i : Int) - 1)) = (isTxt ks i && (isTxt ks ((i : Int) - 1) || isTxt ks ((i : Int) + 1)))
    · rw [refStep_eq hsame, ih]
    · have ht : isTxt ks i = true ∧ isTxt ks ((i : Int) - 1) = false ∧ isTxt ks ((i : Int) + 1) = true := by
        revert hsame
        cases isTxt ks i <;> cases isTxt ks ((i : Int) - 1) <;> cases isTxt ks ((i : Int) + 1) <;> decide
      obtain ⟨t0, t1, t2⟩ := ht
      have e0 : (pt n p).kind = 1 := by
        rw [isTxt_nat, k0] at t0
        simpa using t0
      have t2' : isTxt ks ((i + 1 : Nat) : Int) = true := by rw [← t2]; congr 1
      cases r with
      | nil =>
        rw [isTxt_nat, k1] at t2'
        simp at t2'
      | cons q r' =>
        have e1 : (pt n q).kind = 1 := by
          rw [isTxt_nat, k1] at t2'
          have : kd (n + 1) q = 1 := by simpa using t2'
          exact this
        cases hb : partBad (pt n p)
        · have hs : stepErr n f ks i p = 6 := by
            unfold stepErr formErr
            rw [if_neg (by omega), hb, if_neg (by decide), t0, t1, t2]
            rfl
          obtain ⟨g1, g2, _⟩ := text_bare e0 hb
          have hr : refStep n f ks i p = 0 := by
            unfold refStep
            rw [if_neg (by omega), hb, if_neg (by decide), t0, t1, g1, g2]
            rfl
          have hq : refStep n f ks (i + 1) q = 6 := by
            unfold refStep
            rw [if_neg (by omega)]
            cases hb2 : partBad (pt n q)
            · have t0' : isTxt ks (((i + 1 : Nat) : Int) - 1) = true := by rw [← t0]; congr 1; omega
              rw [if_neg (by decide), t2', t0']
              rfl
            · rfl
          rw [hs, hr, if_pos rfl, if_neg (by decide)]
          unfold rchkGo
          rw [hq]
          rfl
        · have hs : stepErr n f ks i p = 6 := by
            unfold stepErr formErr
            rw [if_neg (by omega), hb]
            rfl
          have hr : refStep n f ks i p = 6 := by
            unfold refStep
            rw [if_neg (by omega), hb]
            rfl
          rw [hs, hr]
          rfl
theorem rchk_eq : ∀ (n : Nat) (xs : List (P n)), rchk n xs = chk n xs
  | 0, _ => rfl
  | n + 1, xs => by
    have hf : (fun s : Sl (P n) => rchk n s.xs) = (fun s => chk n s.xs) := funext fun s => rchk_eq n s.xs
    show rchkGo n (fun s => rchk n s.xs) (kdL (n + 1) xs) 0 xs = chkGo n (fun s => chk n s.xs) (kdL (n + 1) xs) 0 xs
    rw [hf]
    exact rchkGo_eq xs 0 (fun j => by rw [Nat.zero_add]; rfl)

/-- An odd number of backslashes stands at the end. -/
def oddB (b : Bool) (l : List UInt8) : Bool := l.foldl (fun b c => c == 92 && !b) b
theorem oddB_append (b : Bool) (l m : List UInt8) : oddB b (l ++ m) = oddB (oddB b l) m := List.foldl_append
theorem oddB_last (b : Bool) (l : List UInt8) (c : UInt8) (h : (c == 92) = false) : oddB b (l ++ [c]) = false := by
  rw [oddB_append]
  show (c == 92 && _) = false
  rw [h]
  rfl
theorem odd_esc (f : UInt8 → Bool) (h : f 92 = true) : ∀ (l : List UInt8), oddB false (escL f l) = false
  | [] => rfl
  | c :: l => by
    have ih := odd_esc f h l
    show oddB false (esc1 f c ++ escL f l) = false
    rw [oddB_append]
    have : oddB false (esc1 f c) = false := by
      unfold esc1
      by_cases hc : c = 92
      · rw [hc, h]
        rfl
      · split
        · exact oddB_last _ [92] c (by simpa using hc)
        · exact oddB_last _ [] c (by simpa using hc)
    rw [this]
    exact ih
theorem odd_txtOf {α : Type} (f : Sl α → List UInt8) (d : Bool) (p : PartOf α) : oddB false (txtOf f d p) = false := by
  unfold txtOf
  split
  · exact odd_esc _ (by cases d <;> rfl) _
  split
  · rfl
  split
  · rfl
  split
  · rfl
  split
  · unfold setTxt
    exact oddB_last _ _ _ (by decide)
  split
  · unfold waysTxt
    exact oddB_last _ _ _ (by decide)
  · rfl
theorem odd_flat {α : Type} {f : α → List UInt8} (h : ∀ x, oddB false (f x) = false) : ∀ (l : List α), oddB false (l.flatMap f) = false
  | [] => rfl
  | x :: l => by rw [List.flatMap_cons, oddB_append, h x, odd_flat h l]
theorem odd_txt (n : Nat) (d : Bool) (xs : List (P n)) : oddB false (txt n d xs) = false := by
  cases n with
  | zero => rfl
  | succ n => exact odd_flat (fun p => odd_txtOf _ d (pt n p)) xs

/-- The last part is a text that ends in a slash. -/
def lastSl : (n : Nat) → List (P n) → Bool
  | 0, _ => false
  | n + 1, xs => match xs.getLast? with
    | none => false
    | some p => decide ((pt n p).kind = 1) && (pt n p).text.data.toList.getLast? == some 47
def suffN (dirs last : Bool) (s : List UInt8) : List UInt8 := if !dirs && last then s.dropLast ++ [92, 47] else s
def preG (rooted : Bool) (s : List UInt8) : List UInt8 := if !rooted && s.head? == some 47 then 92 :: s else s
def wrapG (rooted dirs : Bool) (s : List UInt8) : List UInt8 := (if rooted then 47 :: s else s) ++ (if dirs then [47] else [])
def suffR (dirs : Bool) (s : List UInt8) : List UInt8 := if !dirs && s.getLast? == some 47 && !oddB false s.dropLast then s.dropLast ++ [92, 47] else s
def gtxtN (rooted dirs : Bool) (n : Nat) (xs : List (P n)) : List UInt8 := wrapG rooted dirs (preG rooted (suffN dirs (lastSl n xs) (txt n false xs)))
def gtxtR (rooted dirs : Bool) (n : Nat) (xs : List (P n)) : List UInt8 := wrapG rooted dirs (suffR dirs (preG rooted (txt n false xs)))

theorem escL_append (f : UInt8 → Bool) (a b : List UInt8) : escL f (a ++ b) = escL f a ++ escL f b := by simp [escL]
theorem escL_last (f : UInt8 → Bool) (a : List UInt8) (c : UInt8) : (escL f (a ++ [c])).getLast? = some c := by
  rw [escL_append, List.getLast?_append]
  have : (escL f [c]).getLast? = some c := by
    unfold escL esc1
    rw [List.flatMap_cons, List.flatMap_nil, List.append_nil]
    split <;> rfl
  rw [this]
  rfl
theorem txtOf_last {α : Type} {f : Sl α → List UInt8} {d : Bool} {p : PartOf α} (hk : 1 ≤ p.kind ∧ p.kind ≤ 6) (hb : partBad p = false) :
    ∃ c, (txtOf f d p).getLast? = some c ∧ ((c == 47) = (decide (p.kind = 1) && p.text.data.toList.getLast? == some 47)) := by
  unfold txtOf
  by_cases k1 : p.kind = 1
  · rw [if_pos k1]
    obtain ⟨_, _, hne⟩ := text_bare k1 hb
    obtain ⟨a, c, hac⟩ : ∃ a c, p.text.data.toList = a ++ [c] := ⟨_, _, (List.dropLast_concat_getLast hne).symm⟩
    refine ⟨c, by rw [hac]; exact escL_last _ _ _, ?_⟩
    rw [hac, decide_eq_true k1, List.getLast?_append]
    simp
  rw [if_neg k1, decide_eq_false k1]
  by_cases k2 : p.kind = 2
  · exact ⟨63, by rw [if_pos k2]; rfl, rfl⟩
  rw [if_neg k2]
  by_cases k3 : p.kind = 3
  · exact ⟨42, by rw [if_pos k3]; rfl, rfl⟩
  rw [if_neg k3]
  by_cases k4 : p.kind = 4
  · exact ⟨42, by rw [if_pos k4]; rfl, rfl⟩
  rw [if_neg k4]
  by_cases k5 : p.kind = 5
  · exact ⟨93, by rw [if_pos k5]; unfold setTxt; rw [List.getLast?_append]; rfl, rfl⟩
  rw [if_neg k5, if_pos (by omega)]
  exact ⟨125, by unfold waysTxt; rw [List.getLast?_append]; rfl, rfl⟩
theorem txt_ends (n : Nat) (d : Bool) (xs : List (P n)) (hg : Good n xs) (hne : xs ≠ []) : ∃ c, (txt n d xs).getLast? = some c ∧ (c == 47) = lastSl n xs := by
  cases n with
  | zero =>
    cases xs with
    | nil => exact absurd rfl hne
    | cons x _ => exact nomatch x
  | succ n =>
    obtain ⟨a, p, hap⟩ : ∃ a p, xs = a ++ [p] := ⟨_, _, (List.dropLast_concat_getLast hne).symm⟩
    obtain ⟨h1, h2, _⟩ := hg p (by rw [hap]; simp)
    obtain ⟨c, hc, he⟩ := txtOf_last (f := fun s => txt n true s.xs) (d := d) h1 h2
    refine ⟨c, ?_, ?_⟩
    · show (xs.flatMap _).getLast? = _
      rw [hap, List.flatMap_append, List.getLast?_append]
      have : ([p].flatMap (fun p => txtOf (fun s => txt n true s.xs) d (pt n p))).getLast? = some c := by simpa using hc
      rw [this]
      rfl
    · rw [he]
      unfold lastSl
      rw [hap]
      simp
theorem txt_slash (n : Nat) (d : Bool) (xs : List (P n)) (h : lastSl n xs = true) : ∃ s0, txt n d xs = s0 ++ [47] ∧ oddB false s0 = false := by
  cases n with
  | zero => exact absurd h Bool.false_ne_true
  | succ n =>
    have hne : xs ≠ [] := by
      rintro rfl
      exact absurd h Bool.false_ne_true
    obtain ⟨a, p, hap⟩ : ∃ a p, xs = a ++ [p] := ⟨_, _, (List.dropLast_concat_getLast hne).symm⟩
    unfold lastSl at h
    rw [hap] at h
    simp only [List.getLast?_append, List.getLast?_singleton, Option.some_or, Bool.and_eq_true, decide_eq_true_eq, beq_iff_eq] at h
    obtain ⟨k1, hl⟩ := h
    have hne2 : (pt n p).text.data.toList ≠ [] := by
      intro e
      rw [e] at hl
      exact absurd hl (by decide)
    obtain ⟨t, c, htc⟩ : ∃ t c, (pt n p).text.data.toList = t ++ [c] := ⟨_, _, (List.dropLast_concat_getLast hne2).symm⟩
    rw [htc, List.getLast?_append] at hl
    obtain rfl : c = 47 := by simpa using hl
    refine ⟨txt (n + 1) d a ++ escL (spc d) t, ?_, ?_⟩
    · show xs.flatMap _ = _
      rw [hap, List.flatMap_append, List.append_assoc]
      congr 1
      show txtOf _ d (pt n p) ++ [] = _
      rw [List.append_nil]
      unfold txtOf
      rw [if_pos k1, htc, escL_append]
      congr 1
      cases d <;> rfl
    · rw [oddB_append, odd_txt (n + 1) d a]
      exact odd_esc _ (by cases d <;> rfl) _
/-- The two texts of a glob are one. -/
theorem gtxt_eq (rooted dirs : Bool) (n : Nat) (xs : List (P n)) (hg : Good n xs) (hne : xs ≠ []) : gtxtR rooted dirs n xs = gtxtN rooted dirs n xs := by
  unfold gtxtR gtxtN
  congr 1
  obtain ⟨c, hc, he⟩ := txt_ends n false xs hg hne
  cases hd : dirs
  case true => simp [suffN, suffR]
  cases hL : lastSl n xs
  · have hc47 : (c == 47) = false := by rw [he, hL]
    have hlast : (preG rooted (txt n false xs)).getLast? = some c := by
      unfold preG
      split
      · rw [List.getLast?_cons, hc]
        rfl
      · exact hc
    unfold suffR suffN
    rw [hlast]
    have : (some c == some (47 : UInt8)) = false := by simpa using hc47
    rw [this]
    simp
  · obtain ⟨s0, hs, ho⟩ := txt_slash n false xs hL
    rw [hs]
    unfold suffN
    have hd0 : (s0 ++ [47]).dropLast = s0 := by simp
    simp only [Bool.not_false, Bool.and_true, if_true, hd0]
    cases hr : rooted
    case true =>
      unfold suffR preG
      simp [ho]
    cases s0 with
    | nil => rfl
    | cons x s0 =>
      by_cases hx : x = 47
      · subst hx
        have ho2 : oddB false (92 :: 47 :: s0) = false := ho
        unfold suffR preG
        simp only [List.cons_append, List.head?_cons, Bool.not_false, Bool.true_and, beq_self_eq_true, if_true]
        have hd1 : (92 :: 47 :: (s0 ++ [(47 : UInt8)])).dropLast = 92 :: 47 :: s0 := by
          rw [show (92 :: 47 :: (s0 ++ [(47 : UInt8)])) = (92 :: 47 :: s0) ++ [47] from rfl, List.dropLast_concat]
        have hl1 : (92 :: 47 :: (s0 ++ [(47 : UInt8)])).getLast? = some 47 := by
          rw [show (92 :: 47 :: (s0 ++ [(47 : UInt8)])) = (92 :: 47 :: s0) ++ [47] from rfl, List.getLast?_concat]
        rw [hd1, hl1, ho2]
        rfl
      · have hx' : (some x == some (47 : UInt8)) = false := by simpa using hx
        unfold suffR preG
        simp only [List.cons_append, List.head?_cons, hx', Bool.and_false, Bool.false_eq_true, if_false]
        have hd1 : (x :: (s0 ++ [(47 : UInt8)])).dropLast = x :: s0 := by
          rw [show (x :: (s0 ++ [(47 : UInt8)])) = (x :: s0) ++ [47] from rfl, List.dropLast_concat]
        have hl1 : (x :: (s0 ++ [(47 : UInt8)])).getLast? = some 47 := by
          rw [show (x :: (s0 ++ [(47 : UInt8)])) = (x :: s0) ++ [47] from rfl, List.getLast?_concat]
        rw [hd1, hl1, ho]
        rfl
end Go.Proofs.YtnpcbcnclncniaaGreatDoor
