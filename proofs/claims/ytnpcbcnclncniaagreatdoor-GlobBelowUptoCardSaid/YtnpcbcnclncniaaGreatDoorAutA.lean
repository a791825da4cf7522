/-
  The texts NetE, Round, SeqU, Aut1, Aut2, Aut3, Aut4, Aut5, Aut6, Aut7, Aut8, Aut9, in one.
-/
import Derived.Test.YtnpcbcnclncniaaGreatDoorNetA
import Derived.Test.YtnpcbcnclncniaaGreatDoorMatC
import Derived.Test.YtnpcbcnclncniaaGreatDoorPlainClean2
import Derived.Test.YtnpcbcnclncniaaGreatDoorNetB
import Derived.Test.YtnpcbcnclncniaaGreatDoorRefPaths
import Derived.RangeFuncNested
import Derived.RangeFuncBound
import Derived.RangeFuncCalls
import Derived.RangeFuncLeaves
import Derived.OrdersIn
import Derived.Lib.Hide
import Derived.RangeFuncBox
import Derived.Shelf.Abstract
import Derived.WalkKit
import Derived.OwnWalkIn
import Derived.TacticsInMore
import Derived.LoopNIn
import Derived.LoopIn
namespace Go.Proofs.YtnpcbcnclncniaaGreatDoor
open Go.RowKit

theorem splitC_app {c : UInt8} : ∀ (u r : List UInt8), Wh.splitC c (u ++ c :: r) = Wh.splitC c u ++ Wh.splitC c r
  | [], r => by simp [Wh.splitC]
  | b :: u, r => by
    have ih := splitC_app (c := c) u r
    have e1 : ∀ l, Wh.splitC c (b :: l) = if b == c then [] :: Wh.splitC c l else (match Wh.splitC c l with | [] => [[b]] | x :: r => (b :: x) :: r) := fun l => rfl
    rw [List.cons_append, e1, e1]
    by_cases h : b == c
    · rw [if_pos h, if_pos h, ih, List.cons_append]
    · rw [if_neg h, if_neg h, ih]
      obtain ⟨x, y, hx⟩ := List.exists_cons_of_ne_nil (Wh.splitC_ne c u)
      rw [hx]
      rfl

theorem growN_app : ∀ (k : Nat) (u v : List UInt8), growN k (u ++ v) = (growN k u).bind (fun k' => growN k' v)
  | k, [], v => rfl
  | k, c :: u, v => by
    have e1 : ∀ r, growN k (c :: r) = if c = 0 then none else (grownN k c).bind (fun k' => growN k' r) := fun _ => rfl
    rw [List.cons_append, e1, e1]
    by_cases h : c = 0
    · rw [if_pos h, if_pos h]
      rfl
    · rw [if_neg h, if_neg h]
      cases grownN k c with
      | none => rfl
      | some k' => exact growN_app k' u v
theorem growN_whole : ∀ (x : List UInt8), (∀ b ∈ x, b ≠ 0 ∧ b ≠ 47) → growN 3 x = some 3
  | [], _ => rfl
  | c :: r, h => by
    have hc := h c (by simp)
    unfold growN
    rw [if_neg hc.1]
    unfold grownN
    rw [if_neg hc.2, if_neg (fun h => h.2 rfl)]
    exact growN_whole r (fun b hb => h b (by simp [hb]))
theorem growN_step {k : Nat} {c : UInt8} {r : List UInt8} (h0 : c ≠ 0) (h1 : c ≠ 47) (hk : k ≠ 3) : growN k (c :: r) = if c = 46 then growN (k + 1) r else growN 3 r := by
  conv => lhs; unfold growN
  rw [if_neg h0]
  unfold grownN
  rw [if_neg h1]
  by_cases h : c = 46
  · rw [if_pos ⟨h, hk⟩, if_pos h]
    rfl
  · rw [if_neg (fun e => h e.1), if_neg h]
    rfl
theorem isName_parts {x : List UInt8} (h : Wh.isName x = true) : x ≠ [] ∧ x ≠ [46] ∧ x ≠ [46, 46] ∧ ∀ b ∈ x, b ≠ 0 ∧ b ≠ 47 := by
  unfold Wh.isName at h
  simp only [Bool.and_eq_true, bne_iff_ne, ne_eq, Bool.not_eq_true'] at h
  obtain ⟨⟨⟨⟨h1, _⟩, h3⟩, h4⟩, h5⟩ := h
  have h6 : ¬ Lib.containsAny x [0, 47] = true := by rw [h5]; exact Bool.false_ne_true
  rw [Wh.containsAny_eq, List.any_eq_true] at h6
  refine ⟨fun e => (by rw [e] at h1; cases h1), h3, h4, fun b hb => ?_⟩
  refine ⟨fun e => h6 ⟨b, hb, ?_⟩, fun e => h6 ⟨b, hb, ?_⟩⟩
  · rw [e]; decide
  · rw [e]; decide
theorem grow_name {x : List UInt8} (h : Wh.isName x = true) : growN 0 x = some 3 := by
  obtain ⟨h1, h2, h3, h4⟩ := isName_parts h
  match x with
  | [] => exact absurd rfl h1
  | a :: r =>
    have ha := h4 a (by simp)
    have hr : ∀ b ∈ r, b ≠ 0 ∧ b ≠ 47 := fun b hb => h4 b (by simp [hb])
    rw [growN_step ha.1 ha.2 (by decide)]
    by_cases e : a = 46
    · rw [if_pos e]
      match r with
      | [] => exact absurd (by rw [e]) h2
      | b :: r =>
        have hb := hr b (by simp)
        have hr2 : ∀ b ∈ r, b ≠ 0 ∧ b ≠ 47 := fun b hb => hr b (by simp [hb])
        rw [growN_step hb.1 hb.2 (by decide)]
        by_cases e2 : b = 46
        · rw [if_pos e2]
          match r with
          | [] => exact absurd (by rw [e, e2]) h3
          | c :: r =>
            have hc := hr2 c (by simp)
            rw [growN_step hc.1 hc.2 (by decide)]
            have := growN_whole r (fun b hb => hr2 b (by simp [hb]))
            split <;> exact this
        · rw [if_neg e2]
          exact growN_whole r hr2
    · rw [if_neg e]
      exact growN_whole r hr

/-- A path that is not empty; of any length. -/
def PathOk (l : List UInt8) : Prop := (Wh.splitC 47 l).all Wh.isName = true
theorem pathOk_of {l : List UInt8} (h : Wh.isPath l = true) (h0 : l ≠ []) : PathOk l := by
  unfold Wh.isPath at h
  rw [Bool.or_eq_true] at h
  rcases h with h | h
  · exact absurd (List.isEmpty_iff.1 h) h0
  · rw [Bool.and_eq_true] at h
    exact h.2
theorem pathOk_app {u r : List UInt8} : PathOk (u ++ 47 :: r) ↔ PathOk u ∧ PathOk r := by
  unfold PathOk
  rw [splitC_app, List.all_append, Bool.and_eq_true]
theorem pathOk_ne {l : List UInt8} (h : PathOk l) : l ≠ [] := by
  rintro rfl
  unfold PathOk at h
  exact absurd h (by decide)
theorem grow_path : ∀ (n : Nat) (l : List UInt8), l.length ≤ n → PathOk l → growN 0 l = some 3
  | 0, l, hl, h => absurd (List.length_eq_zero_iff.1 (by omega)) (pathOk_ne h)
  | n + 1, l, hl, h => by
    by_cases hm : (47 : UInt8) ∈ l
    · obtain ⟨x, r, rfl, hx⟩ := List.eq_append_cons_of_mem hm
      have h1 := h
      unfold PathOk at h1
      rw [Wh.splitC_append (c := 47) (fun b hb e => hx (e ▸ hb)), List.all_cons, Bool.and_eq_true] at h1
      rw [growN_app, grow_name h1.1]
      show growN 3 (47 :: r) = some 3
      unfold growN
      rw [if_neg (by decide)]
      unfold grownN
      rw [if_pos rfl, if_pos rfl]
      exact grow_path n r (by rw [List.length_append, List.length_cons] at hl; omega) h1.2
    · have h1 := h
      unfold PathOk at h1
      rw [Wh.splitC_no (c := 47) (fun b hb e => hm (e ▸ hb)), List.all_cons, Bool.and_eq_true] at h1
      exact grow_name h1.1
theorem cut_at {s : List UInt8} {k : Nat} (h : s[k]? = some 47) : s = s.take k ++ 47 :: s.drop (k + 1) := by
  obtain ⟨hl, hc⟩ := List.getElem?_eq_some_iff.1 h
  conv => lhs; rw [← List.take_append_drop k s, List.drop_eq_getElem_cons hl, hc]
theorem pathOk_drop {s : List UInt8} {m : Nat} (h : PathOk s) (hm : m = 0 ∨ (0 < m ∧ s[m - 1]? = some 47)) : PathOk (s.drop m) := by
  rcases hm with rfl | ⟨h0, h1⟩
  · exact h
  · have h2 := cut_at h1
    rw [show m - 1 + 1 = m by omega] at h2
    rw [h2] at h
    exact (pathOk_app.1 h).2
theorem pathOk_take {s : List UInt8} {k : Nat} (h : PathOk s) (hk : s[k]? = some 47) : PathOk (s.take k) := by
  rw [cut_at hk] at h
  exact (pathOk_app.1 h).1

/-- The bytes that lead into a directory. -/
def intoDir (d : List UInt8) : List UInt8 := if d = [] then [] else d ++ [47]
/-- What Below says. -/
def BelowP (rooted dirs : Bool) (n : Nat) (xs : List (P n)) (d : List UInt8) : Prop :=
  (dirs = true ∧ FitsUp rooted n xs d true true) ∨ someN (listN n xs [[]] 0).1 (behind (listN n xs [[]] 0).1 rooted (intoDir d) (intoDir d).length) (listN n xs [[]] 0).2

theorem core_below {rooted : Bool} {n : Nat} {xs : List (P n)} {T r : List UInt8} (hg : Good n xs) (hT : T = [] ∨ ∃ d, T = d ++ [47]) (hp : PathOk (T ++ r)) (hm : GPath rooted n xs (T ++ r)) :
    someN (listN n xs [[]] 0).1 (behind (listN n xs [[]] 0).1 rooted T T.length) (listN n xs [[]] 0).2 := by
  obtain ⟨_, i, hb, hi, hR⟩ := hm
  have hP := (listN_builds (T ++ r) n xs hg [[]] 0 (by decide) (fun q a ha => by
    unfold rowN at ha
    match q with
    | 0 => cases ha
    | q + 1 => cases ha)).2.2.2.1 i _ hi hR
  have hdT : (T ++ r).drop T.length = r := by simp
  have hlT : 0 < T.length → T[T.length - 1]? = some 47 := fun h0 => by
    rcases hT with rfl | ⟨d, rfl⟩
    · cases h0
    · simp
  by_cases hle : i ≤ T.length
  · rw [← seg_app hle (by rw [List.length_append]; omega), path_app] at hP
    obtain ⟨m, h1, h2⟩ := hP
    have hs1 : seg (T ++ r) i T.length = seg T i T.length := by
      unfold seg
      rw [List.drop_append_of_le_length hle, List.take_append_of_le_length (by rw [List.length_drop]; omega)]
    have hs2 : seg (T ++ r) T.length (T ++ r).length = r := by
      unfold seg
      rw [hdT, List.take_of_length_le (by rw [List.length_append]; omega)]
    rw [hs1] at h1
    rw [hs2] at h2
    refine ⟨m, r, ⟨i, ?_, hle, h1⟩, h2, ?_⟩
    · rcases hb with hb | ⟨h3, h4, h5⟩
      · exact .inl hb
      · rw [List.getElem?_append_left (by omega)] at h5
        exact .inr ⟨h3, h4, h5⟩
    · have h3 := pathOk_drop (m := T.length) hp (by
        rcases Nat.eq_zero_or_pos T.length with e | e
        · exact .inl e
        · exact .inr ⟨e, by rw [List.getElem?_append_left (by omega)]; exact hlT e⟩)
      rw [hdT] at h3
      exact grow_path _ r (Nat.le_refl _) h3
  · obtain ⟨h3, h4, h5⟩ : rooted = false ∧ 0 < i ∧ (T ++ r)[i - 1]? = some 47 := by
      rcases hb with hb | hb
      · omega
      · exact hb
    have hs2 : seg (T ++ r) i (T ++ r).length = (T ++ r).drop i := by
      unfold seg
      rw [List.take_of_length_le (by rw [List.length_drop]; exact Nat.le_refl _)]
    rw [hs2] at hP
    refine ⟨0, _, ⟨T.length, ?_, Nat.le_refl _, by rw [seg_self]; exact .here _⟩, hP, grow_path _ _ (Nat.le_refl _) (pathOk_drop hp (.inr ⟨h4, h5⟩))⟩
    rcases Nat.eq_zero_or_pos T.length with e | e
    · exact .inl e
    · exact .inr ⟨h3, e, hlT e⟩

theorem needs_dirs {rooted dirs : Bool} {n : Nat} {xs : List (P n)} {s d : List UInt8} (hg : Good n xs) (hs : Wh.isPath s = true) (hm : GMatch rooted dirs n xs s) (hd : d = [] ∨ ∃ k, s[k]? = some 47 ∧ d = s.take k) : BelowP rooted dirs n xs d := by
  have hcore : ∀ s', PathOk s' → GPath rooted n xs s' → (d = [] ∨ ∃ k, s'[k]? = some 47 ∧ d = s'.take k) → BelowP rooted dirs n xs d := fun s' hp hm hd => by
    refine .inr ?_
    obtain ⟨r, hr⟩ : ∃ r, s' = intoDir d ++ r := by
      rcases hd with rfl | ⟨k, hk, rfl⟩
      · exact ⟨s', rfl⟩
      · refine ⟨s'.drop (k + 1), ?_⟩
        unfold intoDir
        rw [if_neg (pathOk_ne (pathOk_take hp hk)), List.append_assoc]
        exact cut_at hk
    rw [hr] at hp hm
    refine core_below hg ?_ hp hm
    unfold intoDir
    by_cases e : d = []
    · exact .inl (if_pos e)
    · exact .inr ⟨d, if_neg e⟩
  cases dirs with
  | false =>
    unfold GMatch at hm
    rw [if_neg (by decide)] at hm
    exact hcore s (pathOk_of hs hm.1) hm hd
  | true =>
    unfold GMatch at hm
    rw [if_pos rfl] at hm
    obtain ⟨k', h1, h2⟩ := hm
    have hl1 := (List.getElem?_eq_some_iff.1 h1).1
    have hp : PathOk s := pathOk_of hs (fun e => by rw [e] at hl1; cases hl1)
    have hp' := pathOk_take hp h1
    rcases hd with rfl | ⟨k, hk, rfl⟩
    · exact hcore _ hp' h2 (.inl rfl)
    have hl2 := (List.getElem?_eq_some_iff.1 hk).1
    by_cases hlt : k < k'
    · refine hcore _ hp' h2 (.inr ⟨k, ?_, ?_⟩)
      · rw [List.getElem?_take_of_lt hlt]
        exact hk
      · rw [List.take_take, Nat.min_eq_left (by omega)]
    · refine .inl ⟨rfl, ?_⟩
      have hpk := pathOk_take hp hk
      have hlk : (s.take k).length = k := by rw [List.length_take]; omega
      unfold FitsUp
      refine ⟨pathOk_ne hpk, ?_⟩
      by_cases e : k' = k
      · subst e
        exact .inl ⟨rfl, (gpath_ends.1 h2).2⟩
      · have h3 : (s.take k).take k' = s.take k' := by rw [List.take_take, Nat.min_eq_left (by omega)]
        rw [← h3] at h2
        obtain ⟨h4, h5⟩ := (gpath_take (by omega)).1 h2
        exact .inr ⟨rfl, k', h4, by omega, by rw [List.getElem?_take_of_lt (by omega)]; exact h1, h5⟩
end Go.Proofs.YtnpcbcnclncniaaGreatDoor
namespace Go.Proofs.YtnpcbcnclncniaaGreatDoor
open Go.RowKit

theorem someN_congr {A : NetA} {S S' : Nat → Prop} {e : Nat} (h : ∀ q, S q ↔ S' q) : someN A S e ↔ someN A S' e := by
  rw [show S = S' from funext (fun q => propext (h q))]
theorem stepN_congr {A : NetA} {S S' : Nat → Prop} {c : UInt8} (h : ∀ q, S q ↔ S' q) (q : Nat) : stepN A S c q ↔ stepN A S' c q := by
  rw [show S = S' from funext (fun q => propext (h q))]
theorem behind_begin {A : NetA} {rooted : Bool} {D : List UInt8} {T : Nat → Bool} (h : ∀ q, T q = true ↔ fclos A (fun p => ins (fun _ => false) 0 p = true) q) (q : Nat) : T q = true ↔ behind A rooted D 0 q := by
  rw [h, behind_zero]
  rw [show (fun p => ins (fun _ => false) 0 p = true) = (fun p : Nat => p = 0) from funext (fun p => propext (by rw [ins_iff]; simp))]
theorem behind_go {A : NetA} {rooted : Bool} {D : List UInt8} {T T1 : Nat → Bool} {k : Nat} {c : UInt8} (h : ∀ q, T q = true ↔ behind A rooted D k q) (hc : D[k]? = some c) (h1 : ∀ q, T1 q = true ↔ stepN A (fun p => T p = true) c q) (hn : ¬ (rooted = false ∧ c = 47)) (q : Nat) : T1 q = true ↔ behind A rooted D (k + 1) q := by
  rw [behind_succ hc, h1, stepN_congr h]
  constructor
  · exact .inl
  · rintro (h | ⟨h, _⟩)
    · exact h
    · exact absurd h hn
theorem behind_start {A : NetA} {rooted : Bool} {D : List UInt8} {T T1 T2 : Nat → Bool} {k : Nat} {c : UInt8} (h : ∀ q, T q = true ↔ behind A rooted D k q) (hc : D[k]? = some c) (h1 : ∀ q, T1 q = true ↔ stepN A (fun p => T p = true) c q) (hy : rooted = false ∧ c = 47) (h2 : ∀ q, T2 q = true ↔ fclos A (fun p => ins T1 0 p = true) q) (q : Nat) : T2 q = true ↔ behind A rooted D (k + 1) q := by
  rw [behind_succ hc, h2]
  have h3 : ∀ p, T1 p = true ↔ stepN A (behind A rooted D k) c p := fun p => (h1 p).trans (stepN_congr h p)
  constructor
  · rintro ⟨p, hp, hq⟩
    rcases ins_iff.1 hp with rfl | hp
    · exact .inr ⟨hy, 0, rfl, hq⟩
    · obtain ⟨d, a, t, g1, g2, g3, g4, g5⟩ := (h3 p).1 hp
      have := g5.trans hq
      rw [List.nil_append] at this
      exact .inl ⟨d, a, t, g1, g2, g3, g4, this⟩
  · rintro (hq | ⟨_, p, rfl, hq⟩)
    · exact ⟨q, ins_of ((h3 q).2 hq), .here q⟩
    · exact ⟨0, ins_self T1 0, hq⟩

/-- A new net. -/
theorem NetAt.new (w : World) : NetAt w (w.alloc (.cells #[.slice none 0 0] 84)) w.heap.size [] :=
  ⟨0, none, 0, fun _ => none, fun _ => 0, Nat.le_refl _, bAlloc (Below.refl _ _) _, BoxIs.new _ _ _, World.ownsRow_nil _ _ _ _, fun _ hq => absurd hq (Nat.not_lt_zero _), fun _ _ hp => absurd hp (Nat.not_lt_zero _)⟩

/-- The states behind a directory, under way. -/
def Blw (A : NetA) (hN : A.length ≤ 9223372036854775808) (rooted : Bool) (D : List UInt8) (w0 : World) (b m k : Nat) (wx : World) : Prop := ∃ T : Nat → Bool, StSet A hN wx m T ∧ NetAt w0 wx b A ∧ w0.heap.size ≤ m ∧ ∀ q, T q = true ↔ behind A rooted D k q

set_option maxHeartbeats 4000000 in
set_option maxRecDepth 100000 in
theorem below_any (n : Nat) (x : Sl (P n)) (rooted dirs : Bool) (s : ByteArray) (w : World) (hs : SOk w n x) (hg : Good n x.xs) (hz : szL n x.xs ≤ 1048576) (hsz : s.size ≤ 100000) :
    Calls Tryz.prog 18 #[globVal rooted dirs x, .string s] w (BoolRes (BelowP rooted dirs n x.xs s.data.toList) w) := by
  have hb1 := bAlloc (Below.refl w.heap.size w) (.cells (globArr rooted dirs x) 24)
  have HQ := Lib.hid (BoxIs.new w (globArr rooted dirs x) 24)
  have HFU := Lib.hid (fun W (hb : Below w.heap.size w W) => fitsUp_any n x rooted dirs true true s W (hs.under hb) hg hz hsz)
  have HS := Lib.hid hs
  have HG := Lib.hid (And.intro hg hz)
  have hmm := @run_makeMap Tryz.prog
  clear hs hg hz
  go_enter Tryz.func18, Tryz.ntmps18
  go_upto_region 1 with fail
  generalize w.alloc _ = w1 at *
  have c0 := HQ.out.cell (j := 0) rfl
  have c1 := HQ.out.cell (j := 1) rfl
  have c2 := HQ.out.cell (j := 2) rfl
  have hway : (dirs = true ∧ FitsUp rooted n x.xs s.data.toList true true) ∨ (dirs = true ∧ ¬ FitsUp rooted n x.xs s.data.toList true true) ∨ dirs = false := by
    cases dirs
    · exact .inr (.inr rfl)
    · by_cases h : FitsUp rooted n x.xs s.data.toList true true
      · exact .inl ⟨rfl, h⟩
      · exact .inr (.inl ⟨rfl, h⟩)
  rcases hway with ⟨rfl, hF⟩ | hway
  · have HC : Hid (Calls Tryz.prog 48 #[globVal rooted true x, .string s, .bool true, .bool true] w1 fun e w' => e = .returned (.bool true) ∧ Below w1.heap.size w1 w') := Lib.hid ((HFU.out w1 hb1).mono (fun e w' h => by
      obtain ⟨r, h1, h2, h3⟩ := h
      exact ⟨by rw [h1, h2.2 hF], h3⟩))
    have HP : Hid (BelowP rooted true n x.xs s.data.toList) := Lib.hid (.inl ⟨rfl, hF⟩)
    clear hF HFU hmm
    go_wp2_with (go_at_call 48; refine HC.out.mono ?_; rintro e w2 ⟨rfl, hb2⟩; replace hb2 := bTrans hb1 hb2)
    go_ret
    exact ⟨true, rfl, ⟨fun _ => HP.out, fun _ => rfl⟩, hb2⟩
  rcases hway with ⟨rfl, hF⟩ | rfl
  case' _ =>
    have HC : Hid (Calls Tryz.prog 48 #[globVal rooted true x, .string s, .bool true, .bool true] w1 fun e w' => e = .returned (.bool false) ∧ Below w1.heap.size w1 w') := Lib.hid ((HFU.out w1 hb1).mono (fun e w' h => by
      obtain ⟨r, h1, h2, h3⟩ := h
      refine ⟨?_, h3⟩
      cases r
      · exact h1
      · exact absurd (h2.1 rfl) hF))
    have HP : Hid (BelowP rooted true n x.xs s.data.toList ↔ someN (listN n x.xs [[]] 0).1 (behind (listN n x.xs [[]] 0).1 rooted (intoDir s.data.toList) (intoDir s.data.toList).length) (listN n x.xs [[]] 0).2) := Lib.hid ⟨fun h => h.resolve_left (fun h => hF h.2), .inr⟩
    clear hF HFU
    go_upto_region 3 with (go_at_call 48; refine HC.out.mono ?_; rintro e w2 ⟨rfl, hb2⟩; have HQ2 := Lib.hid (HQ.out.under hb2); replace hb2 := bTrans hb1 hb2; clear c0 c1 c2 HQ hb1 HC)
  rotate_left 1
  case' _ =>
    have HP : Hid (BelowP rooted false n x.xs s.data.toList ↔ someN (listN n x.xs [[]] 0).1 (behind (listN n x.xs [[]] 0).1 rooted (intoDir s.data.toList) (intoDir s.data.toList).length) (listN n x.xs [[]] 0).2) := Lib.hid ⟨fun h => h.resolve_left (fun h => absurd h.1 (by decide)), .inr⟩
    clear HFU
    go_upto_region 3 with fail
    have HQ2 := HQ
    have hb2 := hb1
    clear c0 c1 c2 HQ hb1
    generalize w1 = w2 at *
  all_goals
    have hN3 := NetAt.new w2
    have hb3 : Below w2.heap.size w2 (w2.alloc (.cells #[.slice none 0 0] 84)) := bAlloc (Below.refl _ _) _
    have HL := Lib.hid (fun W (hW : NetAt w2 W w2.heap.size [[]]) => list_ok n w2 W w2.heap.size [[]] x 0 hW (HS.out.under hb2) HG.out.1 (by decide) (fun q a ha => by
      unfold rowN at ha
      match q with
      | 0 => cases ha
      | q + 1 => cases ha) (by
      have h1 := HG.out.2
      have h2 : mA [[]] = 1 := rfl
      omega))
    have HSt := Lib.hid (state_any (A := []) _ hN3 (by decide))
    have HOk := Lib.hid (listN_ok (A := [[]]) (q := 0) HG.out.1 (by decide) (fun q a ha => by
      unfold rowN at ha
      match q with
      | 0 => cases ha
      | q + 1 => cases ha))
    have HmA := Lib.hid (show mA (listN n x.xs [[]] 0).1 ≤ 100000000 by
      have h1 := mA_list n x.xs [[]] 0
      have h2 := HG.out.2
      have h3 : mA [[]] = 1 := rfl
      omega)
    have HEx := Lib.hid (show 1 ≤ (listN n x.xs [[]] 0).1.length from listN_ext (A := [[]]) (q := 0) HG.out.1 (by decide) (fun q a ha => by
      unfold rowN at ha
      match q with
      | 0 => cases ha
      | q + 1 => cases ha))
    clear hN3 hb3
    go_upto_region 4 with fail
    generalize w2.alloc _ = w3 at *
    generalize hb0 : w2.heap.size = b at *
    have HB0 := Lib.hid hb0
    clear hb0
    go_upto_region 5 with (go_at_call 49; refine HSt.out.mono ?_; rintro e w4 ⟨rfl, hN4, _⟩; have HN4 := Lib.hid hN4; have HL4 := Lib.hid (HL.out w4 hN4); clear hN4 HSt HL)
    have c2 := BoxIs.cell (j := 2) (HQ2.out.under HN4.out.below) rfl
    go_upto_region 6 with (go_at_call 50; refine HL4.out.mono ?_; rintro e w5 ⟨rfl, hN5, _⟩; have HN5 := Lib.hid hN5; clear hN5 HL4 HN4 c2)
    generalize hA0 : (listN n x.xs [[]] 0).1 = A at *
    generalize hE0 : (listN n x.xs [[]] 0).2 = en at *
    clear hA0 hE0
    have hAl : A.length ≤ 100000000 := Nat.le_trans (mA_len A) HmA.out
    have hN : A.length ≤ 9223372036854775808 := by omega
    have hA1 := HEx.out
    have hbm : Below w5.heap.size w5 (w5.alloc (.map #[] 0)) := bAlloc (Below.refl _ _) _
    have HM : Hid (SetAt (w5.alloc (.map #[] 0)) (keyN A.length hN) 4 w5.heap.size 0 (fun _ => false)) := Lib.hid (SetAt.made w5 _ _)
    obtain ⟨w6, hrun, h8, h9⟩ := storeN (q := 0) HM.out (by omega) (by decide)
    have hN6 : NetAt w2 w6 b A := by
      obtain ⟨es, cl, hm⟩ := HM.out.map
      exact NetAt.during (HN5.out.under hbm) HN5.out.below.size hm h9
    have hS6 : StSet A hN w6 w5.heap.size (ins (fun _ => false) 0) := h8.small
    have HCl := Lib.hid (closure_any hN w6 hN6 HOk.out.1 HmA.out hS6 (by omega))
    have HH := Lib.hid (And.intro hN6 (And.intro hS6.map HN5.out.below.size))
    change (Instr.mapUpdate 65 (.map (some w5.heap.size)) (.int .i64 0) (.bool true)).run Tryz.prog (w5.alloc (.map #[] 0)) = .ok () w6 at hrun
    clear h8 h9 hN6 hS6 HM hbm
    go_upto_region 7 with fail
    clear hrun hmm
    generalize hm0 : w5.heap.size = m at *
    clear hm0
    go_upto_region 8 with (go_at_call 51; refine HCl.out.mono ?_; rintro e w7 ⟨rfl, g7, T7, n7, hT7, _, hq7⟩; have HB7 : Hid (Blw A hN rooted (intoDir s.data.toList) w2 b m 0 w7) := Lib.hid (by obtain ⟨h1, ⟨es, cl, hm⟩, h3⟩ := HH.out; exact ⟨T7, hT7.small, h1.during h3 hm g7, h3, behind_begin hq7⟩); clear hT7 g7 hq7 HH HCl)
    have hsd := Lib.toList_data s
    cases hem : s.toList.isEmpty with
    | true =>
      have hD : intoDir s.data.toList = [] := by
        rw [← hsd]
        unfold intoDir
        rw [if_pos (List.isEmpty_iff.1 hem)]
      rw [hD] at HP HB7
      have HSm : Hid (Calls Tryz.prog 53 #[.pointer (some ⟨b, 0, none⟩), .map (some m), .int .i64 en] w7 fun e w' => ∃ r : Bool, e = .returned (.bool r) ∧ (r = true ↔ someN A (behind A rooted [] 0) en) ∧ Below w2.heap.size w2 w') := Lib.hid (by
        obtain ⟨T, h1, h2, _, h4⟩ := HB7.out
        refine (some_any hN en w7 h2 HOk.out.1 HmA.out h1).mono ?_
        rintro e w' ⟨r, h5, h6, h7⟩
        exact ⟨r, h5, h6.trans (someN_congr h4), bTrans h2.below h7⟩)
      clear hsd hD HB7
      go_wp2_with (go_at_call 53; refine HSm.out.mono ?_; rintro e w8 ⟨r, rfl, hr, hb8⟩; have HR := Lib.hid (And.intro hr hb8); clear hr hb8)
      go_ret
      exact ⟨r, rfl, HR.out.1.trans HP.out.symm, bTrans hb2 HR.out.2⟩
    | false =>
      have hD : intoDir s.data.toList = s.data.toList ++ [47] := by
        rw [← hsd]
        unfold intoDir
        rw [if_neg (fun h => by rw [h] at hem; cases hem)]
      have hDl : (intoDir s.data.toList).length = s.size + 1 := by rw [hD, List.length_append, Lib.size_eq]; rfl
      have HD47 : Hid ((intoDir s.data.toList)[s.size]? = some 47) := Lib.hid (by rw [hD, Lib.size_eq]; simp)
      have HDk : Hid (∀ k (h : k < s.size), (intoDir s.data.toList)[k]? = some (s[k]'h)) := Lib.hid (fun k h => by
        rw [hD, List.getElem?_append_left (by rw [← Lib.size_eq]; exact h)]
        exact Lib.data_getElem? s k h)
      generalize intoDir s.data.toList = D at *
      obtain ⟨L1, hL1⟩ : ∃ L1, s.size + 1 = L1 := ⟨_, rfl⟩
      have hL1i : (s.size : Int) + 1 = (L1 : Int) := by omega
      rw [hL1] at hDl
      have HDl := Lib.hid hDl
      have HL1 := Lib.hid hL1
      clear hsd hD hDl hL1
      go_wp2_with fail
      go_loopg [8, 38] L1 (fun g s8 s38 wx => ∃ k m : Nat, k + g = L1 ∧ s38 = .int .i64 k ∧ s8 = .map (some m) ∧ Hid (Blw A hN rooted D w2 b m k wx))
      case atStart => exact ⟨0, m, by omega, rfl, rfl, HB7⟩
      case round =>
        clear HB7
        obtain ⟨k, m, hk, rfl, rfl, HB⟩ := hrel
        by_cases hlt : k < L1
        · obtain ⟨g, rfl⟩ : ∃ g, gk = g + 1 := ⟨gk - 1, by omega⟩
          have hltI : (k : Int) < (L1 : Int) := by omega
          have hks := HL1.out
          have HSt : Hid (∀ cc : UInt8, D[k]? = some cc → Calls Tryz.prog 52 #[.pointer (some ⟨b, 0, none⟩), .map (some m), .int .u8 cc.toNat] wr fun e w' => ∃ m' : Nat, e = .returned (.map (some m')) ∧ ∃ T0 T1 : Nat → Bool, (∀ q, T0 q = true ↔ behind A rooted D k q) ∧ StSet A hN w' m' T1 ∧ NetAt w2 w' b A ∧ w2.heap.size ≤ m' ∧ ∀ q, T1 q = true ↔ stepN A (fun p => T0 p = true) cc q) := Lib.hid (fun cc _ => by
            obtain ⟨T, h1, h2, _, h4⟩ := HB.out
            refine (step_any hN cc wr h2 HOk.out.1 HmA.out h1).mono ?_
            rintro e w' ⟨m', T1, h5, h6, h7, h8, h9⟩
            exact ⟨m', h5, T, T1, h4, h7, h2.under h8, Nat.le_trans h2.below.size h6, h9⟩)
          have HSkip := Lib.hid (fun (cc : UInt8) (hc : D[k]? = some cc) (w' : World) (m' : Nat) (h : ∃ T0 T1 : Nat → Bool, (∀ q, T0 q = true ↔ behind A rooted D k q) ∧ StSet A hN w' m' T1 ∧ NetAt w2 w' b A ∧ w2.heap.size ≤ m' ∧ ∀ q, T1 q = true ↔ stepN A (fun p => T0 p = true) cc q) (hn : ¬ (rooted = false ∧ cc = 47)) => (by
            obtain ⟨T0, T1, h1, h2, h3, h4, h5⟩ := h
            exact ⟨T1, h2, h3, h4, behind_go h1 hc h5 hn⟩ : Blw A hN rooted D w2 b m' (k + 1) w'))
          have HStart := Lib.hid (fun (cc : UInt8) (hc : D[k]? = some cc) (w' : World) (m' : Nat) (h : ∃ T0 T1 : Nat → Bool, (∀ q, T0 q = true ↔ behind A rooted D k q) ∧ StSet A hN w' m' T1 ∧ NetAt w2 w' b A ∧ w2.heap.size ≤ m' ∧ ∀ q, T1 q = true ↔ stepN A (fun p => T0 p = true) cc q) (hy : rooted = false ∧ cc = 47) => (by
            obtain ⟨T0, T1, h1, h2, h3, h4, h5⟩ := h
            obtain ⟨w9, hrun, h8, h9⟩ := storeN (q := 0) h2 (by omega) (by omega)
            have hN9 : NetAt w2 w9 b A := by
              obtain ⟨es, cl, hm⟩ := SetAt.map h2
              exact h3.during h4 hm h9
            refine ⟨w9, hrun, (closure_any hN w9 hN9 HOk.out.1 HmA.out h8.small (by omega)).mono ?_⟩
            rintro e w10 ⟨h6, g7, T7, n7, hT7, _, hq7⟩
            refine ⟨h6, T7, hT7.small, ?_, h4, behind_start h1 hc h5 hy hq7⟩
            obtain ⟨es, cl, hm⟩ := h8.map
            exact hN9.during h4 hm g7 : ∃ w9, (Instr.mapUpdate 65 (.map (some m')) (.int .i64 (0 : Nat)) (.bool true)).run Tryz.prog w' = .ok () w9 ∧ Calls Tryz.prog 51 #[.pointer (some ⟨b, 0, none⟩), .map (some m')] w9 fun e w10 => e = .returned (.tuple #[]) ∧ Blw A hN rooted D w2 b m' (k + 1) w10))
          by_cases hkl : k < s.size
          · obtain ⟨cc, hch⟩ : ∃ ch : UInt8, s[k]'hkl = ch := ⟨_, rfl⟩
            have HCc : Hid (D[k]? = some cc) := Lib.hid (by rw [HDk.out k hkl, hch])
            have HS1 := Lib.hid (HSt.out cc HCc.out)
            have hklI : (k : Int) < (s.size : Int) := by omega
            have hk0 : (0 : Int) ≤ (k : Int) := by omega
            clear hks
            by_cases h47 : cc = 47
            · have e47 : ((cc.toNat : Int) == 47) = true := by rw [h47]; rfl
              have H47 := Lib.hid h47
              clear h47
              cases hro : rooted with
              | true =>
                subst hro
                go_upto_region 16 with (go_at_call 52; refine HS1.out.mono ?_; rintro e w8 ⟨m8, rfl, h8⟩; have H8 := Lib.hid h8; clear h8 HS1)
                have HNx := Lib.hid (HSkip.out cc HCc.out w8 m8 H8.out (fun h => absurd h.1 (by decide)))
                have c0 := BoxIs.cell (j := 0) (HQ2.out.under (by obtain ⟨_, _, _, _, h3, _⟩ := H8.out; exact h3.below)) rfl
                clear H8 HSkip HStart HSt HB
                go_wp2_with fail
                go_roundg g
                case measure => omega
                case rel => exact ⟨k + 1, m8, by omega, by go_num, rfl, HNx⟩
              | false =>
                subst hro
                go_upto_region 16 with (go_at_call 52; refine HS1.out.mono ?_; rintro e w8 ⟨m8, rfl, h8⟩; have H8 := Lib.hid h8; clear h8 HS1)
                obtain ⟨w9, hrun, hcl⟩ := HStart.out cc HCc.out w8 m8 H8.out (by first | exact ⟨rfl, H47.out⟩ | exact ⟨trivial, H47.out⟩)
                have HCl := Lib.hid hcl
                change (Instr.mapUpdate 65 (.map (some m8)) (.int .i64 0) (.bool true)).run Tryz.prog w8 = .ok () w9 at hrun
                have c0 := BoxIs.cell (j := 0) (HQ2.out.under (by obtain ⟨_, _, _, _, h3, _⟩ := H8.out; exact h3.below)) rfl
                clear H8 HSkip HStart HSt HB hcl
                go_wp2_with (go_at_call 51; refine HCl.out.mono ?_; rintro e w10 ⟨rfl, hx10⟩; have HNx := Lib.hid hx10; clear hx10)
                go_roundg g
                case measure => omega
                case rel => exact ⟨k + 1, m8, by omega, by go_num, rfl, HNx⟩
            · have e47 : ((cc.toNat : Int) == 47) = false := by
                have := byte_beq cc 47
                rw [show ((47 : UInt8).toNat : Int) = 47 from rfl] at this
                rw [this]
                simp [h47]
              have H47 := Lib.hid h47
              clear h47
              go_upto_region 16 with (go_at_call 52; refine HS1.out.mono ?_; rintro e w8 ⟨m8, rfl, h8⟩; have H8 := Lib.hid h8; clear h8 HS1)
              have HNx := Lib.hid (HSkip.out cc HCc.out w8 m8 H8.out (fun h => H47.out h.2))
              have c0 := BoxIs.cell (j := 0) (HQ2.out.under (by obtain ⟨_, _, _, _, h3, _⟩ := H8.out; exact h3.below)) rfl
              clear H8 HSkip HStart HSt HB
              go_wp2_with fail
              go_roundg g
              case measure => omega
              case rel => exact ⟨k + 1, m8, by omega, by go_num, rfl, HNx⟩
          · obtain rfl : k = s.size := by omega
            have HCc := HD47
            have HS1 : Hid (Calls Tryz.prog 52 #[.pointer (some ⟨b, 0, none⟩), .map (some m), .int .u8 47] wr fun e w' => ∃ m' : Nat, e = .returned (.map (some m')) ∧ ∃ T0 T1 : Nat → Bool, (∀ q, T0 q = true ↔ behind A rooted D s.size q) ∧ StSet A hN w' m' T1 ∧ NetAt w2 w' b A ∧ w2.heap.size ≤ m' ∧ ∀ q, T1 q = true ↔ stepN A (fun p => T0 p = true) 47 q) := Lib.hid (HSt.out 47 HCc.out)
            clear hks hkl
            cases hro : rooted with
            | true =>
              subst hro
              go_upto_region 16 with (go_at_call 52; refine HS1.out.mono ?_; rintro e w8 ⟨m8, rfl, h8⟩; have H8 := Lib.hid h8; clear h8 HS1)
              have HNx := Lib.hid (HSkip.out 47 HCc.out w8 m8 H8.out (fun h => absurd h.1 (by decide)))
              have c0 := BoxIs.cell (j := 0) (HQ2.out.under (by obtain ⟨_, _, _, _, h3, _⟩ := H8.out; exact h3.below)) rfl
              clear H8 HSkip HStart HSt HB
              go_wp2_with fail
              go_roundg g
              case measure => omega
              case rel => exact ⟨s.size + 1, m8, by omega, by go_num, rfl, HNx⟩
            | false =>
              subst hro
              go_upto_region 16 with (go_at_call 52; refine HS1.out.mono ?_; rintro e w8 ⟨m8, rfl, h8⟩; have H8 := Lib.hid h8; clear h8 HS1)
              obtain ⟨w9, hrun, hcl⟩ := HStart.out 47 HCc.out w8 m8 H8.out (by first | exact ⟨rfl, rfl⟩ | exact ⟨trivial, rfl⟩ | exact ⟨trivial, trivial⟩ | trivial)
              have HCl := Lib.hid hcl
              change (Instr.mapUpdate 65 (.map (some m8)) (.int .i64 0) (.bool true)).run Tryz.prog w8 = .ok () w9 at hrun
              have c0 := BoxIs.cell (j := 0) (HQ2.out.under (by obtain ⟨_, _, _, _, h3, _⟩ := H8.out; exact h3.below)) rfl
              clear H8 HSkip HStart HSt HB hcl
              go_wp2_with (go_at_call 51; refine HCl.out.mono ?_; rintro e w10 ⟨rfl, hx10⟩; have HNx := Lib.hid hx10; clear hx10)
              go_roundg g
              case measure => omega
              case rel => exact ⟨s.size + 1, m8, by omega, by go_num, rfl, HNx⟩
        · obtain rfl : k = L1 := by omega
          have HSm : Hid (Calls Tryz.prog 53 #[.pointer (some ⟨b, 0, none⟩), .map (some m), .int .i64 en] wr fun e w' => ∃ r : Bool, e = .returned (.bool r) ∧ (r = true ↔ someN A (behind A rooted D D.length) en) ∧ Below w2.heap.size w2 w') := Lib.hid (by
            rw [HDl.out]
            obtain ⟨T, h1, h2, _, h4⟩ := HB.out
            refine (some_any hN en wr h2 HOk.out.1 HmA.out h1).mono ?_
            rintro e w' ⟨r, h5, h6, h7⟩
            exact ⟨r, h5, h6.trans (someN_congr h4), bTrans h2.below h7⟩)
          clear HB
          go_wp2_with (go_at_call 53; refine HSm.out.mono ?_; rintro e w8 ⟨r, rfl, hr, hb8⟩; have HR := Lib.hid (And.intro hr hb8); clear hr hb8)
          go_ret
          exact ⟨r, rfl, HR.out.1.trans HP.out.symm, bTrans hb2 HR.out.2⟩
end Go.Proofs.YtnpcbcnclncniaaGreatDoor
namespace Go.Proofs.YtnpcbcnclncniaaGreatDoor
open Go.RowKit

set_option maxHeartbeats 2000000 in
set_option maxRecDepth 100000 in
theorem Below_any (n : Nat) (x : Sl (P n)) (rooted dirs : Bool) (s : ByteArray) (w : World) (hE : Env w) (hs : SOk w n x) (hz : szL n x.xs ≤ 1048576) (hsz : s.size ≤ 9223372036854775807) :
    Calls Tryz.prog 6 #[globVal rooted dirs x, .string s] w (MatRes (ckG rooted dirs n x.xs) (Wh.pathErr s.data.toList) (BelowP rooted dirs n x.xs s.data.toList) w) := by
  have hb1 := bAlloc (Below.refl w.heap.size w) (.cells (globArr rooted dirs x) 24)
  have HQ := Lib.hid (BoxIs.new w (globArr rooted dirs x) 24)
  have HK := Lib.hid (fun W (hb : Below w.heap.size w W) => checkGlob_any n x rooted dirs W (hs.under hb) hz)
  have HP := Lib.hid (fun W (hb : Below w.heap.size w W) => check_any s W (hE.under hb) hsz)
  have HC := Lib.hid (fun (hk : ckG rooted dirs n x.xs = 0) (he : Wh.pathErr s.data.toList = 0) W (hb : Below w.heap.size w W) => below_any n x rooted dirs s W (hs.under hb) (good_of_chk n x.xs (chk_of_ckG hk)) hz (by have := Wh.path_size (Wh.pathErr_zero he); omega))
  generalize ckG rooted dirs n x.xs = K at *
  generalize Wh.pathErr s.data.toList = E at *
  generalize BelowP rooted dirs n x.xs s.data.toList = GM at *
  clear hs hz hE
  go_enter Tryz.func6, Tryz.ntmps6
  go_upto_region 1 with fail
  generalize w.alloc _ = w1 at *
  have c0 := HQ.out.cell (j := 0) rfl
  have c1 := HQ.out.cell (j := 1) rfl
  have c2 := HQ.out.cell (j := 2) rfl
  by_cases hK : K = 0
  case neg =>
    have hK' : (K != 0) = true := by simp [hK]
    have HKn := Lib.hid hK
    clear hK HC
    go_wp2_with fail
    refine (HK.out _ hb1).mono ?_
    rintro e w2 ⟨rfl, hb2⟩
    go_wp2_with fail
    go_ret2
    exact ⟨false, by rw [if_pos HKn.out]; rfl, ⟨fun h => absurd h Bool.false_ne_true, fun h => absurd h.1 HKn.out⟩, bTrans hb1 hb2⟩
  subst hK
  go_wp2_with fail
  refine (HK.out _ hb1).mono ?_
  rintro e w2 ⟨rfl, hb2⟩
  have HQ2 := Lib.hid (HQ.out.under hb2)
  replace hb2 := bTrans hb1 hb2
  clear c0 c1 c2 HQ hb1 HK
  by_cases hEz : E = 0
  case neg =>
    have hE' : (E != 0) = true := by simp [hEz]
    have HEn := Lib.hid hEz
    clear hEz HC
    go_wp2_with fail
    refine (HP.out _ hb2).mono ?_
    rintro e w3 ⟨rfl, hb3⟩
    go_wp2_with fail
    go_ret2
    exact ⟨false, by rw [if_neg (by decide)]; rfl, ⟨fun h => absurd h Bool.false_ne_true, fun h => absurd h.2.1 HEn.out⟩, bTrans hb2 hb3⟩
  subst hEz
  go_wp2_with fail
  refine (HP.out _ hb2).mono ?_
  rintro e w3 ⟨rfl, hb3⟩
  have HQ3 := Lib.hid (HQ2.out.under hb3)
  replace hb3 := bTrans hb2 hb3
  have c0 := HQ3.out.cell (j := 0) rfl
  have c1 := HQ3.out.cell (j := 1) rfl
  have c2 := HQ3.out.cell (j := 2) rfl
  clear HQ2 hb2 HP
  have HC := Lib.hid (HC.out (by first | rfl | trivial) (by first | rfl | trivial))
  go_wp2_with fail
  refine (HC.out _ hb3).mono ?_
  rintro e w4 ⟨b, rfl, hbq, hb4⟩
  have HB := Lib.hid hbq
  clear hbq c0 c1 c2
  go_wp2_with fail
  go_ret2
  exact ⟨b, by rw [if_neg (by decide)]; rfl, HB.out.trans ⟨fun h => ⟨rfl, rfl, h⟩, fun h => h.2.2⟩, bTrans hb3 hb4⟩

theorem OwnS.one (w : World) (y : ByteArray) : OwnS w (w.alloc (.cells #[.string y] 9)) (some ⟨w.heap.size, 0, none⟩) 1 [y] :=
  ⟨⟨rfl, .inr ⟨w.heap.size, 1, #[.string y], rfl, Nat.le_refl _, heap_alloc_new w _, Nat.le_refl _, by unfold maxLen; omega, rfl, rfl⟩⟩, bAlloc (Below.refl _ _) _⟩

/-- The directories above a path, the root too. -/
def AbvRes (s : ByteArray) (w : World) (e : Ending) (w' : World) : Prop :=
  ∃ a c m l, e = .returned (.slice a m c) ∧ ((⟨#[]⟩ : ByteArray) :: l).length = m ∧ m ≤ s.size + 1 ∧ DirsTo s s.size l ∧ Holds w' a (((⟨#[]⟩ : ByteArray) :: l).map Value.string) ∧ Below w.heap.size w w'

theorem pathErr_take {s : List UInt8} (hs : Wh.pathErr s = 0) {k : Nat} (hk : s[k]? = some 47) : Wh.pathErr (s.take k) = 0 := by
  have h1 := Wh.pathErr_zero hs
  have h0 : s ≠ [] := fun e => by rw [e] at hk; cases hk
  have h2 := pathOk_take (pathOk_of h1 h0) hk
  have h3 := Wh.isPath_le h1
  unfold Wh.pathErr Wh.isPath
  rw [if_pos]
  rw [Bool.or_eq_true, Bool.and_eq_true]
  exact .inr ⟨by rw [List.length_take]; simp; omega, h2⟩
theorem pathErr_nil : Wh.pathErr [] = 0 := by decide

end Go.Proofs.YtnpcbcnclncniaaGreatDoor
namespace Go.Proofs.YtnpcbcnclncniaaGreatDoor
open Go.RowKit

section
variable {P : Program} {ops : Array Oper} {md : Region.Mode} {l n : Nat}

/-- An operation is no 'defer'. -/
def noDefer (o : Oper) : Bool := match o.op with | .defer _ => false | _ => true
theorem noDefer_spec {o : Oper} (h : noDefer o = true) : ∀ c, o.op ≠ .defer c := fun c e => by
  unfold noDefer at h
  rw [e] at h
  cases h
/-- Nothing but the normal way out. -/
def OnlyN (R : Act → World → Prop) : Exit → Act → World → Prop
  | .normal, a, w => R a w
  | _, _, _ => False
theorem calls_panic {f : FuncId} {args : Array Value} {w : World} {R R' : Ending → World → Prop} (h : Calls P f args w R) (hr : ∀ e w', R e w' → R' e w') : CallsIn (Fence.wide.inRound l) (n - 1) P f args w R' :=
  CallsIn.inRound l (callsIn_wide.2 (Calls.mono h hr))
theorem rows_in {row : String} {args : Array Value} {w : World} {R : Value → World → Prop} (h : Rows P row args w R) : RowsIn (Fence.wide.inRound l) (n - 1) P row args w R := by
  intro c cs _
  obtain ⟨v, w', r, s⟩ := h c cs
  exact ⟨v, w', r, stepsIn_wide.2 s⟩
theorem oper_inRound {o : Oper} {a : Act} {w : World} {K : Act → World → Prop} {R : Act → World → Prop} {Q : Exit → Act → World → Prop} (hd : noDefer o = true) (h : Oper.wp P o a w K (OnlyN R)) : o.wpIn (Fence.wide.inRound l) n P a w K Q := by
  refine ⟨fun _ _ => trivial, ?_⟩
  rw [Fence.inRound_round, Oper.semAt_some l _ _ (noDefer_spec hd)]
  unfold Oper.wp at h
  generalize (execOp a.eval o).run P w = r at *
  cases r with
  | ok x w' =>
    cases x <;> simp only [Oper.upon, Oper.uponIn] at h ⊢ <;> first | exact h | skip
    case enter f args =>
      refine ⟨(fun h0 => (by cases h0)), calls_panic h (fun e w'' he => ?_)⟩
      cases e with
      | returned v => exact he
      | panicked c => exact he.elim
      | outgrown =>
        obtain ⟨_, _, he⟩ := he
        exact he.elim
    case row row args => exact ⟨(fun h0 => (by cases h0)), rows_in h⟩
  | halt x w' =>
    cases x <;> simp only [Oper.upon, Oper.uponIn] at h ⊢ <;> first | exact h.elim | exact h
theorem wpOp_inRound {i : Nat} {a : Act} {w : World} {K : Act → World → Prop} {R : Act → World → Prop} {Q : Exit → Act → World → Prop} (hd : ops.all noDefer = true) (h : wpOp P ops (OnlyN R) i K a w) : wpOpIn (Fence.wide.inRound l) n P ops Q i K a w := by
  unfold wpOp at h
  unfold wpOpIn
  cases ho : ops[i]? with
  | none =>
    rw [ho] at h
    exact h
  | some o =>
    rw [ho] at h
    simp only at h ⊢
    have hdo : noDefer o = true := by
      rw [Array.all_eq_true] at hd
      obtain ⟨hi, e⟩ := Array.getElem?_eq_some_iff.1 ho
      rw [← e]
      exact hd i hi
    split
    · rename_i hw
      rw [if_pos hw] at h
      rcases h with h | ⟨_, _, _, h⟩
      · exact oper_inRound hdo h
      · exact h.elim
    · rename_i hw
      rw [if_neg hw] at h
      exact ⟨fun _ _ => trivial, h⟩
theorem any_inRound {R : Act → World → Prop} {Q : Exit → Act → World → Prop} (hd : ops.all noDefer = true) (hQ : ∀ a w, R a w → Q .normal a w) : ∀ (fuel : Nat) (listed : Array Bool) (a : Act) (w : World), wpAny P md ops (OnlyN R) fuel listed a w → wpAnyIn (Fence.wide.inRound l) n P md ops Q fuel listed a w
  | 0, _, _, _, h => ⟨h.1, hQ _ _ h.2⟩
  | fuel + 1, _, _, _, h => ⟨fun e => hQ _ _ (h.1 e), fun i hi => wpOpIn_mono (fun a' w' h' => any_inRound hd hQ fuel _ a' w' h') (wpOp_inRound hd (h.2 i hi))⟩
/-- A drawn region, in a round, walked along one order. -/
theorem wpIn_region_seq {Q : Exit → Act → World → Prop} (S : World → Prop) (order : List (Nat × Bool)) {id : Nat} {a : Act} {w : World} (hm : P.follows .mixedOrders = true) (hs : Region.noSelect ops = true) (hd : ops.all noDefer = true)
    (hl : order.length ≤ ops.size) (hok : seqOk .any ops order (Array.replicate ops.size false) = true) (hS : S w.drew)
    (h : ∀ OPS, Hid (OPS = ops) → wpSeq P OPS (OnlyN (fun a w => Q .normal a w)) S order a w.drew) : (Code.region id ops true).wpIn (Fence.wide.inRound l) n P Q a w :=
  wpIn_region_any hm (any_inRound hd (fun _ _ h => h) _ _ _ _ (wpAny_of_held _ _ _ _ (wpSeq_sound hs (fun _ _ _ _ h => h.elim) order _ _ _ _ hl hok hS (h ops (Lib.hid rfl)))))
theorem seq_doneIn {R : Act → World → Prop} {S : World → Prop} {a : Act} {w : World} (h : R a w) : wpSeq P ops (OnlyN R) S [] a w := h
end
end Go.Proofs.YtnpcbcnclncniaaGreatDoor
namespace Go.Proofs.YtnpcbcnclncniaaGreatDoor
open Go.RowKit

section
variable {P : Program} {ops : Array Oper} {Q : Exit → Act → World → Prop} {md : Region.Mode} {S : World → Prop}

/-- What has come up, with all that it waits for. -/
def Closed (md : Region.Mode) (ops : Array Oper) (l : Array Bool) : Prop := ∀ j k, l.getD j false = true → Region.waitsFor md ops j k = true → l.getD k false = true
theorem Closed.start (n : Nat) : Closed md ops (Array.replicate n false) := fun j k h _ => by
  rw [Array.getD_eq_getD_getElem?] at h
  by_cases hj : j < n
  · simp [hj] at h
  · simp [Array.getElem?_eq_none (show (Array.replicate n false).size ≤ j by simp; omega)] at h
theorem Closed.next {l : Array Bool} (h : Closed md ops l) {i : Nat} (hi : i ∈ Region.ready md ops l) : Closed md ops (l.setIfInBounds i true) := fun j k hj hw => by
  by_cases e : i = j
  · subst e
    obtain ⟨_, oi, hoi, hall⟩ := mem_ready.1 hi
    obtain ⟨oj, hoj, ed, hed, hb, hon⟩ := Region.waitsFor_spec hw
    rw [hoi] at hoj
    cases hoj
    rw [← hon]
    exact getD_set_true (hall ed hed hb)
  · rw [getD_set_ne false e] at hj
    exact getD_set_true (h j k hj hw)
/-- Number z waits for all others, for some by way of others. -/
def waitsAll2 (md : Region.Mode) (ops : Array Oper) (z : Nat) : Bool := (List.range ops.size).all fun k => k == z || Region.waitsFor md ops z k || (List.range ops.size).any fun j => Region.waitsFor md ops z j && Region.waitsFor md ops j k
theorem alone_of2 {z : Nat} (h : waitsAll2 md ops z = true) {l : Array Bool} (hc : Closed md ops l) (hz : z ∈ Region.ready md ops l) {i : Nat} (hi : i ∈ Region.ready md ops l) : i = z := by
  by_cases e : i = z
  · exact e
  exfalso
  obtain ⟨h0, oi, hoi, _⟩ := mem_ready.1 hi
  obtain ⟨_, oz, hoz, hall⟩ := mem_ready.1 hz
  have hlt : i < ops.size := (Array.getElem?_eq_some_iff.1 hoi).1
  have hw := List.all_eq_true.1 h i (List.mem_range.2 hlt)
  simp only [Bool.or_eq_true, beq_iff_eq] at hw
  have hno : l.getD i false ≠ true := fun h1 => by
    rcases Nat.lt_or_ge i l.size with h' | h'
    · simp [h'] at h0 h1
      rw [h0] at h1
      cases h1
    · simp [Array.getElem?_eq_none h'] at h1
  have key : ∀ k, Region.waitsFor md ops z k = true → l.getD k false = true := fun k hk => by
    obtain ⟨oj, hoj, ed, hed, hb, hon⟩ := Region.waitsFor_spec hk
    rw [hoz] at hoj
    cases hoj
    rw [← hon]
    exact hall ed hed hb
  rcases hw with (hw | hw) | hw
  · exact e hw
  · exact hno (key i hw)
  · obtain ⟨j, _, hj⟩ := List.any_eq_true.1 hw
    rw [Bool.and_eq_true] at hj
    exact hno (hc j i (key j hj.1) hj.2)

theorem wpAnyU_first {z : Nat} (hz : waitsAll2 md ops z = true) {i : Nat} {oi : Oper} {v : Value} (hi : ops[i]? = some oi) (hsel : ∀ (j : Nat) (o : Oper) cs b, ops[j]? = some o → o.op ≠ .select cs b)
    (hQ : ∀ c a w, Q (.panic c) (a.put oi.dst v) w → Q (.panic c) a w) : ∀ (n : Nat) (l : Array Bool) (a : Act) (w : World), Closed md ops l →
      (∀ j oj, ops[j]? = some oj → j ≠ i → l.getD j true = false → (∀ e ∈ oj.after, Region.binds md e = true → e.on ≠ i) → oi.apart ops oj = true) →
      i ∈ Region.ready md ops l → YieldsIf P ops S oi v a → S w → wpAnyT P md ops Q S z n (l.setIfInBounds i true) (a.put oi.dst v) w → wpAnyT P md ops Q S z (n + 1) l a w
  | n, l, a, w, hcl, hfree, hr, hy, hS, H => by
    refine ⟨fun h => absurd hr (by rw [h]; simp), fun j hj => ?_⟩
    by_cases hji : j = i
    · subst hji
      exact hy.wpOp hi hS ⟨fun _ => hS, H⟩
    have hj' := ready_mono hj hji
    cases n with
    | zero => rw [H.1] at hj'; cases hj'
    | succ n =>
      obtain ⟨hjun, oj, hoj, hall⟩ := mem_ready.1 hj
      have hnot : ∀ e ∈ oj.after, Region.binds md e = true → e.on ≠ i := fun e he hb heq => by
        have h1 := hall e he hb
        have h0 := (mem_ready.1 hr).1
        rw [heq] at h1
        rcases Nat.lt_or_ge i l.size with h' | h'
        · simp [h'] at h0 h1
          rw [h0] at h1
          cases h1
        · simp [Array.getElem?_eq_none h'] at h1
      have hr' : i ∈ Region.ready md ops (l.setIfInBounds j true) := ready_mono hr (Ne.symm hji)
      have hjz : j ≠ z := fun e => hji (by subst e; exact (alone_of2 hz hcl hj hr).symm)
      have hfree' : ∀ k ok, ops[k]? = some ok → k ≠ i → (l.setIfInBounds j true).getD k true = false → (∀ e ∈ ok.after, Region.binds md e = true → e.on ≠ i) → oi.apart ops ok = true := fun k ok hk hki hun hno => by
        refine hfree k ok hk hki ?_ hno
        by_cases hjk : j = k
        · subst hjk
          exact hjun
        · rwa [getD_set_ne true hjk] at hun
      have h2 := wpOp_putIf hoj (hfree j oj hoj hji hjun hnot) (fun cs b => hsel i oi cs b hi) (fun cs b => hsel j oj cs b hoj) hQ hy (H.2 j hj')
      refine wpOp_mono (fun a' w' h3 => ?_) h2
      have hS' := h3.2.1 hjz
      refine ⟨fun _ => hS', wpAnyU_first hz hi hsel hQ n _ a' w' (hcl.next hj) hfree' hr' h3.1 hS' ?_⟩
      rw [Array.setIfInBounds_comm _ _ hji]
      exact h3.2.2

theorem wpSeqU_sound {z : Nat} (hz : waitsAll2 md ops z = true) (hs : Region.noSelect ops = true) (hQ : ∀ c a a' w, Q (.panic c) a w → Q (.panic c) a' w) :
    ∀ (order : List (Nat × Bool)) (fuel : Nat) (listed : Array Bool) (a : Act) (w : World), Closed md ops listed → order.length ≤ fuel → seqOk md ops order listed = true → (∀ x ∈ order.dropLast, x.1 ≠ z) → (order ≠ [] → S w) →
      wpSeqT P ops Q S z order a w → wpAnyT P md ops Q S z fuel listed a w := by
  intro order
  induction order with
  | nil =>
    intro fuel listed a w _ _ hok _ _ h
    have hr := List.isEmpty_iff.1 hok
    cases fuel with
    | zero => exact ⟨hr, h⟩
    | succ n => exact ⟨fun _ => h, by rw [hr]; simp⟩
  | cons x r ih =>
    obtain ⟨i, t⟩ := x
    intro fuel listed a w hcl hf hok hne hS0 h
    have hS := hS0 (by simp)
    rcases fuel with _ | fuel
    · simp at hf
    have hf' : r.length ≤ fuel := by simpa using hf
    have hne' : ∀ x ∈ r.dropLast, x.1 ≠ z := fun x hx => by
      cases r with
      | nil => simp at hx
      | cons y r => exact hne x (by rw [List.dropLast_cons_of_ne_nil (by simp)]; exact List.mem_cons_of_mem _ hx)
    cases t with
    | true =>
      obtain ⟨o, v, ho, hy, hr⟩ := h
      unfold seqOk at hok
      simp only [Bool.and_eq_true] at hok
      have hrd : i ∈ Region.ready md ops listed := by simpa using hok.1.1
      exact wpAnyU_first hz ho (Region.noSelect_spec hs) (fun c a w hq => hQ c _ _ w hq) fuel listed a w hcl (Region.free_spec ho hok.1.2) hrd hy hS (ih fuel _ _ _ (hcl.next hrd) hf' hok.2 hne' (fun _ => hS) hr)
    | false =>
      unfold seqOk at hok
      simp only [Bool.and_eq_true, beq_iff_eq] at hok
      refine ⟨(fun e => by rw [hok.1] at e; cases e), fun j hj => ?_⟩
      have hrd := hj
      rw [hok.1] at hj
      obtain rfl : j = i := by simpa using hj
      refine wpOp_mono (fun a' w' hh => ⟨hh.1, ih fuel _ a' w' (hcl.next hrd) hf' hok.2 hne' (fun hr => hh.1 ?_) hh.2⟩) h
      exact hne (j, false) (by rw [List.dropLast_cons_of_ne_nil hr]; exact List.mem_cons_self)

/-- The beginning: the region is shown not to panic. -/
theorem wp_region_seqU (S : World → Prop) (z : Nat) (order : List (Nat × Bool)) {id : Nat} {a : Act} {w : World} (hm : P.follows .mixedOrders = true) (hs : Region.noSelect ops = true) (hz : waitsAll2 .any ops z = true)
    (hl : order.length ≤ ops.size) (hok : seqOk .any ops order (Array.replicate ops.size false) = true) (hne : (order.dropLast.all (fun x => x.1 != z)) = true) (hS : S w.drew)
    (h : ∀ OPS, Hid (OPS = ops) → wpSeqT P OPS (NoPanic Q) S z order a w.drew) : (Code.region id ops true).wp P Q a w :=
  wp_region_noPanic (wp_region_any hm (wpAnyT_any _ _ _ _ (wpSeqU_sound hz hs (fun _ _ _ _ h => h) order _ _ _ _ (Closed.start _) hl hok (fun x hx => by simpa using List.all_eq_true.1 hne x hx) (fun _ => hS) (h ops (Lib.hid rfl)))))
/-- .. in a round of a range over a function. -/
theorem wpIn_region_seqU {l n : Nat} {Q : Exit → Act → World → Prop} (S : World → Prop) (z : Nat) (order : List (Nat × Bool)) {id : Nat} {a : Act} {w : World} (hm : P.follows .mixedOrders = true) (hs : Region.noSelect ops = true) (hd : ops.all noDefer = true) (hz : waitsAll2 .any ops z = true)
    (hl : order.length ≤ ops.size) (hok : seqOk .any ops order (Array.replicate ops.size false) = true) (hne : (order.dropLast.all (fun x => x.1 != z)) = true) (hS : S w.drew)
    (h : ∀ OPS, Hid (OPS = ops) → wpSeqT P OPS (OnlyN (fun a w => Q .normal a w)) S z order a w.drew) : (Code.region id ops true).wpIn (Fence.wide.inRound l) n P Q a w :=
  wpIn_region_any hm (any_inRound hd (fun _ _ h => h) _ _ _ _ (wpAnyT_any _ _ _ _ (wpSeqU_sound hz hs (fun _ _ _ _ h => h.elim) order _ _ _ _ (Closed.start _) hl hok (fun x hx => by simpa using List.all_eq_true.1 hne x hx) (fun _ => hS) (h ops (Lib.hid rfl)))))
theorem seqU_doneIn {R : Act → World → Prop} {z : Nat} {a : Act} {w : World} (h : R a w) : wpSeqT P ops (OnlyN R) S z [] a w := h
end
end Go.Proofs.YtnpcbcnclncniaaGreatDoor
namespace Go.Proofs.YtnpcbcnclncniaaGreatDoor
open Go.RowKit

/-- A state of the reference's automaton. -/
structure GNode where
  eps : List Nat
  part : Option ((n : Nat) × PartOf (P n))
  c : Int
  tt : Nat
/-- Its arrows. -/
def GNode.row (g : GNode) : List Arr :=
  if g.eps = [] then (match g.part with
    | some q => [⟨g.tt, some (oneB q.2)⟩]
    | none => if g.c = 0 then [] else [⟨g.tt, some (fun b => g.c == -1 || g.c == (b.toNat : Int))⟩])
  else g.eps.map (fun d => ⟨d, none⟩)
def netG (A : List GNode) : NetA := A.map GNode.row
theorem netG_len (A : List GNode) : (netG A).length = A.length := by simp [netG]
theorem netG_row {A : List GNode} {q : Nat} {g : GNode} (h : A[q]? = some g) : rowN (netG A) q = g.row := by
  unfold rowN netG
  rw [List.getD_eq_getElem?_getD, List.getElem?_map, h]
  rfl
theorem netG_old {A : List GNode} (X : List GNode) {q : Nat} (h : q < A.length) : rowN (netG (A ++ X)) q = rowN (netG A) q := by
  obtain ⟨g, hg⟩ : ∃ g, A[q]? = some g := ⟨_, List.getElem?_eq_getElem h⟩
  rw [netG_row hg, netG_row (g := g) (by rw [List.getElem?_append_left h]; exact hg)]
theorem netG_new {A X : List GNode} {k : Nat} {g : GNode} (h : X[k]? = some g) : rowN (netG (A ++ X)) (A.length + k) = g.row := netG_row (by rw [List.getElem?_append_right (by omega), Nat.add_sub_cancel_left]; exact h)
theorem netG_wf {A X : List GNode} (h : WF (netG A)) (hX : ∀ g ∈ X, ∀ a ∈ g.row, a.dst < A.length + X.length) : WF (netG (A ++ X)) := fun q a ha => by
  rw [netG_len, List.length_append]
  by_cases hq : q < A.length
  · rw [netG_old X hq] at ha
    have := h q a ha
    rw [netG_len] at this
    omega
  · by_cases hq2 : q - A.length < X.length
    · obtain ⟨g, hg⟩ : ∃ g, X[q - A.length]? = some g := ⟨_, List.getElem?_eq_getElem hq2⟩
      rw [show q = A.length + (q - A.length) by omega, netG_new hg] at ha
      exact hX g (List.mem_of_getElem? hg) a ha
    · rw [rowN_ge (by rw [netG_len, List.length_append]; omega)] at ha
      cases ha
theorem path_old {A X : List GNode} (hw : WF (netG A)) {q e : Nat} {u : List UInt8} (hq : q < A.length) : Path (netG (A ++ X)) q u e ↔ Path (netG A) q u e := by
  constructor
  · intro h
    induction h with
    | here q => exact .here q
    | free h1 h2 _ ih =>
      rw [netG_old X hq] at h1
      exact .free h1 h2 (ih (by have := hw _ _ h1; rwa [netG_len] at this))
    | byte h1 h2 h3 _ ih =>
      rw [netG_old X hq] at h1
      exact .byte h1 h2 h3 (ih (by have := hw _ _ h1; rwa [netG_len] at this))
  · intro h
    induction h with
    | here q => exact .here q
    | free h1 h2 _ ih => exact .free (by rw [netG_old X hq]; exact h1) h2 (ih (by have := hw _ _ h1; rwa [netG_len] at this))
    | byte h1 h2 h3 _ ih => exact .byte (by rw [netG_old X hq]; exact h1) h2 h3 (ih (by have := hw _ _ h1; rwa [netG_len] at this))
theorem path_first {A : NetA} {q e : Nat} {u : List UInt8} : Path A q u e ↔ (q = e ∧ u = []) ∨ (∃ a ∈ rowN A q, a.takes = none ∧ Path A a.dst u e) ∨ ∃ a ∈ rowN A q, ∃ t c v, a.takes = some t ∧ t c = true ∧ u = c :: v ∧ Path A a.dst v e := by
  constructor
  · intro h
    cases h with
    | here => exact .inl ⟨rfl, rfl⟩
    | free h1 h2 h3 => exact .inr (.inl ⟨_, h1, h2, h3⟩)
    | byte h1 h2 h3 h4 => exact .inr (.inr ⟨_, h1, _, _, _, h2, h3, rfl, h4⟩)
  · rintro (⟨rfl, rfl⟩ | ⟨a, h1, h2, h3⟩ | ⟨a, h1, t, c, v, h2, h3, rfl, h4⟩)
    · exact .here q
    · exact .free h1 h2 h3
    · exact .byte h1 h2 h3 h4

/-- What a piece of the reference's building does: states come ahead of one. -/
def BuildsB (s : List UInt8) (f : List GNode → Nat → List GNode × Nat) (r : Nat → Nat → Prop) : Prop := ∀ A tt, tt < A.length → WF (netG A) →
  (∃ X, (f A tt).1 = A ++ X) ∧ WF (netG (f A tt).1) ∧ (f A tt).2 < (f A tt).1.length ∧
  ∀ i, i ≤ s.length → (Path (netG (f A tt).1) (f A tt).2 (s.drop i) 0 ↔ ∃ j, r i j ∧ j ≤ s.length ∧ Path (netG A) tt (s.drop j) 0)
theorem BuildsB.iff2 {s : List UInt8} {f : List GNode → Nat → List GNode × Nat} {r r' : Nat → Nat → Prop} (h : BuildsB s f r) (hr : ∀ i j, i ≤ s.length → j ≤ s.length → (r i j ↔ r' i j)) : BuildsB s f r' := fun A tt ht hw => by
  obtain ⟨h1, h2, h3, h4⟩ := h A tt ht hw
  refine ⟨h1, h2, h3, fun i hi => (h4 i hi).trans ⟨fun ⟨j, a, b, c⟩ => ⟨j, (hr i j hi b).1 a, b, c⟩, fun ⟨j, a, b, c⟩ => ⟨j, (hr i j hi b).2 a, b, c⟩⟩⟩
theorem BuildsB.here (s : List UInt8) : BuildsB s (fun A tt => (A, tt)) (fun i j => i = j) := fun A tt ht hw =>
  ⟨⟨[], by simp⟩, hw, ht, fun i hi => ⟨fun h => ⟨i, rfl, hi, h⟩, fun ⟨j, e, _, h⟩ => by rw [e]; exact h⟩⟩
/-- f is built ahead of what g has built. -/
theorem BuildsB.ahead {s : List UInt8} {f g : List GNode → Nat → List GNode × Nat} {r t : Nat → Nat → Prop} (h : BuildsB s f r) (k : BuildsB s g t) : BuildsB s (fun A tt => f (g A tt).1 (g A tt).2) (fun i j => ∃ m, r i m ∧ m ≤ s.length ∧ t m j) := fun A tt ht hw => by
  obtain ⟨⟨X, k1⟩, k2, k3, k4⟩ := k A tt ht hw
  obtain ⟨⟨Y, h1⟩, h2, h3, h4⟩ := h _ _ k3 k2
  refine ⟨⟨X ++ Y, by show (f (g A tt).1 (g A tt).2).1 = _; rw [h1, k1, List.append_assoc]⟩, h2, h3, fun i hi => (h4 i hi).trans ⟨?_, ?_⟩⟩
  · rintro ⟨m, a, b, c⟩
    obtain ⟨j, d1, d2, d3⟩ := (k4 m b).1 c
    exact ⟨j, ⟨m, a, b, d1⟩, d2, d3⟩
  · rintro ⟨j, ⟨m, a, b, d1⟩, d2, d3⟩
    exact ⟨m, a, b, (k4 m b).2 ⟨j, d1, d2, d3⟩⟩
theorem drop_cons {s : List UInt8} {i : Nat} {c : UInt8} {v : List UInt8} : s.drop i = c :: v ↔ s[i]? = some c ∧ v = s.drop (i + 1) := by
  constructor
  · intro h
    have hl : i < s.length := by
      refine Nat.lt_of_not_le (fun hl => ?_)
      rw [List.drop_eq_nil_of_le hl] at h
      cases h
    rw [List.drop_eq_getElem_cons hl] at h
    injection h with h1 h2
    exact ⟨by rw [List.getElem?_eq_getElem hl, h1], h2.symm⟩
  · rintro ⟨h, rfl⟩
    obtain ⟨hl, hc⟩ := List.getElem?_eq_some_iff.1 h
    rw [List.drop_eq_getElem_cons hl, hc]

/-- One state that takes a byte. -/
theorem BuildsB.one (s : List UInt8) (g : Nat → GNode) (t : UInt8 → Bool) (hg : ∀ tt, (g tt).row = [⟨tt, some t⟩]) : BuildsB s (fun A tt => (A ++ [g tt], A.length)) (fun i j => j = i + 1 ∧ ∃ c, s[i]? = some c ∧ t c = true) := fun A tt ht hw => by
  have hrow : rowN (netG (A ++ [g tt])) A.length = [⟨tt, some t⟩] := by
    have := netG_new (A := A) (X := [g tt]) (k := 0) rfl
    rw [Nat.add_zero, hg] at this
    exact this
  refine ⟨⟨_, rfl⟩, netG_wf hw (fun g' hg' a ha => ?_), by simp, fun i hi => ?_⟩
  · rw [List.mem_singleton.1 hg', hg, List.mem_singleton] at ha
    rw [ha]
    simp only [List.length_singleton]
    omega
  · show Path (netG (A ++ [g tt])) A.length (s.drop i) 0 ↔ _
    rw [path_first, hrow]
    constructor
    · rintro (⟨h1, h2⟩ | ⟨a, h1, h2, _⟩ | ⟨a, h1, t', c, v, h2, h3, h4, h5⟩)
      · omega
      · rw [List.mem_singleton.1 h1] at h2
        cases h2
      · rw [List.mem_singleton.1 h1] at h2 h5
        injection h2 with h2
        subst h2
        obtain ⟨h6, rfl⟩ := drop_cons.1 h4
        exact ⟨i + 1, ⟨rfl, c, h6, h3⟩, (List.getElem?_eq_some_iff.1 h6).1, (path_old hw ht).1 h5⟩
    · rintro ⟨j, ⟨rfl, c, h1, h2⟩, _, h3⟩
      exact .inr (.inr ⟨_, List.mem_singleton.2 rfl, t, c, _, rfl, h2, drop_cons.2 ⟨h1, rfl⟩, (path_old hw ht).2 h3⟩)

/-- A loop of states. -/
theorem BuildsB.star (s : List UInt8) (g m : Nat → Nat → GNode) (t : UInt8 → Bool) (hg : ∀ tt n, (g tt n).row = [⟨tt, none⟩, ⟨n + 1, none⟩]) (hm : ∀ tt n, (m tt n).row = [⟨n, some t⟩]) :
    BuildsB s (fun A tt => (A ++ [g tt A.length, m tt A.length], A.length)) (fun i j => i ≤ j ∧ j ≤ s.length ∧ ∀ m, i ≤ m → m < j → ∀ c, s[m]? = some c → t c = true) := fun A tt ht hw => by
  have r0 : rowN (netG (A ++ [g tt A.length, m tt A.length])) A.length = [⟨tt, none⟩, ⟨A.length + 1, none⟩] := by
    have := netG_new (A := A) (X := [g tt A.length, m tt A.length]) (k := 0) rfl
    rw [Nat.add_zero, hg] at this
    exact this
  have r1 : rowN (netG (A ++ [g tt A.length, m tt A.length])) (A.length + 1) = [⟨A.length, some t⟩] := by
    have := netG_new (A := A) (X := [g tt A.length, m tt A.length]) (k := 1) rfl
    rw [hm] at this
    exact this
  refine ⟨⟨_, rfl⟩, netG_wf hw (fun g' hg' a ha => ?_), by simp, fun i hi => ?_⟩
  · simp only [List.mem_cons, List.not_mem_nil, or_false] at hg'
    simp only [List.length_cons, List.length_nil]
    rcases hg' with rfl | rfl
    · rw [hg] at ha
      simp only [List.mem_cons, List.not_mem_nil, or_false] at ha
      rcases ha with rfl | rfl <;> simp only [] <;> omega
    · rw [hm] at ha
      simp only [List.mem_cons, List.not_mem_nil, or_false] at ha
      subst ha
      simp only []
      omega
  · show Path (netG (A ++ [g tt A.length, m tt A.length])) A.length (s.drop i) 0 ↔ _
    generalize hB : netG (A ++ [g tt A.length, m tt A.length]) = B at *
    have hold : ∀ u, Path B tt u 0 ↔ Path (netG A) tt u 0 := fun u => by rw [← hB]; exact path_old hw ht
    have step : ∀ i, Path B A.length (s.drop i) 0 ↔ Path (netG A) tt (s.drop i) 0 ∨ ∃ c, s[i]? = some c ∧ t c = true ∧ Path B A.length (s.drop (i + 1)) 0 := fun i => by
      rw [path_first, r0]
      constructor
      · rintro (⟨h1, _⟩ | ⟨a, h1, h2, h3⟩ | ⟨a, h1, t', c, v, h2, _⟩)
        · omega
        · simp only [List.mem_cons, List.not_mem_nil, or_false] at h1
          rcases h1 with rfl | rfl
          · exact .inl ((hold _).1 h3)
          · rw [path_first, r1] at h3
            rcases h3 with ⟨h4, _⟩ | ⟨a, h4, h5, _⟩ | ⟨a, h4, t', c, v, h5, h6, h7, h8⟩
            · have h4 : A.length + 1 = 0 := h4
              omega
            · rw [List.mem_singleton.1 h4] at h5
              cases h5
            · rw [List.mem_singleton.1 h4] at h5 h8
              injection h5 with h5
              subst h5
              obtain ⟨h9, rfl⟩ := drop_cons.1 h7
              exact .inr ⟨c, h9, h6, h8⟩
        · simp only [List.mem_cons, List.not_mem_nil, or_false] at h1
          rcases h1 with rfl | rfl <;> cases h2
      · rintro (h | ⟨c, h1, h2, h3⟩)
        · exact .inr (.inl ⟨⟨tt, none⟩, by simp, rfl, (hold _).2 h⟩)
        · refine .inr (.inl ⟨⟨A.length + 1, none⟩, by simp, rfl, ?_⟩)
          have h6 : Path B (A.length + 1) (c :: s.drop (i + 1)) 0 := Path.byte (a := ⟨A.length, some t⟩) (by rw [r1]; simp) rfl h2 h3
          rw [drop_cons.2 ⟨h1, rfl⟩]
          exact h6
    obtain ⟨d, hd⟩ : ∃ d, s.length - i = d := ⟨_, rfl⟩
    induction d generalizing i with
    | zero =>
      rw [step]
      constructor
      · rintro (h | ⟨c, h1, _⟩)
        · exact ⟨i, ⟨Nat.le_refl _, hi, fun m h1 h2 => absurd h2 (by omega)⟩, hi, h⟩
        · have := (List.getElem?_eq_some_iff.1 h1).1
          omega
      · rintro ⟨j, ⟨h1, h2, _⟩, _, h4⟩
        obtain rfl : j = i := by omega
        exact .inl h4
    | succ d ih =>
      rw [step]
      have ih := ih (i + 1) (by omega) (by omega)
      constructor
      · rintro (h | ⟨c, h1, h2, h3⟩)
        · exact ⟨i, ⟨Nat.le_refl _, hi, fun m h1 h2 => absurd h2 (by omega)⟩, hi, h⟩
        · obtain ⟨j, ⟨h4, h5, h6⟩, h7, h8⟩ := ih.1 h3
          refine ⟨j, ⟨by omega, h5, fun m h9 h10 c' hc' => ?_⟩, h7, h8⟩
          by_cases e : m = i
          · subst e
            rw [h1] at hc'
            injection hc' with hc'
            rw [← hc']
            exact h2
          · exact h6 m (by omega) h10 c' hc'
      · rintro ⟨j, ⟨h1, h2, h3⟩, h4, h5⟩
        by_cases e : j = i
        · subst e
          exact .inl h5
        · obtain ⟨c, hc⟩ : ∃ c, s[i]? = some c := ⟨_, List.getElem?_eq_getElem (by omega)⟩
          exact .inr ⟨c, hc, h3 i (Nat.le_refl _) (by omega) c hc, ih.2 ⟨j, ⟨by omega, h2, fun m h6 h7 => h3 m (by omega) h7⟩, h4, h5⟩⟩

/-- A text's states. -/
def byteG (b : Int) (tt : Nat) : GNode := ⟨[], none, b, tt⟩
theorem byteG_row {b : UInt8} (hb : b ≠ 0) (tt : Nat) : (byteG b.toNat tt).row = [⟨tt, some (fun c => c == b)⟩] := by
  have h0 : ¬ ((b.toNat : Int) = 0) := fun h => hb (UInt8.toNat_inj.1 (by simpa using h))
  unfold GNode.row byteG
  simp only [if_pos, if_neg h0]
  congr 3
  funext c
  rw [Bool.eq_iff_iff]
  simp only [Bool.or_eq_true, beq_iff_eq]
  constructor
  · rintro (h | h)
    · omega
    · exact (UInt8.toNat_inj.1 (by omega)).symm
  · rintro rfl
    exact .inr rfl
def textG (T : List UInt8) (A : List GNode) (tt : Nat) : List GNode × Nat := T.foldr (fun b Aq => (Aq.1 ++ [byteG b.toNat Aq.2], Aq.1.length)) (A, tt)
theorem textG_builds (s : List UInt8) : ∀ T : List UInt8, (∀ b ∈ T, b ≠ 0) → BuildsB s (textG T) (fun i j => j = i + T.length ∧ j ≤ s.length ∧ (s.drop i).take T.length = T)
  | [], _ => (BuildsB.here s).iff2 (fun i j hi _ => by
      constructor
      · rintro rfl
        exact ⟨rfl, hi, rfl⟩
      · rintro ⟨rfl, _⟩
        rfl)
  | b :: r, h0 => (BuildsB.ahead (BuildsB.one s (fun tt => byteG b.toNat tt) (fun c => c == b) (byteG_row (h0 b (by simp)))) (textG_builds s r (fun x hx => h0 x (by simp [hx])))).iff2 (fun i j hi _ => by
      constructor
      · rintro ⟨m, ⟨rfl, c, hc, hcb⟩, _, rfl, h1, h2⟩
        obtain ⟨hl, hcc⟩ := List.getElem?_eq_some_iff.1 hc
        refine ⟨by rw [List.length_cons]; omega, by omega, ?_⟩
        rw [List.drop_eq_getElem_cons hl, List.length_cons, List.take_succ_cons, hcc, h2, beq_iff_eq.1 hcb]
      · rintro ⟨rfl, h1, h2⟩
        rw [List.length_cons] at h1 h2
        have hl : i < s.length := by omega
        rw [List.drop_eq_getElem_cons hl, List.take_succ_cons] at h2
        injection h2 with h3 h4
        exact ⟨i + 1, ⟨rfl, b, by rw [List.getElem?_eq_getElem hl, h3], beq_iff_eq.2 rfl⟩, by omega, by rw [List.length_cons]; omega, by rw [List.length_cons]; omega, h4⟩)

/-- A loop's states. -/
def onePart : (n : Nat) × PartOf (P n) := ⟨0, ⟨2, ⟨#[]⟩, false, ⟨none, 0, []⟩, ⟨none, 0, []⟩⟩⟩
def loopG (deep : Bool) (A : List GNode) (tt : Nat) : List GNode × Nat :=
  (A ++ [⟨[tt, A.length + 1], none, 0, 0⟩, (if deep then ⟨[], none, -1, A.length⟩ else ⟨[], some onePart, 0, A.length⟩)], A.length)
theorem loopG_builds (s : List UInt8) (deep : Bool) : BuildsB s (loopG deep) (fun i j => i ≤ j ∧ j ≤ s.length ∧ (deep = false → ∀ m, i ≤ m → m < j → s[m]? ≠ some 47)) := by
  refine (BuildsB.star s (fun tt n => ⟨[tt, n + 1], none, 0, 0⟩) (fun tt n => if deep then ⟨[], none, -1, n⟩ else ⟨[], some onePart, 0, n⟩) (fun c => c != 47 || deep) (fun tt n => rfl) (fun tt n => ?_)).iff2 (fun i j hi hj => ?_)
  · cases deep with
    | true =>
      show [(⟨n, some (fun b : UInt8 => (-1 : Int) == -1 || (-1 : Int) == (b.toNat : Int))⟩ : Arr)] = _
      congr 3
      funext c
      simp
    | false =>
      show [(⟨n, some (oneB onePart.2)⟩ : Arr)] = _
      congr 3
      funext c
      simp [oneB, onePart]
  · constructor
    · rintro ⟨a, b, c⟩
      refine ⟨a, b, fun e m h4 h5 h6 => ?_⟩
      have := c m h4 h5 47 h6
      rw [e] at this
      exact absurd this (by decide)
    · rintro ⟨a, b, c⟩
      refine ⟨a, b, fun m h4 h5 ch hch => ?_⟩
      cases deep with
      | true => simp
      | false =>
        have h6 : ch ≠ 47 := fun e2 => c rfl m h4 h5 (by rw [hch, e2])
        simp [h6]

/-- The ways' states: all lead to one; where each begins. -/
def waysG {α : Type} (g : Sl α → List GNode → Nat → List GNode × Nat) (tt : Nat) (ts : List (Sl α)) (Ae : List GNode × List Nat) : List GNode × List Nat := ts.foldl (fun Ae t => ((g t Ae.1 tt).1, Ae.2 ++ [(g t Ae.1 tt).2])) Ae
theorem waysG_builds {α : Type} (s : List UInt8) (g : Sl α → List GNode → Nat → List GNode × Nat) (rel : Sl α → Nat → Nat → Prop) : ∀ ts : List (Sl α), (∀ t ∈ ts, BuildsB s (g t) (rel t)) → ∀ (A : List GNode) (es : List Nat) (tt : Nat), tt < A.length → WF (netG A) → (∀ e ∈ es, e < A.length) →
    (∃ X, (waysG g tt ts (A, es)).1 = A ++ X) ∧ WF (netG (waysG g tt ts (A, es)).1) ∧ (∀ e ∈ (waysG g tt ts (A, es)).2, e < (waysG g tt ts (A, es)).1.length) ∧
    ∀ i, i ≤ s.length → ((∃ e ∈ (waysG g tt ts (A, es)).2, Path (netG (waysG g tt ts (A, es)).1) e (s.drop i) 0) ↔ (∃ e ∈ es, Path (netG A) e (s.drop i) 0) ∨ ∃ j, (∃ t ∈ ts, rel t i j) ∧ j ≤ s.length ∧ Path (netG A) tt (s.drop j) 0)
  | [], _, A, es, tt, ht, hw, he => ⟨⟨[], by simp [waysG]⟩, hw, he, fun i hi => ⟨fun h => .inl h, fun h => h.elim id (fun ⟨j, ⟨t, h, _⟩, _⟩ => by cases h)⟩⟩
  | t :: r, hb, A, es, tt, ht, hw, he => by
    obtain ⟨⟨X, k1⟩, k2, k3, k4⟩ := hb t (by simp) A tt ht hw
    have hlen : A.length ≤ (g t A tt).1.length := by rw [k1, List.length_append]; omega
    obtain ⟨⟨Y, m1⟩, m2, m3, m4⟩ := waysG_builds s g rel r (fun t ht => hb t (by simp [ht])) (g t A tt).1 (es ++ [(g t A tt).2]) tt (by omega) k2 (fun e h => by
      rcases List.mem_append.1 h with h | h
      · have := he e h
        omega
      · rw [List.mem_singleton.1 h]
        exact k3)
    have hgo : waysG g tt (t :: r) (A, es) = waysG g tt r ((g t A tt).1, es ++ [(g t A tt).2]) := rfl
    rw [hgo]
    refine ⟨⟨X ++ Y, by rw [m1, k1, List.append_assoc]⟩, m2, m3, fun i hi => (m4 i hi).trans ?_⟩
    have hold : ∀ e, e < A.length → ∀ u, Path (netG (g t A tt).1) e u 0 ↔ Path (netG A) e u 0 := fun e he u => by rw [k1]; exact path_old hw he
    constructor
    · rintro (⟨e, h1, h2⟩ | ⟨j, ⟨t', h1, h2⟩, h3, h4⟩)
      · rcases List.mem_append.1 h1 with h1 | h1
        · exact .inl ⟨e, h1, (hold e (he e h1) _).1 h2⟩
        · rw [List.mem_singleton.1 h1] at h2
          obtain ⟨j, h3, h4, h5⟩ := (k4 i hi).1 h2
          exact .inr ⟨j, ⟨t, by simp, h3⟩, h4, h5⟩
      · exact .inr ⟨j, ⟨t', by simp [h1], h2⟩, h3, (hold tt ht _).1 h4⟩
    · rintro (⟨e, h1, h2⟩ | ⟨j, ⟨t', h1, h2⟩, h3, h4⟩)
      · exact .inl ⟨e, by simp [h1], (hold e (he e h1) _).2 h2⟩
      · rcases List.mem_cons.1 h1 with rfl | h1
        · exact .inl ⟨_, by simp, (k4 i hi).2 ⟨j, h2, h3, h4⟩⟩
        · exact .inr ⟨j, ⟨t', h1, h2⟩, h3, (hold tt ht _).2 h4⟩

/-- A part's states. -/
def partG {n : Nat} (g : Sl (P n) → List GNode → Nat → List GNode × Nat) (p : PartOf (P n)) (A : List GNode) (tt : Nat) : List GNode × Nat :=
  if p.kind = 1 then textG p.text.data.toList A tt
  else if p.kind = 3 ∨ p.kind = 4 then loopG (p.kind == 4) A tt
  else if p.kind = 6 then ((waysG g tt p.ways.xs (A, [])).1 ++ [⟨(waysG g tt p.ways.xs (A, [])).2, none, 0, 0⟩], (waysG g tt p.ways.xs (A, [])).1.length)
  else (A ++ [⟨[], some ⟨n, p⟩, 0, tt⟩], A.length)
theorem partG_builds {n : Nat} {s : List UInt8} {g : Sl (P n) → List GNode → Nat → List GNode × Nat} {rel : Sl (P n) → Nat → Nat → Prop} {p : PartOf (P n)} (hk : 1 ≤ p.kind ∧ p.kind ≤ 6) (h0 : p.kind = 1 → ∀ b ∈ p.text.data.toList, b ≠ 0) (hb : ∀ t ∈ p.ways.xs, BuildsB s (g t) (rel t)) : BuildsB s (partG g p) (PRel rel s p) := by
  intro A tt ht hw
  unfold partG
  have hP : PRel rel s p = fun i j => PRel rel s p i j := rfl
  rw [hP]
  unfold PRel
  by_cases h1 : p.kind = 1
  · simp only [if_pos h1]
    have := textG_builds s p.text.data.toList (h0 h1) A tt ht hw
    rw [← Lib.size_eq] at this
    exact this
  simp only [if_neg h1]
  by_cases h3 : p.kind = 3 ∨ p.kind = 4
  · have h2 : ¬ (p.kind = 2 ∨ p.kind = 5) := by omega
    simp only [if_neg h2, if_pos h3]
    refine (loopG_builds s (p.kind == 4)).iff2 (fun i j hi hj => ?_) A tt ht hw
    have e : (p.kind == 4) = false ↔ p.kind = 3 := by
      rw [beq_eq_false_iff_ne]
      omega
    rw [e]
  simp only [if_neg h3]
  by_cases h6 : p.kind = 6
  · have h2 : ¬ (p.kind = 2 ∨ p.kind = 5) := by omega
    simp only [if_neg h2, if_pos h6]
    obtain ⟨⟨X, m1⟩, m2, m3, m4⟩ := waysG_builds s g rel p.ways.xs hb A [] tt ht hw (fun e h => by cases h)
    generalize waysG g tt p.ways.xs (A, []) = W at *
    obtain ⟨B, es⟩ := W
    dsimp only at m1 m2 m3 m4 ⊢
    have hrow : rowN (netG (B ++ [⟨es, none, 0, 0⟩])) B.length = es.map (fun d => (⟨d, none⟩ : Arr)) := by
      have := netG_new (A := B) (X := [⟨es, none, 0, 0⟩]) (k := 0) rfl
      rw [Nat.add_zero] at this
      rw [this]
      unfold GNode.row
      by_cases h : es = []
      · rw [h]
        simp
      · simp [h]
    have hBl : A.length ≤ B.length := by rw [m1, List.length_append]; omega
    refine ⟨⟨X ++ [⟨es, none, 0, 0⟩], by rw [m1, List.append_assoc]⟩, netG_wf m2 (fun g' hg' a ha => ?_), by simp, fun i hi => ?_⟩
    · rw [List.mem_singleton.1 hg'] at ha
      have h7 : a ∈ rowN (netG (B ++ [⟨es, none, 0, 0⟩])) B.length := by
        have := netG_new (A := B) (X := [⟨es, none, 0, 0⟩]) (k := 0) rfl
        rw [Nat.add_zero] at this
        rw [this]
        exact ha
      rw [hrow] at h7
      obtain ⟨d, hd, rfl⟩ := List.mem_map.1 h7
      have := m3 d hd
      simp only [List.length_singleton]
      omega
    · rw [path_first, hrow]
      have h8 := m4 i hi
      have hno : ¬ ∃ e ∈ ([] : List Nat), Path (netG A) e (s.drop i) 0 := fun ⟨e, h, _⟩ => by cases h
      constructor
      · rintro (⟨h, _⟩ | ⟨a, h, _, h9⟩ | ⟨a, h, t', c, v, h9, _⟩)
        · omega
        · obtain ⟨d, hd, rfl⟩ := List.mem_map.1 h
          exact (h8.1 ⟨d, hd, (path_old m2 (m3 d hd)).1 h9⟩).resolve_left hno
        · obtain ⟨d, hd, rfl⟩ := List.mem_map.1 h
          cases h9
      · intro h
        obtain ⟨d, hd, h9⟩ := h8.2 (.inr h)
        exact .inr (.inl ⟨⟨d, none⟩, List.mem_map.2 ⟨d, hd, rfl⟩, rfl, (path_old m2 (m3 d hd)).2 h9⟩)
  · have h2 : p.kind = 2 ∨ p.kind = 5 := by omega
    simp only [if_neg h6, if_pos h2]
    exact BuildsB.one s (fun tt => ⟨[], some ⟨n, p⟩, 0, tt⟩) (oneB p) (fun _ => rfl) A tt ht hw

/-- A list's states. -/
def listG : (n : Nat) → List (P n) → List GNode → Nat → List GNode × Nat
  | 0, _, A, tt => (A, tt)
  | n + 1, xs, A, tt => xs.foldr (fun p Aq => partG (fun t => listG n t.xs) (pt n p) Aq.1 Aq.2) (A, tt)
theorem foldG_builds {β : Type} {s : List UInt8} {f : β → List GNode → Nat → List GNode × Nat} {r : β → Nat → Nat → Prop} (hle : ∀ x i j, r x i j → i ≤ s.length → j ≤ s.length) : ∀ {xs : List β}, (∀ x ∈ xs, BuildsB s (f x) (r x)) → BuildsB s (fun A tt => xs.foldr (fun p Aq => f p Aq.1 Aq.2) (A, tt)) (LRel r xs)
  | [], _ => BuildsB.here s
  | x :: xs, hb => (BuildsB.ahead (hb x (by simp)) (foldG_builds hle (xs := xs) (fun y hy => hb y (by simp [hy])))).iff2 (fun i j hi hj => by
      constructor
      · rintro ⟨m, h1, _, h2⟩
        exact ⟨m, h1, h2⟩
      · rintro ⟨m, h1, h2⟩
        exact ⟨m, h1, hle x i m h1 hi, h2⟩)
theorem good_text {n : Nat} {p : PartOf (P n)} (hb : partBad p = false) (hk : p.kind = 1) : ∀ b ∈ p.text.data.toList, b ≠ 0 := by
  intro b hm h0
  unfold partBad formBad at hb
  rw [if_pos hk] at hb
  simp only [Bool.or_eq_false_iff] at hb
  have h := hb.2
  unfold hasNul at h
  have h2 : p.text.data.toList.contains 0 = true := by
    rw [List.contains_iff_mem]
    exact h0 ▸ hm
  rw [h] at h2
  cases h2
theorem listG_builds (s : List UInt8) : ∀ (n : Nat) (xs : List (P n)), Good n xs → BuildsB s (listG n xs) (Rel s n xs)
  | 0, _, _ => BuildsB.here s
  | n + 1, xs, hg => foldG_builds (s := s) (f := fun p => partG (fun t => listG n t.xs) (pt n p)) (fun x i j h => (PRel_le (fun t _ => Rel_le n t.xs) h).2) (fun p hp => partG_builds (hg p hp).1 (good_text (hg p hp).2.1) (fun t ht => listG_builds s n t.xs ((hg p hp).2.2.2 t ht)))
end Go.Proofs.YtnpcbcnclncniaaGreatDoor
namespace Go.Proofs.YtnpcbcnclncniaaGreatDoor
open Go.RowKit

/-- The state at the end. -/
def deadG : GNode := ⟨[], none, 0, 0⟩
theorem dead_wf : WF (netG [deadG]) := fun q a ha => by
  match q with
  | 0 => cases ha
  | q + 1 =>
    rw [rowN_ge (by rw [netG_len]; simp)] at ha
    cases ha
theorem dead_reads {s : List UInt8} {j : Nat} (hj : j ≤ s.length) : Path (netG [deadG]) 0 (s.drop j) 0 ↔ j = s.length := by
  rw [path_first]
  constructor
  · rintro (⟨_, h⟩ | ⟨a, h, _⟩ | ⟨a, h, _⟩)
    · have := congrArg List.length h
      rw [List.length_drop, List.length_nil] at this
      omega
    · cases h
    · cases h
  · rintro rfl
    exact .inl ⟨rfl, by simp⟩

def anyG (tt : Nat) : GNode := ⟨[], none, -1, tt⟩
theorem anyG_row (tt : Nat) : (anyG tt).row = [⟨tt, some (fun _ => true)⟩] := by
  show [(⟨tt, some (fun b : UInt8 => (-1 : Int) == -1 || (-1 : Int) == (b.toNat : Int))⟩ : Arr)] = _
  congr 3
theorem slash_row (tt : Nat) : (byteG 47 tt).row = [⟨tt, some (fun c => c == 47)⟩] := byteG_row (b := 47) (by decide) tt

/-- What comes behind the parts: for directories a slash, a byte, and any. -/
def tailG (dirs : Bool) : List GNode × Nat :=
  if dirs then ((loopG true [deadG] 0).1 ++ [anyG (loopG true [deadG] 0).2] ++ [byteG 47 (loopG true [deadG] 0).1.length], ((loopG true [deadG] 0).1 ++ [anyG (loopG true [deadG] 0).2]).length) else ([deadG], 0)
theorem tailG_reads (s : List UInt8) (dirs : Bool) : WF (netG (tailG dirs).1) ∧ (tailG dirs).2 < (tailG dirs).1.length ∧ ∀ j, j ≤ s.length → (Path (netG (tailG dirs).1) (tailG dirs).2 (s.drop j) 0 ↔ if dirs then s[j]? = some 47 ∧ j + 1 < s.length else j = s.length) := by
  cases dirs with
  | false => exact ⟨dead_wf, by decide, fun j hj => dead_reads hj⟩
  | true =>
    obtain ⟨_, h2, h3, h4⟩ := BuildsB.ahead (BuildsB.one s (fun tt => byteG 47 tt) (fun c => c == 47) slash_row) (BuildsB.ahead (BuildsB.one s anyG (fun _ => true) anyG_row) (loopG_builds s true)) [deadG] 0 (by decide) dead_wf
    refine ⟨h2, h3, fun j hj => (h4 j hj).trans ?_⟩
    rw [if_pos rfl]
    constructor
    · rintro ⟨k, ⟨m, ⟨rfl, c, hc, hcb⟩, _, m2, ⟨rfl, c2, hc2, _⟩, _, _⟩, _⟩
      have := (List.getElem?_eq_some_iff.1 hc2).1
      exact ⟨by rw [hc, beq_iff_eq.1 hcb], this⟩
    · rintro ⟨h5, h6⟩
      exact ⟨s.length, ⟨j + 1, ⟨rfl, 47, h5, rfl⟩, by omega, j + 1 + 1, ⟨rfl, _, List.getElem?_eq_getElem h6, rfl⟩, by omega, by omega, Nat.le_refl _, fun h => by cases h⟩, Nat.le_refl _, (dead_reads (Nat.le_refl _)).2 rfl⟩

/-- A state that leads on as it is, or by way of a piece. -/
theorem BuildsB.or {s : List UInt8} {f : List GNode → Nat → List GNode × Nat} {r : Nat → Nat → Prop} (h : BuildsB s f r) : BuildsB s (fun A tt => ((f A tt).1 ++ [⟨[tt, (f A tt).2], none, 0, 0⟩], (f A tt).1.length)) (fun i j => i = j ∨ r i j) := fun A tt ht hw => by
  obtain ⟨⟨X, h1⟩, h2, h3, h4⟩ := h A tt ht hw
  have hlen : A.length ≤ (f A tt).1.length := by rw [h1, List.length_append]; omega
  have hrow : rowN (netG ((f A tt).1 ++ [⟨[tt, (f A tt).2], none, 0, 0⟩])) (f A tt).1.length = [⟨tt, none⟩, ⟨(f A tt).2, none⟩] := by
    have := netG_new (A := (f A tt).1) (X := [⟨[tt, (f A tt).2], none, 0, 0⟩]) (k := 0) rfl
    rw [Nat.add_zero] at this
    exact this
  refine ⟨⟨X ++ [⟨[tt, (f A tt).2], none, 0, 0⟩], by show (f A tt).1 ++ _ = _; rw [← List.append_assoc, ← h1]⟩, netG_wf h2 (fun g' hg' a ha => ?_), by simp, fun i hi => ?_⟩
  · rw [List.mem_singleton.1 hg'] at ha
    have ha : a ∈ [(⟨tt, none⟩ : Arr), ⟨(f A tt).2, none⟩] := ha
    simp only [List.mem_cons, List.not_mem_nil, or_false] at ha
    simp only [List.length_singleton]
    rcases ha with rfl | rfl <;> simp only [] <;> omega
  · show Path (netG ((f A tt).1 ++ [⟨[tt, (f A tt).2], none, 0, 0⟩])) (f A tt).1.length (s.drop i) 0 ↔ _
    rw [path_first, hrow]
    have hold : ∀ u, Path (netG (f A tt).1) tt u 0 ↔ Path (netG A) tt u 0 := fun u => by rw [h1]; exact path_old hw ht
    constructor
    · rintro (⟨h, _⟩ | ⟨a, h, _, h9⟩ | ⟨a, h, t', c, v, h9, _⟩)
      · omega
      · simp only [List.mem_cons, List.not_mem_nil, or_false] at h
        rcases h with rfl | rfl
        · exact ⟨i, .inl rfl, hi, (hold _).1 ((path_old h2 (by omega)).1 h9)⟩
        · obtain ⟨j, h5, h6, h7⟩ := (h4 i hi).1 ((path_old h2 h3).1 h9)
          exact ⟨j, .inr h5, h6, h7⟩
      · simp only [List.mem_cons, List.not_mem_nil, or_false] at h
        rcases h with rfl | rfl <;> cases h9
    · rintro ⟨j, rfl | h5, h6, h7⟩
      · exact .inr (.inl ⟨⟨tt, none⟩, by simp, rfl, (path_old h2 (show tt < (f A tt).1.length by omega)).2 ((hold _).2 h7)⟩)
      · exact .inr (.inl ⟨⟨(f A tt).2, none⟩, by simp, rfl, (path_old h2 h3).2 ((h4 i hi).2 ⟨j, h5, h6, h7⟩)⟩)

/-- What comes ahead of the parts of a glob that is not rooted. -/
def frontG (A : List GNode) (tt : Nat) : List GNode × Nat :=
  ((loopG true (A ++ [byteG 47 tt]) A.length).1 ++ [⟨[tt, (loopG true (A ++ [byteG 47 tt]) A.length).2], none, 0, 0⟩], (loopG true (A ++ [byteG 47 tt]) A.length).1.length)
theorem frontG_builds (s : List UInt8) : BuildsB s frontG (fun i j => i = j ∨ (i < j ∧ s[j - 1]? = some 47)) :=
  (BuildsB.or (BuildsB.ahead (loopG_builds s true) (BuildsB.one s (fun tt => byteG 47 tt) (fun c => c == 47) slash_row))).iff2 (fun i j hi hj => by
    constructor
    · rintro (h | ⟨m, ⟨h1, _⟩, _, rfl, c, h2, h3⟩)
      · exact .inl h
      · refine .inr ⟨by omega, ?_⟩
        rw [Nat.add_sub_cancel, h2, beq_iff_eq.1 h3]
    · rintro (h | ⟨h1, h2⟩)
      · exact .inl h
      · exact .inr ⟨j - 1, ⟨by omega, by omega, fun h => by cases h⟩, by omega, by omega, 47, h2, rfl⟩)

/-- The whole automaton. -/
def wholeG (rooted dirs : Bool) (n : Nat) (xs : List (P n)) : List GNode × Nat :=
  if rooted then listG n xs (tailG dirs).1 (tailG dirs).2 else frontG (listG n xs (tailG dirs).1 (tailG dirs).2).1 (listG n xs (tailG dirs).1 (tailG dirs).2).2
theorem wholeG_reads (s : List UInt8) (rooted dirs : Bool) (n : Nat) (xs : List (P n)) (hg : Good n xs) : WF (netG (wholeG rooted dirs n xs).1) ∧ (wholeG rooted dirs n xs).2 < (wholeG rooted dirs n xs).1.length ∧
    (Path (netG (wholeG rooted dirs n xs).1) (wholeG rooted dirs n xs).2 s 0 ↔ ∃ i j, (i = 0 ∨ (rooted = false ∧ 0 < i ∧ s[i - 1]? = some 47)) ∧ Rel s n xs i j ∧ j ≤ s.length ∧ if dirs then s[j]? = some 47 ∧ j + 1 < s.length else j = s.length) := by
  obtain ⟨t1, t2, t3⟩ := tailG_reads s dirs
  cases rooted with
  | true =>
    obtain ⟨_, h2, h3, h4⟩ := listG_builds s n xs hg _ _ t2 t1
    refine ⟨h2, h3, ?_⟩
    have h5 := h4 0 (Nat.zero_le _)
    rw [List.drop_zero] at h5
    refine h5.trans ⟨?_, ?_⟩
    · rintro ⟨j, h6, h7, h8⟩
      exact ⟨0, j, .inl rfl, h6, h7, (t3 j h7).1 h8⟩
    · rintro ⟨i, j, rfl | ⟨h, _⟩, h6, h7, h8⟩
      · exact ⟨j, h6, h7, (t3 j h7).2 h8⟩
      · cases h
  | false =>
    obtain ⟨_, h2, h3, h4⟩ := BuildsB.ahead (frontG_builds s) (listG_builds s n xs hg) _ _ t2 t1
    refine ⟨h2, h3, ?_⟩
    have h5 := h4 0 (Nat.zero_le _)
    rw [List.drop_zero] at h5
    refine h5.trans ⟨?_, ?_⟩
    · rintro ⟨j, ⟨i, h9, _, h6⟩, h7, h8⟩
      refine ⟨i, j, ?_, h6, h7, (t3 j h7).1 h8⟩
      rcases h9 with rfl | ⟨h9, h10⟩
      · exact .inl rfl
      · exact .inr ⟨rfl, h9, h10⟩
    · rintro ⟨i, j, h9, h6, h7, h8⟩
      refine ⟨j, ⟨i, ?_, ?_, h6⟩, h7, (t3 j h7).2 h8⟩
      · rcases h9 with rfl | ⟨_, h9, h10⟩
        · exact .inl rfl
        · exact .inr ⟨h9, h10⟩
      · have := (Rel_le n xs i j h6).1
        omega

/-- The net of a list reads what the list reads. -/
theorem listN_reads {s : List UInt8} {n : Nat} {xs : List (P n)} (hg : Good n xs) {i j : Nat} (hij : i ≤ j) (hj : j ≤ s.length) : Path (listN n xs [[]] 0).1 0 (seg s i j) (listN n xs [[]] 0).2 ↔ Rel s n xs i j := by
  obtain ⟨_, _, _, h4, h5⟩ := listN_builds s n xs hg [[]] 0 (by decide) (fun q a ha => by
    unfold rowN at ha
    match q with
    | 0 => cases ha
    | q + 1 => cases ha)
  constructor
  · intro hp
    obtain ⟨L', h6, h7, h8⟩ := h5 (fun p k => p = 0 ∧ k = i) ⟨fun q k h => by
      obtain ⟨_, rfl⟩ := h
      omega, fun q a ha => by
      unfold rowN at ha
      match q with
      | 0 => cases ha
      | q + 1 => cases ha⟩
    have hl : (seg s i j).length = j - i := by
      unfold seg
      rw [List.length_take, List.length_drop]
      omega
    have h9 := h7.path hp i ((h6 0 (by decide) i).2 ⟨rfl, rfl⟩) (by rw [hl]; rfl)
    rw [hl, show i + (j - i) = j by omega] at h9
    obtain ⟨i', ⟨_, rfl⟩, h10⟩ := h8 j h9
    exact h10
  · exact h4 i j (by omega)

/-- What the reference says. -/
def RefBelowP (rooted dirs : Bool) (n : Nat) (xs : List (P n)) (d : List UInt8) : Prop := someN (netG (wholeG rooted dirs n xs).1) (fun q => Path (netG (wholeG rooted dirs n xs).1) (wholeG rooted dirs n xs).2 (intoDir d) q) 0

theorem grow_cut {r1 r2 : List UInt8} {k : Nat} : growN k (r1 ++ 47 :: r2) = some 3 ↔ growN k r1 = some 3 ∧ growN 0 r2 = some 3 := by
  rw [growN_app]
  constructor
  · intro h
    cases h1 : growN k r1 with
    | none => rw [h1] at h; cases h
    | some k' =>
      rw [h1] at h
      have h : growN k' (47 :: r2) = some 3 := h
      unfold growN at h
      rw [if_neg (by decide)] at h
      unfold grownN at h
      rw [if_pos rfl] at h
      by_cases h3 : k' = 3
      · rw [if_pos h3] at h
        exact ⟨by rw [h3], h⟩
      · rw [if_neg h3] at h
        cases h
  · rintro ⟨h1, h2⟩
    rw [h1]
    show growN 3 (47 :: r2) = some 3
    unfold growN
    rw [if_neg (by decide)]
    unfold grownN
    rw [if_pos rfl, if_pos rfl]
    exact h2
theorem grow_ne {r : List UInt8} (h : growN 0 r = some 3) : r ≠ [] := by
  rintro rfl
  cases h

theorem refBelow_iff {rooted dirs : Bool} {n : Nat} {xs : List (P n)} {d : List UInt8} (hg : Good n xs) (hd : Wh.isPath d = true) : RefBelowP rooted dirs n xs d ↔ BelowP rooted dirs n xs d := by
  have hT : intoDir d = [] ∨ (d ≠ [] ∧ intoDir d = d ++ [47]) := by
    unfold intoDir
    by_cases e : d = []
    · exact .inl (if_pos e)
    · exact .inr ⟨e, if_neg e⟩
  have hlT : 0 < (intoDir d).length → (intoDir d)[(intoDir d).length - 1]? = some 47 := fun h0 => by
    rcases hT with h | ⟨_, h⟩
    · rw [h] at h0
      cases h0
    · rw [h]
      simp
  -- what lies below, in places
  have hcore : (∃ r i, growN 0 r = some 3 ∧ (i = 0 ∨ (rooted = false ∧ 0 < i ∧ (intoDir d ++ r)[i - 1]? = some 47)) ∧ i ≤ (intoDir d ++ r).length ∧ Rel (intoDir d ++ r) n xs i (intoDir d ++ r).length) ↔
      someN (listN n xs [[]] 0).1 (behind (listN n xs [[]] 0).1 rooted (intoDir d) (intoDir d).length) (listN n xs [[]] 0).2 := by
    generalize intoDir d = T at hlT ⊢
    have hdT : ∀ r, (T ++ r).drop T.length = r := fun r => by simp
    have hseg : ∀ r i, i ≤ T.length → seg (T ++ r) i (T ++ r).length = seg T i T.length ++ r := fun r i hi => by
      rw [← seg_app (m := T.length) hi (by rw [List.length_append]; omega)]
      congr 1
      · unfold seg
        rw [List.drop_append_of_le_length hi, List.take_append_of_le_length (by rw [List.length_drop]; omega)]
      · unfold seg
        rw [hdT, List.take_of_length_le (by rw [List.length_append]; omega)]
    constructor
    · rintro ⟨r, i, hr, hb, hi, hR⟩
      by_cases hle : i ≤ T.length
      · have hp := (listN_reads hg hi (Nat.le_refl _)).2 hR
        rw [hseg r i hle, path_app] at hp
        obtain ⟨m, h1, h2⟩ := hp
        refine ⟨m, r, ⟨i, ?_, hle, h1⟩, h2, hr⟩
        rcases hb with hb | ⟨h3, h4, h5⟩
        · exact .inl hb
        · rw [List.getElem?_append_left (by omega)] at h5
          exact .inr ⟨h3, h4, h5⟩
      · obtain ⟨h3, h4, h5⟩ : rooted = false ∧ 0 < i ∧ (T ++ r)[i - 1]? = some 47 := by
          rcases hb with hb | hb
          · omega
          · exact hb
        have hp := (listN_reads hg hi (Nat.le_refl _)).2 hR
        have h6 : seg (T ++ r) i (T ++ r).length = r.drop (i - T.length) := by
          unfold seg
          rw [List.take_of_length_le (by rw [List.length_drop]; exact Nat.le_refl _), List.drop_append, List.drop_eq_nil_of_le (by omega), List.nil_append]
        rw [h6] at hp
        rw [List.getElem?_append_right (by omega)] at h5
        have h7 := cut_at h5
        rw [show i - 1 - T.length + 1 = i - T.length by omega] at h7
        rw [h7] at hr
        obtain ⟨_, h8⟩ := grow_cut.1 hr
        refine ⟨0, _, ⟨T.length, ?_, Nat.le_refl _, by rw [seg_self]; exact .here _⟩, hp, h8⟩
        rcases Nat.eq_zero_or_pos T.length with e | e
        · exact .inl e
        · exact .inr ⟨h3, e, hlT e⟩
    · rintro ⟨q, r, ⟨i, hb, hi, h1⟩, h2, h3⟩
      refine ⟨r, i, h3, ?_, by rw [List.length_append]; omega, ?_⟩
      · rcases hb with hb | ⟨h4, h5, h6⟩
        · exact .inl hb
        · exact .inr ⟨h4, h5, by rw [List.getElem?_append_left (by omega)]; exact h6⟩
      · refine (listN_reads hg (by rw [List.length_append]; omega) (Nat.le_refl _)).1 ?_
        rw [hseg r i hi]
        exact h1.trans h2
  have hwhole : RefBelowP rooted dirs n xs d ↔ ∃ r, growN 0 r = some 3 ∧ ∃ i j, (i = 0 ∨ (rooted = false ∧ 0 < i ∧ (intoDir d ++ r)[i - 1]? = some 47)) ∧ Rel (intoDir d ++ r) n xs i j ∧ j ≤ (intoDir d ++ r).length ∧ if dirs then (intoDir d ++ r)[j]? = some 47 ∧ j + 1 < (intoDir d ++ r).length else j = (intoDir d ++ r).length := by
    unfold RefBelowP someN
    constructor
    · rintro ⟨q, r, h1, h2, h3⟩
      exact ⟨r, h3, (wholeG_reads (intoDir d ++ r) rooted dirs n xs hg).2.2.1 (h1.trans h2)⟩
    · rintro ⟨r, h3, h⟩
      obtain ⟨q, h1, h2⟩ := path_app.1 ((wholeG_reads (intoDir d ++ r) rooted dirs n xs hg).2.2.2 h)
      exact ⟨q, r, h1, h2, h3⟩
  rw [hwhole]
  unfold BelowP
  rw [← hcore]
  cases dirs with
  | false =>
    constructor
    · rintro ⟨r, hr, i, j, hb, hR, hj, hjj⟩
      rw [if_neg (by decide)] at hjj
      subst hjj
      exact .inr ⟨r, i, hr, hb, (Rel_le n xs _ _ hR).1, hR⟩
    · rintro (⟨h, _⟩ | ⟨r, i, hr, hb, hi, hR⟩)
      · cases h
      · exact ⟨r, hr, i, _, hb, hR, Nat.le_refl _, by rw [if_neg (by decide)]⟩
  | true =>
    constructor
    · rintro ⟨r, hr, i, j, hb, hR, hj, hjj⟩
      rw [if_pos rfl] at hjj
      obtain ⟨hj1, hj2⟩ := hjj
      have hij := (Rel_le n xs _ _ hR).1
      by_cases hjT : j < (intoDir d).length
      · obtain ⟨hd0, hTd⟩ : d ≠ [] ∧ intoDir d = d ++ [47] := by
          rcases hT with h | h
          · rw [h] at hjT
            cases hjT
          · exact h
        rw [hTd] at hb hR hj1 hjT
        have hjd : j ≤ d.length := by
          rw [List.length_append, List.length_singleton] at hjT
          omega
        have hR2 : Rel d n xs i j := by
          have := (Rel_take (s := d ++ [47] ++ r) (k := d.length) (by simp) n xs i j hjd).2 hR
          rwa [List.append_assoc, List.take_left] at this
        have hb2 : Begins rooted d i := by
          rcases hb with hb | ⟨h1, h2, h3⟩
          · exact .inl hb
          · rw [List.append_assoc, List.getElem?_append_left (by omega)] at h3
            exact .inr ⟨h1, h2, h3⟩
        refine .inl ⟨rfl, hd0, ?_⟩
        by_cases e : j = d.length
        · subst e
          exact .inl ⟨rfl, i, hb2, by omega, hR2⟩
        · rw [List.append_assoc, List.getElem?_append_left (by omega)] at hj1
          refine .inr ⟨rfl, j, ?_, by omega, hj1, i, hb2, by omega, hR2⟩
          refine Nat.pos_of_ne_zero (fun h0 => ?_)
          subst h0
          have hp := pathOk_take (pathOk_of hd hd0) hj1
          exact pathOk_ne hp rfl
      · have hjT : (intoDir d).length ≤ j := by omega
        rw [List.getElem?_append_right hjT] at hj1
        have h7 := cut_at hj1
        have hr2 := hr
        rw [h7] at hr2
        obtain ⟨h8, _⟩ := grow_cut.1 hr2
        have hlt := (List.getElem?_eq_some_iff.1 hj1).1
        have hl : (intoDir d ++ r.take (j - (intoDir d).length)).length = j := by
          rw [List.length_append, List.length_take]
          omega
        have htk : (intoDir d ++ r).take j = intoDir d ++ r.take (j - (intoDir d).length) := by
          rw [List.take_append, List.take_of_length_le hjT]
        refine .inr ⟨r.take (j - (intoDir d).length), i, h8, ?_, by omega, ?_⟩
        · rcases hb with hb | ⟨h1, h2, h3⟩
          · exact .inl hb
          · refine .inr ⟨h1, h2, ?_⟩
            rw [← htk, List.getElem?_take_of_lt (by omega)]
            exact h3
        · have := (Rel_take (s := intoDir d ++ r) (k := j) hj n xs i j (Nat.le_refl _)).2 hR
          rw [hl, ← htk]
          exact this
    · rintro (⟨_, hd0, h⟩ | ⟨r, i, hr, hb, hi, hR⟩)
      · have hTd : intoDir d = d ++ [47] := by
          unfold intoDir
          rw [if_neg hd0]
        rw [hTd]
        have key : ∀ j, j ≤ d.length → (j = d.length ∨ d[j]? = some 47) → Ends rooted n xs d j → ∃ r, growN 0 r = some 3 ∧ ∃ i j, (i = 0 ∨ (rooted = false ∧ 0 < i ∧ (d ++ [47] ++ r)[i - 1]? = some 47)) ∧ Rel (d ++ [47] ++ r) n xs i j ∧ j ≤ (d ++ [47] ++ r).length ∧ if true = true then (d ++ [47] ++ r)[j]? = some 47 ∧ j + 1 < (d ++ [47] ++ r).length else j = (d ++ [47] ++ r).length := by
          rintro j hj hjc ⟨i, hb, hi, hR⟩
          refine ⟨[97], by decide, i, j, ?_, ?_, by simp; omega, ?_⟩
          · rcases hb with hb | ⟨h1, h2, h3⟩
            · exact .inl hb
            · have := (Rel_le n xs _ _ hR).1
              exact .inr ⟨h1, h2, by rw [List.append_assoc, List.getElem?_append_left (by omega)]; exact h3⟩
          · refine (Rel_take (s := d ++ [47] ++ [97]) (k := d.length) (by simp) n xs i j hj).1 ?_
            rwa [List.append_assoc, List.take_left]
          · rw [if_pos rfl]
            refine ⟨?_, by simp; omega⟩
            rw [List.append_assoc]
            rcases hjc with rfl | h
            · simp
            · rw [List.getElem?_append_left (List.getElem?_eq_some_iff.1 h).1]
              exact h
        rcases h with ⟨_, h⟩ | ⟨_, j, h1, h2, h3, h4⟩
        · exact key d.length (Nat.le_refl _) (.inl rfl) h
        · exact key j (by omega) (.inr h3) h4
      · refine ⟨r ++ 47 :: [97], grow_cut.2 ⟨hr, by decide⟩, i, (intoDir d ++ r).length, ?_, ?_, by simp, ?_⟩
        · rcases hb with hb | ⟨h1, h2, h3⟩
          · exact .inl hb
          · refine .inr ⟨h1, h2, ?_⟩
            rw [← List.append_assoc, List.getElem?_append_left (by omega)]
            exact h3
        · rw [← List.append_assoc]
          refine (Rel_take (s := intoDir d ++ r ++ 47 :: [97]) (k := (intoDir d ++ r).length) (by simp) n xs i _ (Nat.le_refl _)).1 ?_
          rwa [List.take_left]
        · rw [if_pos rfl, ← List.append_assoc]
          exact ⟨by simp, by simp only [List.length_append, List.length_cons, List.length_nil]; omega⟩
end Go.Proofs.YtnpcbcnclncniaaGreatDoor
namespace Go.Proofs.YtnpcbcnclncniaaGreatDoor
open Go.RowKit

/-- The types of the automaton's own blocks that are written to. -/
def gTy (ty : TypeId) : Prop := ty = 57 ∨ ty = 62
/-- Blocks of other types are as they were, and what is no cells. -/
def GKept (w w' : World) : Prop := w.heap.size ≤ w'.heap.size ∧ ∀ (k : Nat) (o : Obj), w.heap[k]? = some o → (∀ (vs : Array Value) (ty : TypeId) (fr : Nat × Nat), o = .cells vs ty fr → ¬ gTy ty) → w'.heap[k]? = some o
theorem GKept.cells {w w' : World} (h : GKept w w') {k : Nat} {vs : Array Value} {ty : TypeId} {fr : Nat × Nat} (h1 : w.heap[k]? = some (.cells vs ty fr)) (h2 : ¬ gTy ty) : w'.heap[k]? = some (.cells vs ty fr) := h.2 k _ h1 (fun vs' ty' fr' e => by
  injection e with _ e _
  exact e ▸ h2)
theorem GKept.refl (w : World) : GKept w w := ⟨Nat.le_refl _, fun _ _ h _ => h⟩
theorem GKept.trans {w w' w'' : World} (h : GKept w w') (k : GKept w' w'') : GKept w w'' := ⟨Nat.le_trans h.1 k.1, fun b o h1 h2 => k.2 b o (h.2 b o h1 h2) h2⟩
theorem GKept.below {w w' : World} (h : Below w.heap.size w w') : GKept w w' := ⟨h.size, fun k o h1 _ => by
  rw [h.block k (Array.getElem?_eq_some_iff.1 h1).1]
  exact h1⟩
theorem GKept.grown {w w' : World} {row : Option Nat} (h : w.grownBy w' row) (hr : ∀ k, row = some k → ∃ (vs : Array Value) (ty : TypeId) (fr : Nat × Nat), w.heap[k]? = some (.cells vs ty fr) ∧ gTy ty) : GKept w w' := ⟨h.size, fun k o h1 h2 => by
  have hk := (Array.getElem?_eq_some_iff.1 h1).1
  rw [h.block k hk (fun e => by
    obtain ⟨vs', ty', fr', h3, h4⟩ := hr k e.symm
    rw [h1] at h3
    injection h3 with h3
    exact h2 vs' ty' fr' h3 h4)]
  exact h1⟩
theorem GKept.setCell {w w' : World} {b i : Nat} {v : Value} (h : GKept w w') (hb : ∀ (o : Obj), w.heap[b]? = some o → ∃ (vs : Array Value) (ty : TypeId) (fr : Nat × Nat), o = .cells vs ty fr ∧ gTy ty) : GKept w (w'.setCell ⟨b, i, none⟩ v) := ⟨by simpa [World.setCell] using h.1, fun k o h1 h2 => by
  rw [Below.heap_setCell _ _ _ _ (fun e => by
    obtain ⟨vs, ty, fr, h3, h4⟩ := hb o (by rw [← show k = b from e]; exact h1)
    exact h2 vs ty fr h3 h4)]
  exact h.2 k o h1 h2⟩
/-- What is no cells stays. -/
theorem GKept.others {w w' : World} (h : GKept w w') {k : Nat} {o : Obj} (h1 : w.heap[k]? = some o) (h2 : o.isCells = false) : w'.heap[k]? = some o := h.2 k o h1 (fun vs ty fr e => by
  rw [e] at h2
  cases h2)
theorem BoxIs.gkept {w w' : World} {b : Nat} {vs : Array Value} {t : TypeId} (h : BoxIs w b vs t) (hk : GKept w w') (ht : ¬ gTy t) : BoxIs w' b vs t := hk.cells h ht
theorem int_gTy : ¬ gTy 3 := by
  unfold gTy
  decide
theorem part_gTy : ¬ gTy 92 := by
  unfold gTy
  decide

variable {X : Nat → Prop}
/-- A part's box. -/
def PartAt (w0 wx : World) (pp : Option Addr) : Option ((n : Nat) × PartOf (P n)) → Prop
  | none => pp = none
  | some q => ∃ k, pp = some ⟨k, 0, none⟩ ∧ BoxIs wx k (partArr q.2) 92 ∧ SlHolds w0 2 rgCells q.2.rg ∧ q.2.rg.xs.length ≤ 1048576
/-- A state in memory. -/
def NodeAt (X : Nat → Prop) (w0 wx : World) (g : GNode) (r : List Value) : Prop := ∃ (ea : Option Addr) (ec : Nat) (pp : Option Addr), r = [.slice ea g.eps.length ec, .pointer pp, .int .i64 g.c, .int .i64 g.tt] ∧
  wx.ownsRow w0.heap.size 3 1 (.slice ea g.eps.length ec) g.eps.length (g.eps.map vN) ∧ PartAt w0 wx pp g.part ∧ ∀ x, ea = some x → ¬ X x.block
theorem PartAt.kept {w0 wx w' : World} {pp : Option Addr} {q : Option ((n : Nat) × PartOf (P n))} (h : PartAt w0 wx pp q) (hk : GKept wx w') : PartAt w0 w' pp q := by
  cases q with
  | none => exact h
  | some q =>
    obtain ⟨k, h1, h2, h3⟩ := h
    exact ⟨k, h1, h2.gkept hk part_gTy, h3⟩
theorem intRow_kept {wx w' : World} {base n m c : Nat} {ea : Option Addr} {xs : List Value} (h : wx.ownsRow base 3 1 (.slice ea n c) m xs) (hk : GKept wx w') : w'.ownsRow base 3 1 (.slice ea n c) m xs := own_move h (fun x hx => by
  obtain ⟨cur, _, _, h3⟩ := own_ty h hx
  rw [hk.cells h3 int_gTy, h3])
theorem NodeAt.kept {w0 wx w' : World} {g : GNode} {r : List Value} (h : NodeAt X w0 wx g r) (hk : GKept wx w') : NodeAt X w0 w' g r := by
  obtain ⟨ea, ec, pp, h1, h2, h3, h4⟩ := h
  exact ⟨ea, ec, pp, h1, intRow_kept h2 hk, h3.kept hk, h4⟩
theorem NodeAt.stay {w0 wx w' : World} {g : GNode} {r : List Value} (h : NodeAt X w0 wx g r) (_hz : wx.heap.size ≤ w'.heap.size) (hs : CellsStay wx w') : NodeAt X w0 w' g r := by
  obtain ⟨ea, ec, pp, h1, h2, h3, hX⟩ := h
  refine ⟨ea, ec, pp, h1, own_move h2 (fun x hx => ?_), ?_, hX⟩
  · obtain ⟨cur, _, _, h4⟩ := own_ty h2 hx
    rw [hs _ _ _ _ h4, h4]
  · revert h3
    cases g.part with
    | none => exact fun h3 => h3
    | some q =>
      rintro ⟨k, h5, h6, h7⟩
      exact ⟨k, h5, hs _ _ _ _ h6, h7⟩
/-- The automaton in memory. -/
def GAt (X : Nat → Prop) (w0 wx : World) (b : Nat) (A : List GNode) (rows : List (List Value)) : Prop := ∃ (ga : Option Addr) (cap : Nat),
  w0.heap.size ≤ b ∧ Below w0.heap.size w0 wx ∧ BoxIs wx b #[.slice ga A.length cap] 57 ∧
  rows.length = A.length ∧ wx.ownsRow w0.heap.size 62 4 (.slice ga A.length cap) A.length rows.flatten ∧
  ∀ (i : Nat) (g : GNode) (r : List Value), A[i]? = some g → rows[i]? = some r → NodeAt X w0 wx g r
theorem GAt.below {w0 wx : World} {b : Nat} {A : List GNode} {rows : List (List Value)} (h : GAt X w0 wx b A rows) : Below w0.heap.size w0 wx := by
  obtain ⟨_, _, _, h, _⟩ := h
  exact h
theorem GAt.stay {w0 w w' : World} {b : Nat} {A : List GNode} {rows : List (List Value)} (h : GAt X w0 w b A rows) (hb : Below w0.heap.size w0 w') (hz : w.heap.size ≤ w'.heap.size) (hs : CellsStay w w') : GAt X w0 w' b A rows := by
  obtain ⟨ga, cap, h0, hbel, hbox, hl, hown, hn⟩ := h
  exact ⟨ga, cap, h0, hb, hs _ _ _ _ hbox, hl, own_move hown (fun x hx => by
    obtain ⟨cur, _, _, h3⟩ := own_ty hown hx
    rw [hs _ _ _ _ h3, h3]), fun i g r h1 h2 => (hn i g r h1 h2).stay hz hs⟩
theorem GAt.under {w0 w w' : World} {b : Nat} {A : List GNode} {rows : List (List Value)} (h : GAt X w0 w b A rows) (hb : Below w.heap.size w w') : GAt X w0 w' b A rows := h.stay (bTrans h.below hb) hb.size (CellsStay.below hb)
theorem GAt.node {w0 w : World} {b : Nat} {A : List GNode} {rows : List (List Value)} (h : GAt X w0 w b A rows) {i : Nat} {g : GNode} (hi : A[i]? = some g) : ∃ r, rows[i]? = some r ∧ NodeAt X w0 w g r := by
  obtain ⟨ga, cap, h0, hbel, hbox, hl, hown, hn⟩ := h
  obtain ⟨r, hr⟩ : ∃ r, rows[i]? = some r := ⟨_, List.getElem?_eq_getElem (by rw [hl]; exact (List.getElem?_eq_some_iff.1 hi).1)⟩
  exact ⟨r, hr, hn i g r hi hr⟩

/-- A cell of a row of the call's own, whatever its elements' size. -/
theorem own_cellN {w : World} {base n m g c q size : Nat} {e : TypeId} {xs : List Value} {v : Value} (h : w.ownsRow base e size (.slice (some ⟨g, 0, none⟩) n c) m xs) (hv : xs[q]? = some v) : w.cell? ⟨g, q, none⟩ = some v ∧ w.frozen? ⟨g, q, none⟩ = false := by
  rcases h.2 with ⟨hs, _⟩ | ⟨g', c', cur, hs, _, hg, hn, _, hsz, htk⟩
  · cases hs
  · injection hs with e1
    injection e1 with e1
    injection e1 with e1
    subst e1
    refine ⟨?_, by simp [World.frozen?, hg]⟩
    rw [← htk] at hv
    have hv' : cur.toList[q]? = some v := by
      rw [List.getElem?_take] at hv
      split at hv
      · exact hv
      · cases hv
    simp only [World.cell?, hg]
    simpa using hv'
theorem own_setN {w : World} {base n g c q size : Nat} {e : TypeId} {xs : List Value} (h : w.ownsRow base e size (.slice (some ⟨g, 0, none⟩) n c) n xs) (hq : q < n * size) (v : Value) : (w.setCell ⟨g, q, none⟩ v).ownsRow base e size (.slice (some ⟨g, 0, none⟩) n c) n (xs.set q v) := by
  refine ⟨by rw [List.length_set]; exact h.1, ?_⟩
  rcases h.2 with ⟨hv, _⟩ | ⟨g', c', cur, hv, h1, h2, h3, h4, h5, h6⟩
  · cases hv
  · injection hv with e1 _ e3
    injection e1 with e1
    injection e1 with e1 _ _
    subst e1 e3
    refine .inr ⟨g, c, cur.setIfInBounds q v, rfl, h1, ?_, h3, h4, by rw [Array.size_setIfInBounds]; exact h5, ?_⟩
    · simp [World.setCell, Array.getElem?_modify, h2]
    · apply List.ext_getElem?
      intro i
      have hcs : n * size ≤ cur.size := by
        rw [h5]
        exact Nat.mul_le_mul_right _ h3
      rw [List.getElem?_set, ← h6]
      by_cases hi : i < n * size
      · rw [List.getElem?_take_of_lt hi, List.getElem?_take_of_lt hi]
        simp only [Array.getElem?_toList, Array.getElem?_setIfInBounds]
        by_cases e : q = i
        · subst e
          rw [if_pos rfl, if_pos (by omega), if_pos rfl, if_pos (by rw [List.length_take, Array.length_toList]; omega)]
        · rw [if_neg e, if_neg e]
      · have hne : q ≠ i := by omega
        rw [List.getElem?_eq_none (by rw [List.length_take]; omega), if_neg hne, List.getElem?_eq_none (by rw [List.length_take]; omega)]
theorem flat4 {rows : List (List Value)} (h : ∀ r ∈ rows, r.length = 4) (i : Nat) (r : List Value) (hr : rows[i]? = some r) (j : Nat) (u : Value) (hu : r[j]? = some u) : rows.flatten[i * 4 + j]? = some u := by
  have hj : j < 4 := by
    rw [← h r (List.mem_of_getElem? hr)]
    exact (List.getElem?_eq_some_iff.1 hu).1
  rw [flat_get 4 (by decide) rows h (i * 4 + j), show (i * 4 + j) / 4 = i by omega, show (i * 4 + j) % 4 = j by omega, hr]
  exact hu
theorem flat_len4 : ∀ {rows : List (List Value)}, (∀ r ∈ rows, r.length = 4) → rows.flatten.length = rows.length * 4
  | [], _ => rfl
  | r :: rs, h => by
    rw [List.flatten_cons, List.length_append, h r (by simp), flat_len4 (fun r hr => h r (by simp [hr])), List.length_cons]
    omega
theorem GAt.row4 {w0 w : World} {b : Nat} {A : List GNode} {rows : List (List Value)} (h : GAt X w0 w b A rows) : ∀ r ∈ rows, r.length = 4 := by
  obtain ⟨ga, cap, h0, hbel, hbox, hl, hown, hn⟩ := h
  intro r hr
  obtain ⟨i, hi, rfl⟩ := List.getElem_of_mem hr
  obtain ⟨ea, ec, pp, h1, _⟩ := hn i A[i] rows[i] (List.getElem?_eq_getElem (by omega)) (List.getElem?_eq_getElem hi)
  rw [h1]
  rfl
/-- A state's cells. -/
theorem GAt.cells {w0 w : World} {b : Nat} {A : List GNode} {rows : List (List Value)} (h : GAt X w0 w b A rows) {i : Nat} {g : GNode} (hi : A[i]? = some g) : ∃ (gb cap : Nat) (ea : Option Addr) (ec : Nat) (pp : Option Addr),
    w.cell? ⟨b, 0, none⟩ = some (.slice (some ⟨gb, 0, none⟩) A.length cap) ∧ w.cell? ⟨gb, i * 4, none⟩ = some (.slice ea g.eps.length ec) ∧ w.cell? ⟨gb, i * 4 + 1, none⟩ = some (.pointer pp) ∧ w.cell? ⟨gb, i * 4 + 2, none⟩ = some (.int .i64 g.c) ∧ w.cell? ⟨gb, i * 4 + 3, none⟩ = some (.int .i64 g.tt) ∧
    w.ownsRow w0.heap.size 3 1 (.slice ea g.eps.length ec) g.eps.length (g.eps.map vN) ∧ PartAt w0 w pp g.part := by
  have h4 := h.row4
  obtain ⟨r, hr, ea, ec, pp, rfl, h5, h6, _⟩ := h.node hi
  obtain ⟨ga, cap, h0, hbel, hbox, hl, hown, hn⟩ := h
  have hlt := (List.getElem?_eq_some_iff.1 hi).1
  obtain ⟨gb, rfl⟩ : ∃ gb, ga = some ⟨gb, 0, none⟩ := by
    rcases hown.2 with ⟨_, h0⟩ | ⟨g, c, cur, hv, _⟩
    · omega
    · injection hv with e1
      exact ⟨g, e1⟩
  exact ⟨gb, cap, ea, ec, pp, hbox.cell (j := 0) rfl, (own_cellN hown (flat4 h4 i _ hr 0 _ rfl)).1, (own_cellN hown (flat4 h4 i _ hr 1 _ rfl)).1, (own_cellN hown (flat4 h4 i _ hr 2 _ rfl)).1, (own_cellN hown (flat4 h4 i _ hr 3 _ rfl)).1, h5, h6⟩

/-- A state more: behind the append and the store into the automaton. -/
theorem gAt_add {w0 wx w1 w' : World} {b g' cap' : Nat} {A : List GNode} {rows : List (List Value)} {ga : Option Addr} {cap : Nat} {g : GNode} {r : List Value}
    (hb0 : w0.heap.size ≤ b) (hbel : Below w0.heap.size w0 wx) (hbox : BoxIs wx b #[.slice ga A.length cap] 57) (hl : rows.length = A.length)
    (hown : wx.ownsRow w0.heap.size 62 4 (.slice ga A.length cap) A.length rows.flatten)
    (hn : ∀ (i : Nat) (g : GNode) (r : List Value), A[i]? = some g → rows[i]? = some r → NodeAt X w0 wx g r) (hg : NodeAt X w0 wx g r)
    (hb1 : Below wx.heap.size wx w1) (hgr : w1.grownBy w' (Value.slice ga A.length cap).ownBlock)
    (hown' : w'.ownsRow w0.heap.size 62 4 (.slice (some ⟨g', 0, none⟩) (A.length + 1) cap') (A.length + 1) (rows.flatten ++ r)) :
    GAt X w0 (w'.setCell ⟨b, 0, none⟩ (.slice (some ⟨g', 0, none⟩) (A.length + 1) cap')) b (A ++ [g]) (rows ++ [r]) ∧ GKept wx (w'.setCell ⟨b, 0, none⟩ (.slice (some ⟨g', 0, none⟩) (A.length + 1) cap')) ∧ BoxIs w' b #[.slice ga A.length cap] 57 := by
  have hty : 57 ≠ 62 := by decide
  have hga : ∀ k, (Value.slice ga A.length cap).ownBlock = some k → w0.heap.size ≤ k ∧ ∃ cur, wx.heap[k]? = some (.cells cur 62 (0, 0)) := fun k hk => by
    cases ga with
    | none => cases hk
    | some x =>
      obtain ⟨cur, _, h2, h3⟩ := own_ty hown rfl
      injection hk with hk
      subst hk
      exact ⟨h2, cur, h3⟩
  have hbox' : BoxIs w' b #[.slice ga A.length cap] 57 := by
    unfold BoxIs at hbox ⊢
    have hlt := (Array.getElem?_eq_some_iff.1 hbox).1
    rw [hgr.block b (Nat.lt_of_lt_of_le hlt hb1.size) (fun e => by
      obtain ⟨_, cur', h2⟩ := hga b e.symm
      rw [hbox] at h2
      injection h2 with h2
      injection h2 with _ h3 _
      exact hty h3), hb1.block b hlt]
    exact hbox
  have hother : ∀ k, k ≠ b → (w'.setCell ⟨b, 0, none⟩ (.slice (some ⟨g', 0, none⟩) (A.length + 1) cap')).heap[k]? = w'.heap[k]? := fun k hk => Below.heap_setCell _ _ _ _ (fun e => hk e)
  have hkept : GKept wx (w'.setCell ⟨b, 0, none⟩ (.slice (some ⟨g', 0, none⟩) (A.length + 1) cap')) := by
    refine GKept.setCell ((GKept.below hb1).trans (GKept.grown hgr (fun k hk => ?_))) (fun o h => ?_)
    · obtain ⟨_, cur, h2⟩ := hga k hk
      refine ⟨cur, 62, (0, 0), ?_, .inr rfl⟩
      rw [hb1.block k (Array.getElem?_eq_some_iff.1 h2).1]
      exact h2
    · unfold BoxIs at hbox
      rw [hbox] at h
      injection h with h
      exact ⟨_, _, _, h.symm, .inl rfl⟩
  refine ⟨⟨some ⟨g', 0, none⟩, cap', hb0, ?_, ?_, ?_, ?_, ?_⟩, hkept, hbox'⟩
  · exact Below.setCell ((bTrans hbel hb1).grown hgr (Nat.le_trans hbel.size hb1.size) (fun k hk => (hga k hk).1)) hb0 _
  · rw [List.length_append, List.length_singleton]
    exact set_box hbox'
  · rw [List.length_append, List.length_append, hl]
    rfl
  · rw [List.length_append, List.length_singleton, List.flatten_append, List.flatten_singleton]
    refine own_move hown' (fun x hx => hother _ (fun e => ?_))
    obtain ⟨cur, _, _, h3⟩ := own_ty hown' hx
    unfold BoxIs at hbox'
    rw [e, hbox'] at h3
    injection h3 with h3
    injection h3 with _ h3 _
    exact hty h3
  · intro i g1 r1 h1 h2
    by_cases hi : i < A.length
    · rw [List.getElem?_append_left hi] at h1
      rw [List.getElem?_append_left (by omega)] at h2
      exact (hn i g1 r1 h1 h2).kept hkept
    · have hi2 : i = A.length := by
        have := (List.getElem?_eq_some_iff.1 h1).1
        rw [List.length_append, List.length_singleton] at this
        omega
      subst hi2
      rw [List.getElem?_append_right (Nat.le_refl _), Nat.sub_self] at h1
      rw [List.getElem?_append_right (by omega), hl, Nat.sub_self] at h2
      injection h1 with h1
      injection h2 with h2
      subst h1 h2
      exact hg.kept hkept

/-- The first of a loop's states gets its second way: behind the append and the store. -/
theorem gAt_loop {w0 w wx w1 w' : World} {b e e' c c' dst m : Nat} {A : List GNode} {rows : List (List Value)} {x : GNode} {pp : Option Addr}
    (h : GAt X w0 w b A rows) (hk : GKept w wx) (hx : x.eps = [])
    (hG : GAt X w0 wx b (A ++ [⟨[dst], none, 0, 0⟩, x]) (rows ++ [[.slice (some ⟨e, 0, none⟩) 1 c, .pointer none, .int .i64 0, .int .i64 0], [.slice none 0 0, .pointer pp, .int .i64 x.c, .int .i64 x.tt]]))
    (he : w.heap.size ≤ e) (he' : ¬ X e') (hb1 : Below wx.heap.size wx w1) (hgr : w1.grownBy w' (some e))
    (hown' : w'.ownsRow w0.heap.size 3 1 (.slice (some ⟨e', 0, none⟩) 2 c') 2 [vN dst, vN m]) :
    ∃ (gb cap : Nat), wx.cell? ⟨b, 0, none⟩ = some (.slice (some ⟨gb, 0, none⟩) (A.length + 2) cap) ∧ w'.heap[b]? = wx.heap[b]? ∧ w'.heap[gb]? = wx.heap[gb]? ∧
      GAt X w0 (w'.setCell ⟨gb, A.length * 4, none⟩ (.slice (some ⟨e', 0, none⟩) 2 c')) b (A ++ [⟨[dst, m], none, 0, 0⟩, x]) (rows ++ [[.slice (some ⟨e', 0, none⟩) 2 c', .pointer none, .int .i64 0, .int .i64 0], [.slice none 0 0, .pointer pp, .int .i64 x.c, .int .i64 x.tt]]) ∧
      GKept w (w'.setCell ⟨gb, A.length * 4, none⟩ (.slice (some ⟨e', 0, none⟩) 2 c')) := by
  have hN : (A ++ [(⟨[dst], none, 0, 0⟩ : GNode), x])[A.length]? = some ⟨[dst], none, 0, 0⟩ := by simp
  have hN2 : (A ++ [(⟨[dst], none, 0, 0⟩ : GNode), x])[A.length + 1]? = some x := by simp
  have h4 := hG.row4
  obtain ⟨hlen, hnode⟩ : rows.length = A.length ∧ ∀ (i : Nat) (g : GNode) (r : List Value), A[i]? = some g → rows[i]? = some r → NodeAt X w0 w g r := by
    obtain ⟨_, _, _, _, _, hl, _, hn⟩ := h
    exact ⟨hl, hn⟩
  obtain ⟨ga, cap, h0, hbel, hbox, hl, hown, hn⟩ := hG
  rw [List.length_append, show [(⟨[dst], none, 0, 0⟩ : GNode), x].length = 2 from rfl] at hbox hown
  obtain ⟨gb, rfl⟩ : ∃ gb, ga = some ⟨gb, 0, none⟩ := by
    rcases hown.2 with ⟨_, h0⟩ | ⟨g, c, cur, hv, _⟩
    · omega
    · injection hv with e1
      exact ⟨g, e1⟩
  obtain ⟨ea, ec, pp1, h5, h6, h7, _⟩ := hn A.length _ [.slice (some ⟨e, 0, none⟩) 1 c, .pointer none, .int .i64 0, .int .i64 0] hN (by rw [List.getElem?_append_right (by omega), hlen, Nat.sub_self]; rfl)
  obtain ⟨ea2, ec2, pp2, h8, h9, h10, _⟩ := hn (A.length + 1) _ [.slice none 0 0, .pointer pp, .int .i64 x.c, .int .i64 x.tt] hN2 (by rw [List.getElem?_append_right (by omega), hlen, Nat.add_sub_cancel_left]; rfl)
  injection h5 with h5 _
  injection h5 with h5 _ _
  subst h5
  injection h8 with _ h8
  injection h8 with h8 _
  injection h8 with h8
  subst h8
  obtain ⟨curE, _, he0, hE⟩ := own_ty h6 rfl
  obtain ⟨curG, _, hg0, hGb⟩ := own_ty hown rfl
  have hE : wx.heap[e]? = some (.cells curE 3 (0, 0)) := hE
  have hGb : wx.heap[gb]? = some (.cells curG 62 (0, 0)) := hGb
  have hty : 57 ≠ 62 ∧ 57 ≠ 3 ∧ 62 ≠ 3 := by decide
  have hne : ∀ (k : Nat) (cur : Array Value) (ty : TypeId) (fr : Nat × Nat), wx.heap[k]? = some (.cells cur ty fr) → ty ≠ 3 → k ≠ e := fun k cur ty fr h1 h2 h3 => by
    subst h3
    rw [hE] at h1
    injection h1 with h1
    injection h1 with _ h1 _
    exact h2 h1.symm
  have hsame : ∀ k, k < wx.heap.size → k ≠ e → w'.heap[k]? = wx.heap[k]? := fun k hk h1 => by
    rw [hgr.block k (Nat.lt_of_lt_of_le hk hb1.size) (fun h => h1 (by injection h)), hb1.block k hk]
  unfold BoxIs at hbox
  have hbs : w'.heap[b]? = wx.heap[b]? := hsame b (Array.getElem?_eq_some_iff.1 hbox).1 (hne b _ _ _ hbox hty.2.1)
  have hgs : w'.heap[gb]? = wx.heap[gb]? := hsame gb (Array.getElem?_eq_some_iff.1 hGb).1 (hne gb _ _ _ hGb hty.2.2)
  have hbg : b ≠ gb := fun h => by
    rw [h, hGb] at hbox
    injection hbox with hbox
    injection hbox with _ h1 _
    exact hty.1 h1.symm
  have hother : ∀ k, k ≠ gb → (w'.setCell ⟨gb, A.length * 4, none⟩ (.slice (some ⟨e', 0, none⟩) 2 c')).heap[k]? = w'.heap[k]? := fun k hk => Below.heap_setCell _ _ _ _ (fun e => hk e)
  have hkept : GKept w (w'.setCell ⟨gb, A.length * 4, none⟩ (.slice (some ⟨e', 0, none⟩) 2 c')) := by
    refine ⟨?_, fun k o h1 h2 => ?_⟩
    · have := hk.1
      have := hb1.size
      have := hgr.size
      simp only [World.setCell, Array.size_modify]
      omega
    · have h3 := hk.2 k o h1 h2
      have hkl := (Array.getElem?_eq_some_iff.1 h1).1
      have hkg : k ≠ gb := fun h => by
        rw [h, hGb] at h3
        injection h3 with h3
        exact h2 _ _ _ h3.symm (.inr rfl)
      rw [hother k hkg, hsame k (Array.getElem?_eq_some_iff.1 h3).1 (by omega)]
      exact h3
  refine ⟨gb, cap, ?_, hbs, hgs, ⟨some ⟨gb, 0, none⟩, cap, h0, ?_, ?_, ?_, ?_, ?_⟩, hkept⟩
  · exact BoxIs.cell (j := 0) hbox rfl
  · exact Below.setCell ((bTrans hbel hb1).grown hgr (Nat.le_trans hbel.size hb1.size) (fun k hk => by cases hk; exact he0)) (p := ⟨gb, A.length * 4, none⟩) hg0 _
  · unfold BoxIs
    rw [hother b hbg, hbs, List.length_append]
    exact hbox
  · rw [List.length_append, List.length_append, hlen]
    rfl
  · have hfl : rows.flatten.length = A.length * 4 := by
      rw [flat_len4 (fun r hr => h4 r (by simp [hr])), hlen]
    have h11 := own_setN (q := A.length * 4) (own_move (w' := w') hown (fun x hx => by injection hx with hx; rw [← hx]; exact hgs)) (by omega) (.slice (some ⟨e', 0, none⟩) 2 c')
    rw [List.flatten_append, List.set_append_right _ _ (by omega), hfl, Nat.sub_self] at h11
    rw [List.flatten_append, List.length_append]
    exact h11
  · intro i g r h11 h12
    by_cases hi : i < A.length
    · rw [List.getElem?_append_left hi] at h11
      rw [List.getElem?_append_left (by omega)] at h12
      exact (hnode i g r h11 h12).kept hkept
    · have hi2 : i - A.length < 2 := by
        have := (List.getElem?_eq_some_iff.1 h11).1
        rw [List.length_append] at this
        simp at this
        omega
      rw [List.getElem?_append_right (by omega)] at h11 h12
      rw [hlen] at h12
      have hcase : i - A.length = 0 ∨ i - A.length = 1 := by omega
      rcases hcase with hc | hc
      · rw [hc] at h11 h12
        injection h11 with h11
        injection h12 with h12
        subst h11 h12
        refine ⟨some ⟨e', 0, none⟩, c', none, rfl, own_move hown' (fun x hx => hother _ (fun h => ?_)), rfl, fun x hx => by injection hx with hx; rw [← hx]; exact he'⟩
        obtain ⟨cur, _, _, h3⟩ := own_ty hown' hx
        rw [h, hgs, hGb] at h3
        injection h3 with h3
        injection h3 with _ h3 _
        exact hty.2.2 h3
      · rw [hc] at h11 h12
        injection h11 with h11
        injection h12 with h12
        subst h11 h12
        refine ⟨none, 0, pp, by rw [hx]; rfl, by rw [hx]; exact World.ownsRow_nil _ _ _ _, ?_, fun x hx => by cases hx⟩
        cases hp : x.part with
        | none =>
          rw [hp] at h10
          exact h10
        | some q =>
          rw [hp] at h10
          obtain ⟨k, h1, h2, h3⟩ := h10
          refine ⟨k, h1, ?_, h3⟩
          unfold BoxIs at h2 ⊢
          have hkg : k ≠ gb := fun h => by
            rw [h, hGb] at h2
            injection h2 with h2
            injection h2 with _ h2 _
            exact absurd h2 (by decide)
          rw [hother k hkg, hsame k (Array.getElem?_eq_some_iff.1 h2).1 (hne k _ _ _ h2 (by decide))]
          exact h2
/-- Fewer blocks to stay clear of. -/
theorem NodeAt.clear {Y : Nat → Prop} {w0 wx : World} {g : GNode} {r : List Value} (h : NodeAt X w0 wx g r) (hY : ∀ (ea : Option Addr) (ec : Nat), r[0]? = some (.slice ea g.eps.length ec) → ∀ x, ea = some x → ¬ X x.block → ¬ Y x.block) : NodeAt Y w0 wx g r := by
  obtain ⟨ea, ec, pp, h1, h2, h3, h4⟩ := h
  exact ⟨ea, ec, pp, h1, h2, h3, fun x hx => hY ea ec (by rw [h1]; rfl) x hx (h4 x hx)⟩
theorem GAt.less {Y : Nat → Prop} {w0 w : World} {b : Nat} {A : List GNode} {rows : List (List Value)} (h : GAt X w0 w b A rows) (hY : ∀ k, Y k → X k) : GAt Y w0 w b A rows := by
  obtain ⟨ga, cap, h0, hbel, hbox, hl, hown, hn⟩ := h
  exact ⟨ga, cap, h0, hbel, hbox, hl, hown, fun i g r h1 h2 => (hn i g r h1 h2).clear (fun _ _ _ x _ h3 h4 => h3 (hY _ h4))⟩
/-- A block that is not there yet is none of the automaton's. -/
theorem GAt.fresh {w0 w : World} {b k : Nat} {A : List GNode} {rows : List (List Value)} (h : GAt X w0 w b A rows) (hk : w.heap.size ≤ k) : GAt (fun j => X j ∨ j = k) w0 w b A rows := by
  obtain ⟨ga, cap, h0, hbel, hbox, hl, hown, hn⟩ := h
  refine ⟨ga, cap, h0, hbel, hbox, hl, hown, fun i g r h1 h2 => ?_⟩
  obtain ⟨ea, ec, pp, h3, h4, h5, h6⟩ := hn i g r h1 h2
  refine ⟨ea, ec, pp, h3, h4, h5, fun x hx h7 => ?_⟩
  rcases h7 with h7 | h7
  · exact h6 x hx h7
  · obtain ⟨cur, _, _, h8⟩ := own_ty h4 hx
    have := (Array.getElem?_eq_some_iff.1 h8).1
    omega
end Go.Proofs.YtnpcbcnclncniaaGreatDoor
namespace Go.Proofs.YtnpcbcnclncniaaGreatDoor
open Go.RowKit

variable {X : Nat → Prop}
theorem elem_gnode : ∃ i : TypeInfo, Tryz.prog.underlying 55 = some (.slice 62) ∧ Tryz.prog.info? 62 = some i ∧ i.zero = some (.agg #[.slice none 0 0, .pointer none, .int .i64 0, .int .i64 0]) ∧ i.size = 4 ∧ i.bytes = 48 := by
  obtain ⟨i0, hi, hz0, hz1, hz2⟩ := info_parts (show (Tryz.prog.info? 62).map (fun i => (i.zero, i.size, i.bytes)) = some (some (.agg #[.slice none 0 0, .pointer none, .int .i64 0, .int .i64 0]), 4, 48) by kernel_rfl)
  exact ⟨i0, Tryz.underlying55, hi, hz0, hz1, hz2⟩

set_option maxRecDepth 100000 in
theorem wp_appG {o : Oper} {act : Act} {K : Act → World → Prop} {Q : Exit → Act → World → Prop} {te : TypeId} {w0 wx : World} {a : Option Addr} {n cap : Nat} {xs : List Value}
    (hz : w0.heap.size ≤ wx.heap.size) (hO : wx.ownsRow w0.heap.size 62 4 (.slice a n cap) n xs) (hby : n ≤ 1000000000) (ea : Option Addr) (el ec : Nat) (pp : Option Addr) (ic it : Int) (s x : Operand)
    (ho : o.op = .call { callee := .builtin .append, args := #[s, x], argTypes := #[55, 55] }) (hs : act.eval s = .slice a n cap) (hx : act.eval x = .slice (some ⟨wx.heap.size, 0, none⟩) 1 1)
    (h : ∀ g cap' w', w'.ownsRow w0.heap.size 62 4 (.slice (some ⟨g, 0, none⟩) (n + 1) cap') (n + 1) (xs ++ [.slice ea el ec, .pointer pp, .int .i64 ic, .int .i64 it]) → (wx.alloc (.cells #[.slice ea el ec, .pointer pp, .int .i64 ic, .int .i64 it] te)).grownBy w' (Value.slice a n cap).ownBlock → K (act.put o.dst (.slice (some ⟨g, 0, none⟩) (n + 1) cap')) w') :
    o.wp Tryz.prog act (wx.alloc (.cells #[.slice ea el ec, .pointer pp, .int .i64 ic, .int .i64 it] te)) K Q := by
  obtain ⟨i, ht, hi, hz0, hz1, hz2⟩ := elem_gnode
  have hba : w0.heap.size ≤ (wx.alloc (.cells #[.slice ea el ec, .pointer pp, .int .i64 ic, .int .i64 it] te)).heap.size := by simp; omega
  refine wp_append_lies _ s x 55 ho w0.heap.size 62 i _ 4 48 ht hi hz0 hz1 hz2 rfl (by decide) _ n xs hs (hO.alloc _) ⟨wx.heap.size, 0, none⟩ 1 1 [.slice ea el ec, .pointer pp, .int .i64 ic, .int .i64 it] hx rfl (World.news_of_block (heap_alloc_new wx (.cells #[.slice ea el ec, .pointer pp, .int .i64 ic, .int .i64 it] te))) (by intro u hu; simp only [List.mem_cons, List.not_mem_nil, or_false] at hu; rcases hu with rfl | rfl | rfl | rfl <;> rfl) (by decide) (by unfold maxLen; omega) (by omega) hba _ rfl ?_
  intro g cap' w' hown hgrow hat hlt
  exact h g cap' w' hown hgrow

set_option maxHeartbeats 4000000 in
set_option maxRecDepth 100000 in
theorem add_any {w0 : World} {b : Nat} {A : List GNode} {rows : List (List Value)} (w : World) (h : GAt X w0 w b A rows) (g : GNode) (r0 r1 r2 r3 : Value) (hg : NodeAt X w0 w g [r0, r1, r2, r3]) (hl : A.length ≤ 100000000) :
    Calls Tryz.prog 26 #[.pointer (some ⟨b, 0, none⟩), .agg #[r0, r1, r2, r3]] w fun e w' => e = .returned (.int .i64 A.length) ∧ GAt X w0 w' b (A ++ [g]) (rows ++ [[r0, r1, r2, r3]]) ∧ GKept w w' := by
  have hg0 := hg
  obtain ⟨ea, ec, pp, hr, _, _⟩ := hg0
  injection hr with e0 hr
  injection hr with e1 hr
  injection hr with e2 hr
  injection hr with e3 _
  subst e0 e1 e2 e3
  generalize hel : g.eps.length = el at *
  clear hel
  obtain ⟨ic, hic⟩ : ∃ n : Int, g.c = n := ⟨_, rfl⟩
  obtain ⟨it, hit⟩ : ∃ n : Int, (g.tt : Int) = n := ⟨_, rfl⟩
  rw [hic, hit] at hg ⊢
  clear hic hit
  obtain ⟨ga, cap, hb0, hbel, hbox, hlr, hown, hn⟩ := h
  have hb1 := bAlloc (Below.refl w.heap.size w) (.cells #[.slice ea el ec, .pointer pp, .int .i64 ic, .int .i64 it] 62)
  have hx0 := BoxIs.new w #[.slice ea el ec, .pointer pp, .int .i64 ic, .int .i64 it] 62
  have HB : Hid (∀ (k : Nat), (Value.slice ga A.length cap).ownBlock = some k → k ≠ w.heap.size) := Lib.hid (fun k hk => by
    cases ga with
    | none => cases hk
    | some x =>
      obtain ⟨cur, _, _, h3⟩ := own_ty hown rfl
      injection hk with hk
      subst hk
      have := (Array.getElem?_eq_some_iff.1 h3).1
      omega)
  have HX := Lib.hid hx0
  have HS := Lib.hid (fun w1 w' g' cap' hb2 hgr hown' => gAt_add (w1 := w1) (w' := w') (g' := g') (cap' := cap') hb0 (bTrans hbel hb1) (hbox.under hb1) hlr (hown.alloc _) (fun i g r h1 h2 => (hn i g r h1 h2).kept (GKept.below hb1)) (hg.kept (GKept.below hb1)) hb2 hgr hown')
  have HK := Lib.hid (GKept.below hb1)
  have HO := Lib.hid (show (w.alloc (.cells #[.slice ea el ec, .pointer pp, .int .i64 ic, .int .i64 it] 62)).drew.ownsRow w0.heap.size 62 4 (.slice ga A.length cap) A.length rows.flatten from hown.alloc _)
  have hz : w0.heap.size ≤ (w.alloc (.cells #[.slice ea el ec, .pointer pp, .int .i64 ic, .int .i64 it] 62)).drew.heap.size := by
    have := hbel.size
    show _ ≤ (w.alloc _).heap.size
    simp
    omega
  have c0 := BoxIs.cell (j := 0) (hbox.under hb1) rfl
  have hbl := cell_lt c0
  obtain ⟨N, hN⟩ : ∃ N, A.length = N := ⟨_, rfl⟩
  rw [hN] at HS HO c0 hl HB ⊢
  clear hb0 hbel hbox hlr hown hn hg hN hb1 hx0
  go_enter Tryz.func26, Tryz.ntmps26
  go_upto_region 1 with fail
  generalize hbx : w.heap.size = bx at *
  clear hbx
  generalize hw1 : w.alloc _ = w1 at *
  clear hw1
  have x0 := HX.out.cell (j := 0) rfl
  have x1 := HX.out.cell (j := 1) rfl
  have x2 := HX.out.cell (j := 2) rfl
  have x3 := HX.out.cell (j := 3) rfl
  have HAl := Lib.hid (fun (te : TypeId) (o : Array Value) => And.intro ((World.cell?_alloc_lt w1.drew (.cells o te) ⟨b, 0, none⟩ hbl).trans c0) (Below.heap_alloc w1.drew (.cells o te) bx HX.out.lt))
  refine wp_region_seqU (fun W => W.cell? ⟨b, 0, none⟩ = some (.slice ga N cap) ∧ W.heap[bx]? = w1.heap[bx]?) 10 [(0, true), (1, true), (2, true), (3, true), (4, true), (5, true), (6, false), (7, false), (8, true), (9, true), (10, false)] (by as_aux_lemma => kernel_rfl) (by as_aux_lemma => kernel_rfl) (by as_aux_lemma => kernel_rfl) (by decide) (by as_aux_lemma => kernel_rfl) (by decide) (⟨c0, rfl⟩) ?_
  intro OPS HOP
  refine seqT_take (o := ⟨_, _, _, _, _, _⟩) (v := ?_) (by rw [HOP.out]; rfl) (by rfl) ?_ ?_
  rotate_left 1
  · first | ((intro W _; go_simp) <;> with_reducible rfl) | (intro W hW; obtain ⟨s1, s2⟩ := hW; have y0 := cell_same s2 x0; have y1 := cell_same s2 x1; have y2 := cell_same s2 x2; have y3 := cell_same s2 x3; (go_simp <;> with_reducible rfl))
  try simp only [Act.put, List.setIfInBounds_toArray, List.set_cons_zero, List.set_cons_succ]
  refine seqT_take (o := ⟨_, _, _, _, _, _⟩) (v := ?_) (by rw [HOP.out]; rfl) (by rfl) ?_ ?_
  rotate_left 1
  · first | ((intro W _; go_simp) <;> with_reducible rfl) | (intro W hW; obtain ⟨s1, s2⟩ := hW; have y0 := cell_same s2 x0; have y1 := cell_same s2 x1; have y2 := cell_same s2 x2; have y3 := cell_same s2 x3; (go_simp <;> with_reducible rfl))
  try simp only [Act.put, List.setIfInBounds_toArray, List.set_cons_zero, List.set_cons_succ]
  refine seqT_take (o := ⟨_, _, _, _, _, _⟩) (v := ?_) (by rw [HOP.out]; rfl) (by rfl) ?_ ?_
  rotate_left 1
  · first | ((intro W _; go_simp) <;> with_reducible rfl) | (intro W hW; obtain ⟨s1, s2⟩ := hW; have y0 := cell_same s2 x0; have y1 := cell_same s2 x1; have y2 := cell_same s2 x2; have y3 := cell_same s2 x3; (go_simp <;> with_reducible rfl))
  try simp only [Act.put, List.setIfInBounds_toArray, List.set_cons_zero, List.set_cons_succ]
  refine seqT_take (o := ⟨_, _, _, _, _, _⟩) (v := ?_) (by rw [HOP.out]; rfl) (by rfl) ?_ ?_
  rotate_left 1
  · first | ((intro W _; go_simp) <;> with_reducible rfl) | (intro W hW; obtain ⟨s1, s2⟩ := hW; have y0 := cell_same s2 x0; have y1 := cell_same s2 x1; have y2 := cell_same s2 x2; have y3 := cell_same s2 x3; (go_simp <;> with_reducible rfl))
  try simp only [Act.put, List.setIfInBounds_toArray, List.set_cons_zero, List.set_cons_succ]
  refine seqT_take (o := ⟨_, _, _, _, _, _⟩) (v := ?_) (by rw [HOP.out]; rfl) (by rfl) ?_ ?_
  rotate_left 1
  · first | ((intro W _; go_simp) <;> with_reducible rfl) | (intro W hW; obtain ⟨s1, s2⟩ := hW; have y0 := cell_same s2 x0; have y1 := cell_same s2 x1; have y2 := cell_same s2 x2; have y3 := cell_same s2 x3; (go_simp <;> with_reducible rfl))
  try simp only [Act.put, List.setIfInBounds_toArray, List.set_cons_zero, List.set_cons_succ]
  refine seqT_take (o := ⟨_, _, _, _, _, _⟩) (v := ?_) (by rw [HOP.out]; rfl) (by rfl) ?_ ?_
  rotate_left 1
  · first | ((intro W _; go_simp) <;> with_reducible rfl) | (intro W hW; obtain ⟨s1, s2⟩ := hW; have y0 := cell_same s2 x0; have y1 := cell_same s2 x1; have y2 := cell_same s2 x2; have y3 := cell_same s2 x3; (go_simp <;> with_reducible rfl))
  try simp only [Act.put, List.setIfInBounds_toArray, List.set_cons_zero, List.set_cons_succ]
  refine seqT_do (o := ⟨_, _, _, _, _, _⟩) (by rw [HOP.out]; rfl) (by rfl) (fun K hK => ?_)
  go_wp2_with fail
  refine hK.out _ _ (fun _ => HAl.out _ _) ?_
  clear hK K
  try simp only [Act.put, List.setIfInBounds_toArray, List.set_cons_zero, List.set_cons_succ]
  refine seqT_do (o := ⟨_, _, _, _, _, _⟩) (by rw [HOP.out]; rfl) (by rfl) (fun K hK => ?_)
  refine wp_appG hz HO.out (by omega) ea el ec pp ic it (.tmp 9) (.tmp 11) rfl rfl rfl ?_
  intro g' c' w' hown' hgr
  obtain ⟨h1, h2, h3⟩ := HS.out _ w' g' c' (bAlloc (drB0 (Below.refl _ _)) _) hgr hown'
  have d0 := BoxIs.cell (j := 0) h3 rfl
  have df := Lib.frozen_of_heap h3 0
  have d1 : w'.heap[bx]? = w1.heap[bx]? := (hgr.block bx (Nat.lt_of_lt_of_le HX.out.lt (by show w1.heap.size ≤ (w1.alloc _).heap.size; simp)) (fun h => HB.out bx h.symm rfl)).trans (HAl.out _ _).2
  have d3 := BoxIs.cell (j := 0) (set_box (u := .slice (some ⟨g', 0, none⟩) (N + 1) c') h3) rfl
  have H12 := Lib.hid (And.intro h1 (HK.out.trans h2))
  clear h1 h2 h3 HS HO hown' hgr
  refine hK.out _ _ (fun _ => ⟨d0, d1⟩) ?_
  clear hK K
  try simp only [Act.put, List.setIfInBounds_toArray, List.set_cons_zero, List.set_cons_succ]
  refine seqT_take (o := ⟨_, _, _, _, _, _⟩) (v := ?_) (by rw [HOP.out]; rfl) (by rfl) ?_ ?_
  rotate_left 1
  · first | ((intro W _; go_simp) <;> with_reducible rfl) | (intro W hW; obtain ⟨s1, s2⟩ := hW; have y0 := cell_same s2 x0; have y1 := cell_same s2 x1; have y2 := cell_same s2 x2; have y3 := cell_same s2 x3; (go_simp <;> with_reducible rfl))
  try simp only [Act.put, List.setIfInBounds_toArray, List.set_cons_zero, List.set_cons_succ]
  refine seqT_take (o := ⟨_, _, _, _, _, _⟩) (v := ?_) (by rw [HOP.out]; rfl) (by rfl) ?_ ?_
  rotate_left 1
  · first | ((intro W _; go_simp) <;> with_reducible rfl) | (intro W hW; obtain ⟨s1, s2⟩ := hW; have y0 := cell_same s2 x0; have y1 := cell_same s2 x1; have y2 := cell_same s2 x2; have y3 := cell_same s2 x3; (go_simp <;> with_reducible rfl))
  try simp only [Act.put, List.setIfInBounds_toArray, List.set_cons_zero, List.set_cons_succ]
  refine seqT_do (o := ⟨_, _, _, _, _, _⟩) (by rw [HOP.out]; rfl) (by rfl) (fun K hK => ?_)
  go_wp2_with fail
  refine hK.out _ _ (fun h => absurd rfl h) ?_
  clear hK K
  try simp only [Act.put, List.setIfInBounds_toArray, List.set_cons_zero, List.set_cons_succ]
  refine seqT_done ?_
  clear HOP OPS
  go_wp2_with fail
  go_ret
  exact ⟨by go_num, H12.out⟩

end Go.Proofs.YtnpcbcnclncniaaGreatDoor
namespace Go.Proofs.YtnpcbcnclncniaaGreatDoor
open Go.RowKit

variable {X : Nat → Prop}
theorem intOne (w : World) (base : Nat) (hz : base ≤ w.heap.size) (q : Nat) : (w.alloc (.cells #[.int .i64 q] 3)).ownsRow base 3 1 (.slice (some ⟨w.heap.size, 0, none⟩) 1 1) 1 [vN q] :=
  ⟨rfl, .inr ⟨w.heap.size, 1, #[.int .i64 q], rfl, hz, heap_alloc_new w _, Nat.le_refl _, by unfold maxLen; omega, rfl, rfl⟩⟩
set_option maxRecDepth 100000 in
theorem wp_appE {o : Oper} {act : Act} {K : Act → World → Prop} {Q : Exit → Act → World → Prop} {te : TypeId} {base : Nat} {wx : World} {e c : Nat} {q m : Nat}
    (hz : base ≤ wx.heap.size) (hO : wx.ownsRow base 3 1 (.slice (some ⟨e, 0, none⟩) 1 c) 1 [vN q]) (s x : Operand)
    (ho : o.op = .call { callee := .builtin .append, args := #[s, x], argTypes := #[59, 59] }) (hs : act.eval s = .slice (some ⟨e, 0, none⟩) 1 c) (hx : act.eval x = .slice (some ⟨wx.heap.size, 0, none⟩) 1 1)
    (h : ∀ g cap' w', w'.ownsRow base 3 1 (.slice (some ⟨g, 0, none⟩) 2 cap') 2 [vN q, vN m] → (wx.alloc (.cells #[.int .i64 m] te)).grownBy w' (some e) → (g = e ∨ wx.heap.size ≤ g) → K (act.put o.dst (.slice (some ⟨g, 0, none⟩) 2 cap')) w') :
    o.wp Tryz.prog act (wx.alloc (.cells #[.int .i64 m] te)) K Q := by
  obtain ⟨i, ht, hi, hz0, hz1, hz2, hz3⟩ := elem_intQ
  have hba : base ≤ (wx.alloc (.cells #[.int .i64 m] te)).heap.size := by simp; omega
  refine wp_append_lies _ s x 59 ho base 3 i _ 1 8 ht hi hz0 hz1 hz2 hz3 (by decide) _ 1 [vN q] hs (hO.alloc _) ⟨wx.heap.size, 0, none⟩ 1 1 [.int .i64 m] hx rfl (World.news_of_block (heap_alloc_new wx (.cells #[.int .i64 m] te))) (by simp [Value.oneCell']) (by decide) (by decide) (by decide) hba _ rfl ?_
  intro g cap' w' hown hgrow hat hlt
  refine h g cap' w' hown hgrow ?_
  rcases hat with h' | h'
  · injection h' with h'
    exact .inl h'.symm
  · exact .inr (by rw [h']; simp)

set_option maxHeartbeats 4000000 in
set_option maxRecDepth 100000 in
theorem loop_any {w0 : World} {b : Nat} {A : List GNode} {rows : List (List Value)} (w : World) (h : GAt X w0 w b A rows) (dst : Nat) (deep : Bool) (hl : A.length ≤ 50000000) (hH : ∀ k, X k → k < w.heap.size) :
    Calls Tryz.prog 27 #[.pointer (some ⟨b, 0, none⟩), .int .i64 dst, .bool deep] w fun e w' => e = .returned (.int .i64 A.length) ∧ (∃ rows', GAt X w0 w' b (loopG deep A dst).1 rows') ∧ GKept w w' := by
  have hb1 := bAlloc (Below.refl w.heap.size w) (.cells #[.int .i64 dst] 3)
  have HG0 := Lib.hid h
  have HA1 := Lib.hid (add_any (w.alloc (.cells #[.int .i64 dst] 3)) (h.under hb1) ⟨[dst], none, 0, 0⟩ (.slice (some ⟨w.heap.size, 0, none⟩) 1 1) (.pointer none) (.int .i64 0) (.int .i64 0) ⟨some ⟨w.heap.size, 0, none⟩, 1, none, rfl, intOne w _ h.below.size dst, rfl, fun x hx hX => by injection hx with hx; rw [← hx] at hX; exact Nat.lt_irrefl _ (hH _ hX)⟩ (by omega))
  have hsz : w.heap.size ≤ w.heap.size := Nat.le_refl _
  have HA2 := Lib.hid (fun (w3 : World) (g : GNode) (rs : List (List Value)) (h3 : GAt X w0 w3 b (A ++ [⟨[dst], none, 0, 0⟩]) rs) (pp : Option Addr) (hg : NodeAt X w0 w3 g [.slice none 0 0, .pointer pp, .int .i64 g.c, .int .i64 g.tt]) => add_any w3 h3 g (.slice none 0 0) (.pointer pp) (.int .i64 g.c) (.int .i64 g.tt) hg (by rw [List.length_append, List.length_singleton]; omega))
  have HNl : Hid ((A ++ [(⟨[dst], none, 0, 0⟩ : GNode)]).length = A.length + 1) := Lib.hid (by simp)
  have HK1 := Lib.hid (GKept.below hb1)
  clear h hb1 hsz
  cases deep with
  | true =>
    have HLp : Hid ((loopG true A dst).1 = A ++ [⟨[dst, A.length + 1], none, 0, 0⟩, ⟨[], none, -1, A.length⟩]) := Lib.hid rfl
    go_enter Tryz.func27, Tryz.ntmps27
    go_upto_region 2 with (go_at_call 26; refine HA1.out.mono ?_; rintro e w2 ⟨rfl, hg2, hk2⟩; have HG2 := Lib.hid hg2; have HK2 := Lib.hid (HK1.out.trans hk2); clear hg2 hk2 HA1 HK1)
    obtain ⟨e0, he0⟩ : ∃ e0, w.heap.size = e0 := ⟨_, rfl⟩
    have HE0 := Lib.hid (Nat.le_of_eq he0)
    rw [he0] at HG2 ⊢
    clear he0
    go_upto_region 5 with fail
    have hb3 := bAlloc (Below.refl w2.heap.size w2) (.cells #[.slice none 0 0, .pointer none, .int .i64 (-1), .int .i64 A.length] 62)
    have HA4 := Lib.hid (HA2.out _ ⟨[], none, -1, A.length⟩ _ (HG2.out.under hb3) none ⟨none, 0, none, rfl, World.ownsRow_nil _ _ _ _, rfl, fun x hx => by cases hx⟩)
    have HK3 := Lib.hid (HK2.out.trans (GKept.below hb3))
    have HY := BoxIs.new w2 #[.slice none 0 0, .pointer none, .int .i64 (-1), .int .i64 A.length] 62
    have y0 := HY.cell (j := 0) rfl
    have y1 := HY.cell (j := 1) rfl
    have y2 := HY.cell (j := 2) rfl
    have y3 := HY.cell (j := 3) rfl
    rw [HNl.out] at HA4
    clear HA2 HG2 HK2 hb3 HY
    generalize w2.alloc _ = w3 at *
    go_upto_region 6 with (go_at_call 26; refine HA4.out.mono ?_; rintro e w5 ⟨rfl, hg5, hk5⟩; have HG5 := Lib.hid hg5; have HK5 := Lib.hid hk5; clear hg5 hk5 HA4 y0 y1 y2 y3)
    have HKw : Hid (GKept w w5) := Lib.hid (HK3.out.trans HK5.out)
    clear HK3 HK5
    have hG5 := HG5.out
    rw [List.append_assoc, List.append_assoc] at hG5
    obtain ⟨gb, cap, ea, ec, pp1, c0, c1, _, _, _, hEo, _⟩ := hG5.cells (i := A.length) (g := ⟨[dst], none, 0, 0⟩) (by simp)
    obtain ⟨hro, hfr⟩ : (Value.slice ea 1 ec = .slice (some ⟨e0, 0, none⟩) 1 1) ∧ w5.frozen? ⟨gb, A.length * 4, none⟩ = false := by
      obtain ⟨ga2, cap2, _, _, hbx2, hl2, hown2, _⟩ := id hG5
      have h4 := hG5.row4
      have e1 := hbx2.cell (j := 0) rfl
      rw [c0] at e1
      injection e1 with e1
      injection e1 with e1 _ _
      subst e1
      have hlr : rows.length = A.length := by
        obtain ⟨_, _, _, _, _, hl, _⟩ := HG0.out
        exact hl
      have h6 := own_cellN hown2 (flat4 h4 A.length [.slice (some ⟨e0, 0, none⟩) 1 1, .pointer none, .int .i64 0, .int .i64 0] (by rw [List.getElem?_append_right (by omega), hlr, Nat.sub_self]; rfl) 0 _ rfl)
      rw [Nat.add_zero, c1] at h6
      exact ⟨by injection h6.1, h6.2⟩
    injection hro with ha _ hc
    subst ha hc
    have f1 := hfr
    have HX : Hid (∀ e', e' = e0 ∨ w5.heap.size ≤ e' → ¬ X e') := Lib.hid (fun e' h hX => by
      have h1 := hH e' hX
      have h2 := HE0.out
      have h3 := HKw.out.1
      rcases h with h | h <;> omega)
    have HS := Lib.hid (fun w1 w' e' c' he' hb2 hgr hown' => gAt_loop (w := w) (wx := w5) (w1 := w1) (w' := w') (e' := e') (c' := c') (m := A.length + 1) (x := ⟨[], none, -1, A.length⟩) (pp := none) HG0.out HKw.out rfl hG5 HE0.out he' hb2 hgr hown')
    have HO := Lib.hid (show w5.drew.ownsRow w0.heap.size 3 1 (.slice (some ⟨e0, 0, none⟩) 1 1) 1 [vN dst] from hEo)
    have hz : w0.heap.size ≤ w5.drew.heap.size := hG5.below.size
    have hbl := cell_lt c0
    have hgl := cell_lt c1
    rw [List.length_append] at c0
    change w5.cell? ⟨b, 0, none⟩ = some (.slice (some ⟨gb, 0, none⟩) (A.length + 2) cap) at c0
    change w5.cell? ⟨gb, A.length * 4, none⟩ = some (.slice (some ⟨e0, 0, none⟩) 1 1) at c1
    have HAl := Lib.hid (fun (te : TypeId) (o : Array Value) => And.intro ((World.cell?_alloc_lt w5.drew (.cells o te) ⟨b, 0, none⟩ hbl).trans c0) ((World.cell?_alloc_lt w5.drew (.cells o te) ⟨gb, A.length * 4, none⟩ hgl).trans c1))
    clear hH hfr HG5 hG5 hEo HKw HG0 hbl hgl
    generalize hN : A.length = N at *
    have HNN := Lib.hid hN
    clear hN
    have hn0 : (0 : Int) ≤ (N : Int) := by omega
    have hn1 : (N : Int) < (N : Int) + 2 := by omega
    refine wp_region_seqU (fun W => W.cell? ⟨b, 0, none⟩ = some (.slice (some ⟨gb, 0, none⟩) (N + 2) cap) ∧ W.cell? ⟨gb, N * 4, none⟩ = some (.slice (some ⟨e0, 0, none⟩) 1 1)) 18 [(0, true), (1, true), (2, true), (3, true), (4, true), (5, true), (6, true), (7, true), (8, true), (9, true), (10, true), (11, true), (12, true), (13, true), (14, false), (15, false), (16, true), (17, true), (18, false)] (by as_aux_lemma => kernel_rfl) (by as_aux_lemma => kernel_rfl) (by as_aux_lemma => kernel_rfl) (by decide) (by as_aux_lemma => kernel_rfl) (by decide) (⟨c0, c1⟩) ?_
    intro OPS HOP
    refine seqT_take (o := ⟨_, _, _, _, _, _⟩) (v := ?_) (by rw [HOP.out]; rfl) (by rfl) ?_ ?_
    rotate_left 1
    · first | ((intro W _; go_simp) <;> with_reducible rfl) | (intro W hW; obtain ⟨s1, s2⟩ := hW; (go_simp <;> with_reducible rfl))
    try simp only [Act.put, List.setIfInBounds_toArray, List.set_cons_zero, List.set_cons_succ]
    refine seqT_take (o := ⟨_, _, _, _, _, _⟩) (v := ?_) (by rw [HOP.out]; rfl) (by rfl) ?_ ?_
    rotate_left 1
    · first | ((intro W _; go_simp) <;> with_reducible rfl) | (intro W hW; obtain ⟨s1, s2⟩ := hW; (go_simp <;> with_reducible rfl))
    try simp only [Act.put, List.setIfInBounds_toArray, List.set_cons_zero, List.set_cons_succ]
    refine seqT_take (o := ⟨_, _, _, _, _, _⟩) (v := ?_) (by rw [HOP.out]; rfl) (by rfl) ?_ ?_
    rotate_left 1
    · first | ((intro W _; go_simp) <;> with_reducible rfl) | (intro W hW; obtain ⟨s1, s2⟩ := hW; (go_simp <;> with_reducible rfl))
    try simp only [Act.put, List.setIfInBounds_toArray, List.set_cons_zero, List.set_cons_succ]
    refine seqT_take (o := ⟨_, _, _, _, _, _⟩) (v := ?_) (by rw [HOP.out]; rfl) (by rfl) ?_ ?_
    rotate_left 1
    · first | ((intro W _; go_simp) <;> with_reducible rfl) | (intro W hW; obtain ⟨s1, s2⟩ := hW; (go_simp <;> with_reducible rfl))
    try simp only [Act.put, List.setIfInBounds_toArray, List.set_cons_zero, List.set_cons_succ]
    refine seqT_take (o := ⟨_, _, _, _, _, _⟩) (v := ?_) (by rw [HOP.out]; rfl) (by rfl) ?_ ?_
    rotate_left 1
    · first | ((intro W _; go_simp) <;> with_reducible rfl) | (intro W hW; obtain ⟨s1, s2⟩ := hW; (go_simp <;> with_reducible rfl))
    try simp only [Act.put, List.setIfInBounds_toArray, List.set_cons_zero, List.set_cons_succ]
    refine seqT_take (o := ⟨_, _, _, _, _, _⟩) (v := ?_) (by rw [HOP.out]; rfl) (by rfl) ?_ ?_
    rotate_left 1
    · first | ((intro W _; go_simp) <;> with_reducible rfl) | (intro W hW; obtain ⟨s1, s2⟩ := hW; (go_simp <;> with_reducible rfl))
    try simp only [Act.put, List.setIfInBounds_toArray, List.set_cons_zero, List.set_cons_succ]
    refine seqT_take (o := ⟨_, _, _, _, _, _⟩) (v := ?_) (by rw [HOP.out]; rfl) (by rfl) ?_ ?_
    rotate_left 1
    · first | ((intro W _; go_simp) <;> with_reducible rfl) | (intro W hW; obtain ⟨s1, s2⟩ := hW; (go_simp <;> with_reducible rfl))
    try simp only [Act.put, List.setIfInBounds_toArray, List.set_cons_zero, List.set_cons_succ]
    refine seqT_take (o := ⟨_, _, _, _, _, _⟩) (v := ?_) (by rw [HOP.out]; rfl) (by rfl) ?_ ?_
    rotate_left 1
    · first | ((intro W _; go_simp) <;> with_reducible rfl) | (intro W hW; obtain ⟨s1, s2⟩ := hW; (go_simp <;> with_reducible rfl))
    try simp only [Act.put, List.setIfInBounds_toArray, List.set_cons_zero, List.set_cons_succ]
    refine seqT_take (o := ⟨_, _, _, _, _, _⟩) (v := ?_) (by rw [HOP.out]; rfl) (by rfl) ?_ ?_
    rotate_left 1
    · first | ((intro W _; go_simp) <;> with_reducible rfl) | (intro W hW; obtain ⟨s1, s2⟩ := hW; (go_simp <;> with_reducible rfl))
    try simp only [Act.put, List.setIfInBounds_toArray, List.set_cons_zero, List.set_cons_succ]
    refine seqT_take (o := ⟨_, _, _, _, _, _⟩) (v := ?_) (by rw [HOP.out]; rfl) (by rfl) ?_ ?_
    rotate_left 1
    · first | ((intro W _; go_simp) <;> with_reducible rfl) | (intro W hW; obtain ⟨s1, s2⟩ := hW; (go_simp <;> with_reducible rfl))
    try simp only [Act.put, List.setIfInBounds_toArray, List.set_cons_zero, List.set_cons_succ]
    refine seqT_take (o := ⟨_, _, _, _, _, _⟩) (v := ?_) (by rw [HOP.out]; rfl) (by rfl) ?_ ?_
    rotate_left 1
    · first | ((intro W _; go_simp) <;> with_reducible rfl) | (intro W hW; obtain ⟨s1, s2⟩ := hW; (go_simp <;> with_reducible rfl))
    try simp only [Act.put, List.setIfInBounds_toArray, List.set_cons_zero, List.set_cons_succ]
    refine seqT_take (o := ⟨_, _, _, _, _, _⟩) (v := ?_) (by rw [HOP.out]; rfl) (by rfl) ?_ ?_
    rotate_left 1
    · first | ((intro W _; go_simp) <;> with_reducible rfl) | (intro W hW; obtain ⟨s1, s2⟩ := hW; (go_simp <;> with_reducible rfl))
    try simp only [Act.put, List.setIfInBounds_toArray, List.set_cons_zero, List.set_cons_succ]
    refine seqT_take (o := ⟨_, _, _, _, _, _⟩) (v := ?_) (by rw [HOP.out]; rfl) (by rfl) ?_ ?_
    rotate_left 1
    · first | ((intro W _; go_simp) <;> with_reducible rfl) | (intro W hW; obtain ⟨s1, s2⟩ := hW; (go_simp <;> with_reducible rfl))
    try simp only [Act.put, List.setIfInBounds_toArray, List.set_cons_zero, List.set_cons_succ]
    refine seqT_take (o := ⟨_, _, _, _, _, _⟩) (v := ?_) (by rw [HOP.out]; rfl) (by rfl) ?_ ?_
    rotate_left 1
    · first | ((intro W _; go_simp) <;> with_reducible rfl) | (intro W hW; obtain ⟨s1, s2⟩ := hW; (go_simp <;> with_reducible rfl))
    try simp only [Act.put, List.setIfInBounds_toArray, List.set_cons_zero, List.set_cons_succ]
    refine seqT_do (o := ⟨_, _, _, _, _, _⟩) (by rw [HOP.out]; rfl) (by rfl) (fun K hK => ?_)
    go_wp2_with fail
    refine hK.out _ _ (fun _ => HAl.out _ _) ?_
    clear hK K
    try simp only [Act.put, List.setIfInBounds_toArray, List.set_cons_zero, List.set_cons_succ]
    refine seqT_do (o := ⟨_, _, _, _, _, _⟩) (by rw [HOP.out]; rfl) (by rfl) (fun K hK => ?_)
    refine wp_appE (q := dst) (m := N + 1) hz HO.out (.tmp 38) (.tmp 40) rfl rfl rfl ?_
    intro e' c' w' hown' hgr hat
    obtain ⟨gb', cap', h1, h2, h3, h4, h5⟩ := HS.out _ w' e' c' (HX.out e' hat) (bAlloc (drB0 (Below.refl _ _)) _) hgr hown'
    obtain ⟨rfl, rfl⟩ : gb' = gb ∧ cap' = cap := by
      rw [c0] at h1
      injection h1 with h1
      injection h1 with h1 _ h6
      injection h1 with h1
      injection h1 with h1
      exact ⟨h1.symm, h6.symm⟩
    have d0 := cell_same h2 c0
    have d1 := cell_same h3 c1
    have df := frozen_same h3 f1
    have H12 := Lib.hid (And.intro h4 h5)
    clear h1 h2 h3 h4 h5 HS HO HX hown' hgr hat
    refine hK.out _ _ (fun _ => ⟨d0, d1⟩) ?_
    clear hK K
    try simp only [Act.put, List.setIfInBounds_toArray, List.set_cons_zero, List.set_cons_succ]
    refine seqT_take (o := ⟨_, _, _, _, _, _⟩) (v := ?_) (by rw [HOP.out]; rfl) (by rfl) ?_ ?_
    rotate_left 1
    · first | ((intro W _; go_simp) <;> with_reducible rfl) | (intro W hW; obtain ⟨s1, s2⟩ := hW; (go_simp <;> with_reducible rfl))
    try simp only [Act.put, List.setIfInBounds_toArray, List.set_cons_zero, List.set_cons_succ]
    refine seqT_take (o := ⟨_, _, _, _, _, _⟩) (v := ?_) (by rw [HOP.out]; rfl) (by rfl) ?_ ?_
    rotate_left 1
    · first | ((intro W _; go_simp) <;> with_reducible rfl) | (intro W hW; obtain ⟨s1, s2⟩ := hW; (go_simp <;> with_reducible rfl))
    try simp only [Act.put, List.setIfInBounds_toArray, List.set_cons_zero, List.set_cons_succ]
    refine seqT_do (o := ⟨_, _, _, _, _, _⟩) (by rw [HOP.out]; rfl) (by rfl) (fun K hK => ?_)
    go_wp2_with fail
    refine hK.out _ _ (fun h => absurd rfl h) ?_
    clear hK K
    try simp only [Act.put, List.setIfInBounds_toArray, List.set_cons_zero, List.set_cons_succ]
    refine seqT_done ?_
    clear HOP OPS
    go_wp2_with fail
    go_ret
    rw [HLp.out]
    exact ⟨by rw [HNN.out]; rfl, ⟨_, H12.out.1⟩, H12.out.2⟩
  | false =>
    have HLp : Hid ((loopG false A dst).1 = A ++ [⟨[dst, A.length + 1], none, 0, 0⟩, ⟨[], some onePart, 0, A.length⟩]) := Lib.hid rfl
    go_enter Tryz.func27, Tryz.ntmps27
    go_upto_region 2 with (go_at_call 26; refine HA1.out.mono ?_; rintro e w2 ⟨rfl, hg2, hk2⟩; have HG2 := Lib.hid hg2; have HK2 := Lib.hid (HK1.out.trans hk2); clear hg2 hk2 HA1 HK1)
    obtain ⟨e0, he0⟩ : ∃ e0, w.heap.size = e0 := ⟨_, rfl⟩
    have HE0 := Lib.hid (Nat.le_of_eq he0)
    rw [he0] at HG2 ⊢
    clear he0
    go_upto_region 5 with fail
    have hb3 := bAlloc (bAlloc (Below.refl w2.heap.size w2) (.cells #[.slice none 0 0, .pointer (some ⟨w2.heap.size + 1, 0, none⟩), .int .i64 0, .int .i64 A.length] 62)) (.cells #[.int .i64 2, .string ⟨#[]⟩, .bool false, .slice none 0 0, .slice none 0 0] 92)
    have HPt := BoxIs.new (w2.alloc (.cells #[.slice none 0 0, .pointer (some ⟨w2.heap.size + 1, 0, none⟩), .int .i64 0, .int .i64 A.length] 62)) #[.int .i64 2, .string ⟨#[]⟩, .bool false, .slice none 0 0, .slice none 0 0] 92
    rw [show (w2.alloc (.cells #[.slice none 0 0, .pointer (some ⟨w2.heap.size + 1, 0, none⟩), .int .i64 0, .int .i64 A.length] 62)).heap.size = w2.heap.size + 1 by simp] at HPt
    have HA4 := Lib.hid (HA2.out _ ⟨[], some onePart, 0, A.length⟩ _ (HG2.out.under hb3) (some ⟨w2.heap.size + 1, 0, none⟩) ⟨none, 0, some ⟨w2.heap.size + 1, 0, none⟩, rfl, World.ownsRow_nil _ _ _ _, ⟨w2.heap.size + 1, rfl, HPt, ⟨.inl rfl, Nat.le_refl _, Nat.zero_le _⟩, Nat.zero_le _⟩, fun x hx => by cases hx⟩)
    have HK3 := Lib.hid (HK2.out.trans (GKept.below hb3))
    have HY := (BoxIs.new w2 #[.slice none 0 0, .pointer (some ⟨w2.heap.size + 1, 0, none⟩), .int .i64 0, .int .i64 A.length] 62).under (bAlloc (Below.refl _ _) (.cells #[.int .i64 2, .string ⟨#[]⟩, .bool false, .slice none 0 0, .slice none 0 0] 92))
    have y0 := HY.cell (j := 0) rfl
    have y1 := HY.cell (j := 1) rfl
    have y2 := HY.cell (j := 2) rfl
    have y3 := HY.cell (j := 3) rfl
    rw [HNl.out] at HA4
    clear HA2 HG2 HK2 hb3 HY HPt
    obtain ⟨pk, hpk⟩ : ∃ pk, w2.heap.size + 1 = pk := ⟨_, rfl⟩
    rw [hpk] at HA4 HK3 y0 y1 y2 y3 ⊢
    clear hpk
    generalize (w2.alloc _).alloc _ = w3 at *
    go_upto_region 6 with (go_at_call 26; refine HA4.out.mono ?_; rintro e w5 ⟨rfl, hg5, hk5⟩; have HG5 := Lib.hid hg5; have HK5 := Lib.hid hk5; clear hg5 hk5 HA4 y0 y1 y2 y3)
    have HKw : Hid (GKept w w5) := Lib.hid (HK3.out.trans HK5.out)
    clear HK3 HK5
    have hG5 := HG5.out
    rw [List.append_assoc, List.append_assoc] at hG5
    obtain ⟨gb, cap, ea, ec, pp1, c0, c1, _, _, _, hEo, _⟩ := hG5.cells (i := A.length) (g := ⟨[dst], none, 0, 0⟩) (by simp)
    obtain ⟨hro, hfr⟩ : (Value.slice ea 1 ec = .slice (some ⟨e0, 0, none⟩) 1 1) ∧ w5.frozen? ⟨gb, A.length * 4, none⟩ = false := by
      obtain ⟨ga2, cap2, _, _, hbx2, hl2, hown2, _⟩ := id hG5
      have h4 := hG5.row4
      have e1 := hbx2.cell (j := 0) rfl
      rw [c0] at e1
      injection e1 with e1
      injection e1 with e1 _ _
      subst e1
      have hlr : rows.length = A.length := by
        obtain ⟨_, _, _, _, _, hl, _⟩ := HG0.out
        exact hl
      have h6 := own_cellN hown2 (flat4 h4 A.length [.slice (some ⟨e0, 0, none⟩) 1 1, .pointer none, .int .i64 0, .int .i64 0] (by rw [List.getElem?_append_right (by omega), hlr, Nat.sub_self]; rfl) 0 _ rfl)
      rw [Nat.add_zero, c1] at h6
      exact ⟨by injection h6.1, h6.2⟩
    injection hro with ha _ hc
    subst ha hc
    have f1 := hfr
    have HX : Hid (∀ e', e' = e0 ∨ w5.heap.size ≤ e' → ¬ X e') := Lib.hid (fun e' h hX => by
      have h1 := hH e' hX
      have h2 := HE0.out
      have h3 := HKw.out.1
      rcases h with h | h <;> omega)
    have HS := Lib.hid (fun w1 w' e' c' he' hb2 hgr hown' => gAt_loop (w := w) (wx := w5) (w1 := w1) (w' := w') (e' := e') (c' := c') (m := A.length + 1) (x := ⟨[], some onePart, 0, A.length⟩) (pp := some ⟨pk, 0, none⟩) HG0.out HKw.out rfl hG5 HE0.out he' hb2 hgr hown')
    have HO := Lib.hid (show w5.drew.ownsRow w0.heap.size 3 1 (.slice (some ⟨e0, 0, none⟩) 1 1) 1 [vN dst] from hEo)
    have hz : w0.heap.size ≤ w5.drew.heap.size := hG5.below.size
    have hbl := cell_lt c0
    have hgl := cell_lt c1
    rw [List.length_append] at c0
    change w5.cell? ⟨b, 0, none⟩ = some (.slice (some ⟨gb, 0, none⟩) (A.length + 2) cap) at c0
    change w5.cell? ⟨gb, A.length * 4, none⟩ = some (.slice (some ⟨e0, 0, none⟩) 1 1) at c1
    have HAl := Lib.hid (fun (te : TypeId) (o : Array Value) => And.intro ((World.cell?_alloc_lt w5.drew (.cells o te) ⟨b, 0, none⟩ hbl).trans c0) ((World.cell?_alloc_lt w5.drew (.cells o te) ⟨gb, A.length * 4, none⟩ hgl).trans c1))
    clear hH hfr HG5 hG5 hEo HKw HG0 hbl hgl
    generalize hN : A.length = N at *
    have HNN := Lib.hid hN
    clear hN
    have hn0 : (0 : Int) ≤ (N : Int) := by omega
    have hn1 : (N : Int) < (N : Int) + 2 := by omega
    refine wp_region_seqU (fun W => W.cell? ⟨b, 0, none⟩ = some (.slice (some ⟨gb, 0, none⟩) (N + 2) cap) ∧ W.cell? ⟨gb, N * 4, none⟩ = some (.slice (some ⟨e0, 0, none⟩) 1 1)) 18 [(0, true), (1, true), (2, true), (3, true), (4, true), (5, true), (6, true), (7, true), (8, true), (9, true), (10, true), (11, true), (12, true), (13, true), (14, false), (15, false), (16, true), (17, true), (18, false)] (by as_aux_lemma => kernel_rfl) (by as_aux_lemma => kernel_rfl) (by as_aux_lemma => kernel_rfl) (by decide) (by as_aux_lemma => kernel_rfl) (by decide) (⟨c0, c1⟩) ?_
    intro OPS HOP
    refine seqT_take (o := ⟨_, _, _, _, _, _⟩) (v := ?_) (by rw [HOP.out]; rfl) (by rfl) ?_ ?_
    rotate_left 1
    · first | ((intro W _; go_simp) <;> with_reducible rfl) | (intro W hW; obtain ⟨s1, s2⟩ := hW; (go_simp <;> with_reducible rfl))
    try simp only [Act.put, List.setIfInBounds_toArray, List.set_cons_zero, List.set_cons_succ]
    refine seqT_take (o := ⟨_, _, _, _, _, _⟩) (v := ?_) (by rw [HOP.out]; rfl) (by rfl) ?_ ?_
    rotate_left 1
    · first | ((intro W _; go_simp) <;> with_reducible rfl) | (intro W hW; obtain ⟨s1, s2⟩ := hW; (go_simp <;> with_reducible rfl))
    try simp only [Act.put, List.setIfInBounds_toArray, List.set_cons_zero, List.set_cons_succ]
    refine seqT_take (o := ⟨_, _, _, _, _, _⟩) (v := ?_) (by rw [HOP.out]; rfl) (by rfl) ?_ ?_
    rotate_left 1
    · first | ((intro W _; go_simp) <;> with_reducible rfl) | (intro W hW; obtain ⟨s1, s2⟩ := hW; (go_simp <;> with_reducible rfl))
    try simp only [Act.put, List.setIfInBounds_toArray, List.set_cons_zero, List.set_cons_succ]
    refine seqT_take (o := ⟨_, _, _, _, _, _⟩) (v := ?_) (by rw [HOP.out]; rfl) (by rfl) ?_ ?_
    rotate_left 1
    · first | ((intro W _; go_simp) <;> with_reducible rfl) | (intro W hW; obtain ⟨s1, s2⟩ := hW; (go_simp <;> with_reducible rfl))
    try simp only [Act.put, List.setIfInBounds_toArray, List.set_cons_zero, List.set_cons_succ]
    refine seqT_take (o := ⟨_, _, _, _, _, _⟩) (v := ?_) (by rw [HOP.out]; rfl) (by rfl) ?_ ?_
    rotate_left 1
    · first | ((intro W _; go_simp) <;> with_reducible rfl) | (intro W hW; obtain ⟨s1, s2⟩ := hW; (go_simp <;> with_reducible rfl))
    try simp only [Act.put, List.setIfInBounds_toArray, List.set_cons_zero, List.set_cons_succ]
    refine seqT_take (o := ⟨_, _, _, _, _, _⟩) (v := ?_) (by rw [HOP.out]; rfl) (by rfl) ?_ ?_
    rotate_left 1
    · first | ((intro W _; go_simp) <;> with_reducible rfl) | (intro W hW; obtain ⟨s1, s2⟩ := hW; (go_simp <;> with_reducible rfl))
    try simp only [Act.put, List.setIfInBounds_toArray, List.set_cons_zero, List.set_cons_succ]
    refine seqT_take (o := ⟨_, _, _, _, _, _⟩) (v := ?_) (by rw [HOP.out]; rfl) (by rfl) ?_ ?_
    rotate_left 1
    · first | ((intro W _; go_simp) <;> with_reducible rfl) | (intro W hW; obtain ⟨s1, s2⟩ := hW; (go_simp <;> with_reducible rfl))
    try simp only [Act.put, List.setIfInBounds_toArray, List.set_cons_zero, List.set_cons_succ]
    refine seqT_take (o := ⟨_, _, _, _, _, _⟩) (v := ?_) (by rw [HOP.out]; rfl) (by rfl) ?_ ?_
    rotate_left 1
    · first | ((intro W _; go_simp) <;> with_reducible rfl) | (intro W hW; obtain ⟨s1, s2⟩ := hW; (go_simp <;> with_reducible rfl))
    try simp only [Act.put, List.setIfInBounds_toArray, List.set_cons_zero, List.set_cons_succ]
    refine seqT_take (o := ⟨_, _, _, _, _, _⟩) (v := ?_) (by rw [HOP.out]; rfl) (by rfl) ?_ ?_
    rotate_left 1
    · first | ((intro W _; go_simp) <;> with_reducible rfl) | (intro W hW; obtain ⟨s1, s2⟩ := hW; (go_simp <;> with_reducible rfl))
    try simp only [Act.put, List.setIfInBounds_toArray, List.set_cons_zero, List.set_cons_succ]
    refine seqT_take (o := ⟨_, _, _, _, _, _⟩) (v := ?_) (by rw [HOP.out]; rfl) (by rfl) ?_ ?_
    rotate_left 1
    · first | ((intro W _; go_simp) <;> with_reducible rfl) | (intro W hW; obtain ⟨s1, s2⟩ := hW; (go_simp <;> with_reducible rfl))
    try simp only [Act.put, List.setIfInBounds_toArray, List.set_cons_zero, List.set_cons_succ]
    refine seqT_take (o := ⟨_, _, _, _, _, _⟩) (v := ?_) (by rw [HOP.out]; rfl) (by rfl) ?_ ?_
    rotate_left 1
    · first | ((intro W _; go_simp) <;> with_reducible rfl) | (intro W hW; obtain ⟨s1, s2⟩ := hW; (go_simp <;> with_reducible rfl))
    try simp only [Act.put, List.setIfInBounds_toArray, List.set_cons_zero, List.set_cons_succ]
    refine seqT_take (o := ⟨_, _, _, _, _, _⟩) (v := ?_) (by rw [HOP.out]; rfl) (by rfl) ?_ ?_
    rotate_left 1
    · first | ((intro W _; go_simp) <;> with_reducible rfl) | (intro W hW; obtain ⟨s1, s2⟩ := hW; (go_simp <;> with_reducible rfl))
    try simp only [Act.put, List.setIfInBounds_toArray, List.set_cons_zero, List.set_cons_succ]
    refine seqT_take (o := ⟨_, _, _, _, _, _⟩) (v := ?_) (by rw [HOP.out]; rfl) (by rfl) ?_ ?_
    rotate_left 1
    · first | ((intro W _; go_simp) <;> with_reducible rfl) | (intro W hW; obtain ⟨s1, s2⟩ := hW; (go_simp <;> with_reducible rfl))
    try simp only [Act.put, List.setIfInBounds_toArray, List.set_cons_zero, List.set_cons_succ]
    refine seqT_take (o := ⟨_, _, _, _, _, _⟩) (v := ?_) (by rw [HOP.out]; rfl) (by rfl) ?_ ?_
    rotate_left 1
    · first | ((intro W _; go_simp) <;> with_reducible rfl) | (intro W hW; obtain ⟨s1, s2⟩ := hW; (go_simp <;> with_reducible rfl))
    try simp only [Act.put, List.setIfInBounds_toArray, List.set_cons_zero, List.set_cons_succ]
    refine seqT_do (o := ⟨_, _, _, _, _, _⟩) (by rw [HOP.out]; rfl) (by rfl) (fun K hK => ?_)
    go_wp2_with fail
    refine hK.out _ _ (fun _ => HAl.out _ _) ?_
    clear hK K
    try simp only [Act.put, List.setIfInBounds_toArray, List.set_cons_zero, List.set_cons_succ]
    refine seqT_do (o := ⟨_, _, _, _, _, _⟩) (by rw [HOP.out]; rfl) (by rfl) (fun K hK => ?_)
    refine wp_appE (q := dst) (m := N + 1) hz HO.out (.tmp 38) (.tmp 40) rfl rfl rfl ?_
    intro e' c' w' hown' hgr hat
    obtain ⟨gb', cap', h1, h2, h3, h4, h5⟩ := HS.out _ w' e' c' (HX.out e' hat) (bAlloc (drB0 (Below.refl _ _)) _) hgr hown'
    obtain ⟨rfl, rfl⟩ : gb' = gb ∧ cap' = cap := by
      rw [c0] at h1
      injection h1 with h1
      injection h1 with h1 _ h6
      injection h1 with h1
      injection h1 with h1
      exact ⟨h1.symm, h6.symm⟩
    have d0 := cell_same h2 c0
    have d1 := cell_same h3 c1
    have df := frozen_same h3 f1
    have H12 := Lib.hid (And.intro h4 h5)
    clear h1 h2 h3 h4 h5 HS HO HX hown' hgr hat
    refine hK.out _ _ (fun _ => ⟨d0, d1⟩) ?_
    clear hK K
    try simp only [Act.put, List.setIfInBounds_toArray, List.set_cons_zero, List.set_cons_succ]
    refine seqT_take (o := ⟨_, _, _, _, _, _⟩) (v := ?_) (by rw [HOP.out]; rfl) (by rfl) ?_ ?_
    rotate_left 1
    · first | ((intro W _; go_simp) <;> with_reducible rfl) | (intro W hW; obtain ⟨s1, s2⟩ := hW; (go_simp <;> with_reducible rfl))
    try simp only [Act.put, List.setIfInBounds_toArray, List.set_cons_zero, List.set_cons_succ]
    refine seqT_take (o := ⟨_, _, _, _, _, _⟩) (v := ?_) (by rw [HOP.out]; rfl) (by rfl) ?_ ?_
    rotate_left 1
    · first | ((intro W _; go_simp) <;> with_reducible rfl) | (intro W hW; obtain ⟨s1, s2⟩ := hW; (go_simp <;> with_reducible rfl))
    try simp only [Act.put, List.setIfInBounds_toArray, List.set_cons_zero, List.set_cons_succ]
    refine seqT_do (o := ⟨_, _, _, _, _, _⟩) (by rw [HOP.out]; rfl) (by rfl) (fun K hK => ?_)
    go_wp2_with fail
    refine hK.out _ _ (fun h => absurd rfl h) ?_
    clear hK K
    try simp only [Act.put, List.setIfInBounds_toArray, List.set_cons_zero, List.set_cons_succ]
    refine seqT_done ?_
    clear HOP OPS
    go_wp2_with fail
    go_ret
    rw [HLp.out]
    exact ⟨by rw [HNN.out]; rfl, ⟨_, H12.out.1⟩, H12.out.2⟩
end Go.Proofs.YtnpcbcnclncniaaGreatDoor
namespace Go.Proofs.YtnpcbcnclncniaaGreatDoor
open Go.RowKit Go.Shelf

attribute [local go_sem] Oper.semAt_some

/-- An iterator that hands out the elements of one list, in its order. -/
def SeqR {α : Type} (n : Nat) (P : Program) (gf : Nat) (lb : Array Value) (encs : α → Array Value) (Kp : World → World → Prop) (xs : List α) (wi : World) : Prop :=
  ∀ (l : Nat) (J : List α → World → Prop) (W : World), Below wi.heap.size wi W →
    (∀ pre x W1, J pre W1 → pre ++ [x] <+: xs → YieldAt Fence.wide (n - 1) P l (encs x) W1 fun e W' => e = .returned (.bool true) ∧ J (pre ++ [x]) W' ∧ Kp W1 W') →
    J [] W →
    CallsIn Fence.wide n P gf (#[.func (.yield l) #[] #[]] ++ lb) W fun e W' => (∃ v, e = .returned v) ∧ J xs W'

section
variable {P : Program} {n : Nat}
/-- A loop over such an iterator; its variable lies in a box; its rounds all end normally. -/
theorem wp_rangeR {α : Type} {g : Operand} {ps : Array Tmp} {assign body : Code} {Q : Exit → Act → World → Prop} {a : Act} {w : World}
    {gf : Nat} {lb : Array Value} (hg : a.eval g = .func (.func gf) #[] lb) (eg : ∀ args w, (callFunc gf args).run P w = .ok (.enter gf args) w)
    {encs arr : α → Array Value} {ty : TypeId} {Kp : World → World → Prop} {xs : List α} {wi : World} (hseq : SeqR (n - 1) P gf lb encs Kp xs wi)
    (hKt : ∀ {A B C : World}, Kp A B → Kp B C → Kp A C) (hKb : ∀ (W : World) (l : Nat) (o o' : Obj), w.heap.size ≤ l → W.heap[l]? = some o → o.isCells = false → Kp W (W.putObj l o')) (hKa : ∀ (W : World) (o : Obj), w.heap.size ≤ W.heap.size → Kp W (W.alloc o)) (hb0 : Below wi.heap.size wi w) (hps : ∀ x, (encs x).size = ps.size)
    (I : List α → World → Prop) (hI : OwnFrom w.heap.size I) (h0 : I [] w) (a₁ : α → Nat → Act)
    (hassign : ∀ (l : Nat) (x : α) (W : World) (K : Act → World → Prop), K (a₁ x W.heap.size) (W.alloc (.cells (arr x) ty)) →
      assign.wpIn (Fence.wide.inRound l) (n - 1 - 1) P (Exit.then K (fun _ _ _ => False)) { tmps := (ps.zip (encs x)).foldl (fun t (p, v) => t.setIfInBounds p v) a.tmps, defers := [] } W)
    (hbody : ∀ (l : Nat) (pre : List α) (x : α) (W : World) (bp : Nat), I pre W → pre ++ [x] <+: xs → BoxIs W bp (arr x) ty → w.heap.size ≤ bp →
      body.wpIn (Fence.wide.inRound l) (n - 1 - 1) P (fun e _ W' => e = .normal ∧ KeepsOthers W W' ∧ Kp W W' ∧ I (pre ++ [x]) W') (a₁ x bp) W)
    (hdone : ∀ (D : Nat) (W : World), w.heap.size ≤ D → I xs W → W.heap[D]? = some (.deferred (some [])) → Q .normal { a with defers := { target := .collected D, args := #[] } :: a.defers } W) :
    (Code.rangeFunc g ps assign body).wpIn Fence.wide n P Q a w := by
  refine wpIn_rangeFunc ?_
  intro fn hfn
  rw [show Fence.wide.round = none from rfl]
  obtain ⟨rc, hrc⟩ : ∃ rc : LoopState → Option Code → Loop, rc = fun st pe => { state := st, pending := pe, fn, tmps := a.tmps, params := ps, assign, body, defers := w.heap.size } := ⟨_, rfl⟩
  obtain ⟨W1, hW1⟩ : ∃ W1, (w.alloc (.deferred (some []))).alloc (.loop (rc .ready none)) = W1 := ⟨_, rfl⟩
  have hL1 : W1.heap[w.heap.size + 1]? = some (.loop (rc .ready none)) := by
    rw [← hW1]
    have := World.alloc_heap_new (w.alloc (.deferred (some []))) (.loop (rc .ready none))
    rwa [World.size_alloc] at this
  have hK1 : W1.heap[w.heap.size]? = some (.deferred (some [])) := by
    rw [← hW1]
    exact (Below.heap_alloc _ _ _ (by simp)).trans (World.alloc_heap_new w _)
  have hI1 : I [] W1 := by
    rw [← hW1]
    exact hI.alloc _ (hI.alloc _ h0)
  have hb1 : Below wi.heap.size wi W1 := by
    rw [← hW1]
    exact hb0.trans ((((Below.refl _ w).alloc (Nat.le_refl _) _).alloc (by simp) _).mono hb0.size)
  refine ⟨w.heap.size + 1, [{ target := .collected w.heap.size, args := #[] }], W1, { target := .fn (.func gf) lb, args := #[.func (.yield (w.heap.size + 1)) #[] #[]] }, W1, gf,
    #[.func (.yield (w.heap.size + 1)) #[] #[]] ++ lb, W1, ?_, ?_, ?_, ?_, (fun h => by cases h), ?_⟩
  · rw [← hW1, hrc]
    exact run_enterLoop_outer _ _ _ _ _
  · simp only [resolve, hg]
    simp [go_sem]
  · exact fun _ _ => trivial
  · simp [invoke, go_sem, eg]
  · refine (hseq (w.heap.size + 1) (fun pre W => w.heap.size + 1 < W.heap.size ∧ I pre W ∧ W.heap[w.heap.size + 1]? = some (.loop (rc .ready none)) ∧ W.heap[w.heap.size]? = some (.deferred (some []))) W1 hb1 ?_ ⟨(Array.getElem?_eq_some_iff.1 hL1).1, hI1, hL1, hK1⟩).mono ?_
    · rintro pre x W ⟨hlt, hi, hl, hk⟩ hpre
      have hy := run_yield (P := P) (args := encs x) hl (by rw [hrc]; exact hps x)
      rw [hrc] at hy
      obtain ⟨W2, hW2⟩ : ∃ W2, W.alloc (.cells (arr x) ty) = W2 := ⟨_, rfl⟩
      have hbW : Below W.heap.size W W2 := by
        rw [← hW2]
        exact bAlloc (Below.refl _ _) _
      have hl2 : W2.heap[w.heap.size + 1]? = some (.loop (rc .ready none)) := (hbW.block _ hlt).trans hl
      have hk2 : W2.heap[w.heap.size]? = some (.deferred (some [])) := (hbW.block _ (by omega)).trans hk
      have hi2 : I pre W2 := by
        rw [← hW2]
        exact hI.alloc _ hi
      refine ⟨fn, _, assign, body, hy, roundIn_of_wpIn hfn (hassign _ x W _ ⟨_, by rw [hW2]; exact run_beginRound hl2 (by rw [hrc]), ?_⟩)⟩
      have hlt2 : w.heap.size + 1 < W2.heap.size := Nat.lt_of_lt_of_le hlt hbW.size
      have hbx : BoxIs W2 W.heap.size (arr x) ty := by
        rw [← hW2]
        exact BoxIs.new W _ _
      have hl3 : (W2.putObj (w.heap.size + 1) (.loop { rc .ready none with state := .busy })).heap[w.heap.size + 1]? = some (.loop { rc .ready none with state := .busy }) := World.putObj_heap_same hlt2
      have hk3 : (W2.putObj (w.heap.size + 1) (.loop { rc .ready none with state := .busy })).heap[w.heap.size]? = some (.deferred (some [])) := (World.putObj_heap_other (by omega)).trans hk2
      have hw2 : Kp W (W2.putObj (w.heap.size + 1) (.loop { rc .ready none with state := .busy })) := by
        refine hKt (B := W2) ?_ (hKb _ _ _ _ (by omega) hl2 rfl)
        rw [← hW2]
        exact hKa W _ (by omega)
      have hbx3 : BoxIs (W2.putObj (w.heap.size + 1) (.loop { rc .ready none with state := .busy })) W.heap.size (arr x) ty := (World.putObj_heap_other (by omega)).trans hbx
      refine wpIn_mono (hbody _ pre x _ W.heap.size (hI.putObj _ hi2 (by omega) hl2 rfl) hpre hbx3 (by omega)) ?_
      rintro e a3 W3 ⟨rfl, hk4, hkp4, hi4⟩
      have hl4 := hk4.same _ _ hl3 rfl
      have hr := run_endRound (P := P) none hl4
      rw [hrc] at hr hl4
      have hl5 := World.putObj_heap_same (o := .loop (rc .ready none)) (Array.getElem?_eq_some_iff.1 hl4).1
      rw [hrc] at hl5
      refine ⟨_, _, hr, rfl, ⟨?_, hI.putObj _ hi4 (by omega) hl4 rfl, ?_, (World.putObj_heap_other (by omega)).trans (hk4.same _ _ hk3 rfl)⟩, hKt (hKt hw2 hkp4) (hKb _ _ _ _ (by omega) hl4 rfl)⟩
      · have := (Array.getElem?_eq_some_iff.1 hl4).1
        simpa using this
      · rw [hrc]
        exact hl5
    · rintro e W2 ⟨⟨v, rfl⟩, _, hi, hl, hk⟩
      have := run_endLoop (P := P) hl (by rw [hrc]; simp)
      rw [hrc] at this
      exact ⟨none, _, this, hdone _ _ (Nat.le_refl _) (hI.putObj _ hi (by omega) hl rfl) ((World.putObj_heap_other (by omega)).trans hk)⟩
end
end Go.Proofs.YtnpcbcnclncniaaGreatDoor
namespace Go.Proofs.YtnpcbcnclncniaaGreatDoor
open Go.RowKit Go.Shelf

attribute [local go_sem] Oper.semAt_some

section
variable {m : Nat}
/-- A list's elements with their places, the last one first. -/
def bwd {α : Type} (L : List α) : List (Nat × α) := (L.zipIdx.map (fun x => (x.2, x.1))).reverse
theorem bwd_len {α : Type} (L : List α) : (bwd L).length = L.length := by simp [bwd]
theorem bwd_get {α : Type} {L : List α} {j : Nat} {p : α} (hj : j < L.length) (hp : L[L.length - 1 - j]? = some p) : (bwd L)[j]? = some (L.length - 1 - j, p) := by
  unfold bwd
  rw [List.getElem?_reverse (by simpa using hj)]
  simp only [List.length_map, List.length_zipIdx, List.getElem?_map, List.getElem?_zipIdx, Nat.zero_add, hp, Option.map_some]
theorem bwd_take {α : Type} {L : List α} {j : Nat} {p : α} (hj : j < L.length) (hp : L[L.length - 1 - j]? = some p) : (bwd L).take (j + 1) = (bwd L).take j ++ [(L.length - 1 - j, p)] := by
  rw [List.take_add_one, bwd_get hj hp]
  rfl
abbrev pEncs (x : Nat × PartOf (P m)) : Array Value := #[.int .i64 x.1, .agg (partArr x.2)]
/-- What a round keeps. -/
def KpB (nb Bs : Nat) (W W' : World) : Prop := Below nb W W' ∧ W'.heap[Bs]? = W.heap[Bs]?
theorem KpB.trans {nb Bs : Nat} {A B C : World} (h : KpB nb Bs A B) (k : KpB nb Bs B C) : KpB nb Bs A C := ⟨h.1.trans k.1, k.2.trans h.2⟩
theorem KpB.refl (nb Bs : Nat) (W : World) : KpB nb Bs W W := ⟨Below.refl _ _, rfl⟩

set_option maxRecDepth 100000 in
set_option maxHeartbeats 2000000 in
theorem backward1_seq (nb Bs n : Nat) (s : Sl (PartOf (P m))) (wi : World) (hBs : BoxIs wi Bs #[.slice s.a s.xs.length s.c] 22) (hnb : nb ≤ wi.heap.size)
    (hb : s.xs = [] ∨ ∃ b off, s.a = some ⟨b, off, none⟩ ∧ b < nb ∧ ∀ (k : Nat) (p : PartOf (P m)), s.xs[k]? = some p → ∀ (j : Nat) (u : Value), (partCellsOf p)[j]? = some u → wi.cell? ⟨b, off + k * 5 + j, none⟩ = some u) (hl : s.xs.length ≤ 1048576) :
    SeqR n Tryz.prog 95 #[.pointer (some ⟨Bs, 0, none⟩)] (pEncs (m := m)) (KpB nb Bs) (bwd s.xs) wi := by
  intro l J W hW hY h0
  have hBs2 := hBs.under hW
  have HB : Hid (∀ W', KpB nb Bs W W' → W'.cell? ⟨Bs, 0, none⟩ = some (.slice s.a s.xs.length s.c)) := Lib.hid (fun W' h => BoxIs.cell (j := 0) (show BoxIs W' Bs _ _ from h.2.trans hBs2) rfl)
  have HC : Hid (s.xs = [] ∨ ∃ b off, s.a = some ⟨b, off, none⟩ ∧ ∀ W', KpB nb Bs W W' → ∀ (k : Nat) (p : PartOf (P m)), s.xs[k]? = some p → ∀ (j : Nat) (u : Value), (partCellsOf p)[j]? = some u → W'.cell? ⟨b, off + k * 5 + j, none⟩ = some u) := Lib.hid (by
    rcases hb with h | ⟨b, off, h1, h2, h3⟩
    · exact .inl h
    · refine .inr ⟨b, off, h1, fun W' hk k p hp j u hu => ?_⟩
      exact (hk.1.cell (p := ⟨b, off + k * 5 + j, none⟩) h2).trans ((hW.cell (p := ⟨b, off + k * 5 + j, none⟩) (by simp; omega)).trans (h3 k p hp j u hu)))
  have HY := Lib.hid hY
  clear hBs hBs2 hb hY hW hnb
  obtain ⟨sa, sc, xs⟩ := s
  simp only [] at *
  have hc0 := HB.out W (KpB.refl _ _ _)
  refine callsIn_of_wp Tryz.func95 rfl trivial ?_ rfl
  simp only [Tryz.ntmps95, List.size_toArray, List.length_cons, List.length_nil, Nat.reduceAdd, Nat.reduceSub, Array.replicate_succ, Array.replicate_zero, List.push_toArray, List.append_toArray, List.nil_append, List.cons_append]
  gi_wp2
  gi_loopw [3] (fun i wr => ∃ j : Nat, j ≤ xs.length ∧ i = .int .i64 ((xs.length : Int) - 1 - j) ∧ J ((bwd xs).take j) wr ∧ KpB nb Bs W wr)
    (fun i _ => ((intOf i) + 1).toNat)
  case atStart => exact ⟨0, Nat.zero_le _, by simp, by simpa using h0, KpB.refl _ _ _⟩
  case round =>
    clear h0 hc0
    obtain ⟨j, hj, rfl, hJs, hkp⟩ := hrel
    by_cases hlt : j < xs.length
    · obtain ⟨p, hp⟩ : ∃ p : PartOf (P m), xs[xs.length - 1 - j]? = some p := ⟨_, List.getElem?_eq_getElem (by omega)⟩
      rcases HC.out with hnil | ⟨b, off, rfl, hcells⟩
      · rw [hnil] at hlt
        cases hlt
      have hx := bwd_take hlt hp
      obtain ⟨fn, tmps, assign, body, hy, hR⟩ := HY.out _ (xs.length - 1 - j, p) wr hJs (by have := List.take_prefix (j + 1) (bwd xs); rw [hx] at this; exact this)
      have hcc := hcells wr hkp (xs.length - 1 - j) p hp
      have hb0 := HB.out wr hkp
      obtain ⟨i, hi⟩ : ∃ i, xs.length - 1 - j = i := ⟨_, rfl⟩
      rw [hi] at hy hcc
      have hiI : (xs.length : Int) - 1 - (j : Int) = (i : Int) := by omega
      have c0 : wr.cell? ⟨b, off + i * 5, none⟩ = some (.int .i64 p.kind) := hcc 0 _ rfl
      have c1 : wr.cell? ⟨b, off + i * 5 + 1, none⟩ = some (.string p.text) := hcc 1 _ rfl
      have c2 : wr.cell? ⟨b, off + i * 5 + 2, none⟩ = some (.bool p.neg) := hcc 2 _ rfl
      have c3 : wr.cell? ⟨b, off + i * 5 + 3, none⟩ = some (.slice p.rg.a p.rg.xs.length p.rg.c) := hcc 3 _ rfl
      have c4 : wr.cell? ⟨b, off + i * 5 + 4, none⟩ = some (.slice p.ways.a p.ways.xs.length p.ways.c) := hcc 4 _ rfl
      have hi0 : (0 : Int) ≤ (i : Int) := by omega
      have hi1 : (i : Int) < (xs.length : Int) := by omega
      rw [hiI]
      gi_wp2
      refine ⟨(fun h => (by cases h)), hR.mono ?_⟩
      rintro e W3 ⟨rfl, hJ3, hk3⟩
      gi_wp2
      go_roundw
      case rel => exact ⟨j + 1, by omega, by congr 1; omega, by rw [hx]; exact hJ3, hkp.trans hk3⟩
      case measure => simp [intOf] <;> omega
    · obtain rfl : j = xs.length := by omega
      have hneg : ¬ ((0 : Int) ≤ (xs.length : Int) - 1 - (xs.length : Int)) := by omega
      gi_wp2
      go_end0
      refine ⟨⟨_, rfl⟩, ?_⟩
      rw [List.take_of_length_le (Nat.le_of_eq (bwd_len xs))] at hJs
      exact hJs
end
end Go.Proofs.YtnpcbcnclncniaaGreatDoor
namespace Go.Proofs.YtnpcbcnclncniaaGreatDoor
open Go.RowKit Go.Shelf

theorem textG_len (T : List UInt8) (A : List GNode) (d : Nat) : (textG T A d).1.length = A.length + T.length := by
  induction T with
  | nil => rfl
  | cons b r ih =>
    show ((textG r A d).1 ++ [_]).length = _
    rw [List.length_append, ih, List.length_singleton, List.length_cons]
    omega
theorem waysG_len {α : Type} (g : Sl α → List GNode → Nat → List GNode × Nat) (f : Sl α → Nat) (d : Nat) : ∀ (ts : List (Sl α)) (A : List GNode) (es : List Nat), (∀ t ∈ ts, ∀ A, (g t A d).1.length ≤ A.length + 2 * f t) → (waysG g d ts (A, es)).1.length ≤ A.length + 2 * (ts.map f).sum ∧ (waysG g d ts (A, es)).2.length = es.length + ts.length
  | [], A, es, _ => ⟨by simp [waysG], rfl⟩
  | t :: r, A, es, h => by
    have h1 := h t (by simp) A
    obtain ⟨h2, h3⟩ := waysG_len g f d r (g t A d).1 (es ++ [(g t A d).2]) (fun t ht => h t (by simp [ht]))
    have hgo : waysG g d (t :: r) (A, es) = waysG g d r ((g t A d).1, es ++ [(g t A d).2]) := rfl
    rw [hgo]
    rw [List.length_append, List.length_singleton] at h3
    rw [List.map_cons, List.sum_cons, List.length_cons]
    exact ⟨by omega, by omega⟩
theorem partG_len {n : Nat} {f : Sl (P n) → Nat} {g : Sl (P n) → List GNode → Nat → List GNode × Nat} {p : PartOf (P n)} {h : P n → Nat} (hf : ∀ t, f t = 1 + (t.xs.map h).sum) (hg : ∀ t ∈ p.ways.xs, ∀ A d, (g t A d).1.length ≤ A.length + 2 * (t.xs.map h).sum) (A : List GNode) (d : Nat) : (partG g p A d).1.length ≤ A.length + 2 * szOf h p := by
  unfold partG szOf
  by_cases h1 : p.kind = 1
  · rw [if_pos h1, textG_len, ← Lib.size_eq]
    omega
  rw [if_neg h1]
  by_cases h3 : p.kind = 3 ∨ p.kind = 4
  · rw [if_pos h3]
    unfold loopG
    rw [List.length_append]
    simp only [List.length_cons, List.length_nil]
    omega
  rw [if_neg h3]
  by_cases h6 : p.kind = 6
  · rw [if_pos h6, List.length_append, List.length_singleton]
    have := (waysG_len g (fun t => 1 + (t.xs.map h).sum) d p.ways.xs A [] (fun t ht A => by have := hg t ht A d; omega)).1
    omega
  · rw [if_neg h6, List.length_append, List.length_singleton]
    omega
theorem listG_len : ∀ (n : Nat) (xs : List (P n)) (A : List GNode) (d : Nat), (listG n xs A d).1.length ≤ A.length + 2 * szL n xs
  | 0, xs, A, d => by
    show A.length ≤ _
    omega
  | n + 1, xs, A, d => by
    induction xs with
    | nil => exact Nat.le_add_right _ _
    | cons p r ih =>
      have h1 := partG_len (p := pt n p) (h := sz n) (f := fun t => 1 + (t.xs.map (sz n)).sum) (g := fun t => listG n t.xs) (fun _ => rfl) (fun t _ A d => listG_len n t.xs A d) (listG (n + 1) r A d).1 (listG (n + 1) r A d).2
      have h2 : szL (n + 1) (p :: r) = szOf (sz n) (pt n p) + szL (n + 1) r := rfl
      rw [h2]
      show (partG (fun t => listG n t.xs) (pt n p) (listG (n + 1) r A d).1 (listG (n + 1) r A d).2).1.length ≤ _
      omega

/-- What the rounds over some parts build. -/
def stG (m : Nat) (pre : List (Nat × PartOf (P m))) (Aq : List GNode × Nat) : List GNode × Nat := pre.foldl (fun s x => partG (fun t => listG m t.xs) x.2 s.1 s.2) Aq
theorem stG_snoc (m : Nat) (pre : List (Nat × PartOf (P m))) (x : Nat × PartOf (P m)) (Aq : List GNode × Nat) : stG m (pre ++ [x]) Aq = partG (fun t => listG m t.xs) x.2 (stG m pre Aq).1 (stG m pre Aq).2 := by
  unfold stG
  rw [List.foldl_append]
  rfl
theorem stG_all (m : Nat) (L : List (PartOf (P m))) (A : List GNode) (d : Nat) : stG m (bwd L) (A, d) = listG (m + 1) L A d := by
  have key : ∀ (l : List (Nat × PartOf (P m))) (s : List GNode × Nat), stG m l.reverse s = (l.map (·.2)).foldr (fun p Aq => partG (fun t => listG m t.xs) p Aq.1 Aq.2) s := fun l s => by
    induction l with
    | nil => rfl
    | cons x r ih =>
      rw [List.reverse_cons, stG_snoc, ih]
      rfl
  unfold bwd
  rw [key, List.map_map]
  have : ((fun x : Nat × PartOf (P m) => x.2) ∘ fun x : PartOf (P m) × Nat => (x.2, x.1)) = Prod.fst := rfl
  rw [this, List.zipIdx_map_fst]
  rfl
theorem stG_len (m : Nat) : ∀ (pre : List (Nat × PartOf (P m))) (A : List GNode) (d : Nat), (stG m pre (A, d)).1.length ≤ A.length + 2 * (pre.map (fun x => szOf (sz m) x.2)).sum := by
  intro pre
  induction pre with
  | nil => exact fun A d => Nat.le_add_right _ _
  | cons x r ih =>
    intro A d
    have h1 := partG_len (p := x.2) (h := sz m) (f := fun t => 1 + (t.xs.map (sz m)).sum) (g := fun t => listG m t.xs) (fun _ => rfl) (fun t _ A d => listG_len m t.xs A d) A d
    have h2 := ih (partG (fun t => listG m t.xs) x.2 A d).1 (partG (fun t => listG m t.xs) x.2 A d).2
    show (stG m r (partG (fun t => listG m t.xs) x.2 A d)).1.length ≤ _
    rw [List.map_cons, List.sum_cons]
    have h3 : stG m r (partG (fun t => listG m t.xs) x.2 A d) = stG m r ((partG (fun t => listG m t.xs) x.2 A d).1, (partG (fun t => listG m t.xs) x.2 A d).2) := rfl
    rw [h3]
    omega
theorem bwd_sum (m : Nat) (L : List (PartOf (P m))) {pre : List (Nat × PartOf (P m))} (h : pre <+: bwd L) : (pre.map (fun x => szOf (sz m) x.2)).sum ≤ (L.map (szOf (sz m))).sum := by
  obtain ⟨r, hr⟩ := h
  have h1 : ((bwd L).map (fun x => szOf (sz m) x.2)).sum = (L.map (szOf (sz m))).sum := by
    unfold bwd
    rw [List.map_reverse, List.sum_reverse, List.map_map]
    have : ((fun x : Nat × PartOf (P m) => szOf (sz m) x.2) ∘ fun x : PartOf (P m) × Nat => (x.2, x.1)) = (szOf (sz m)) ∘ Prod.fst := rfl
    rw [this, ← List.map_map, List.zipIdx_map_fst]
  rw [← h1, ← hr, List.map_append, List.sum_append]
  omega
theorem bwd_mem {α : Type} {L : List α} {pre : List (Nat × α)} {x : Nat × α} (h : pre ++ [x] <+: bwd L) : x.2 ∈ L := by
  have h1 : x ∈ bwd L := h.subset (by simp)
  unfold bwd at h1
  rw [List.mem_reverse, List.mem_map] at h1
  obtain ⟨y, h2, rfl⟩ := h1
  have h3 : y.1 ∈ L.zipIdx.map Prod.fst := List.mem_map.2 ⟨y, h2, rfl⟩
  rw [List.zipIdx_map_fst] at h3
  exact h3

theorem below_between {B : Nat} {w a b : World} (h : Below B w a) (k : Below B w b) (hz : a.heap.size ≤ b.heap.size) : Below B a b :=
  ⟨k.os.trans h.os.symm, k.tape.trans h.tape.symm, k.output.trans h.output.symm, hz, fun j hj => (k.block j hj).trans (h.block j hj).symm⟩

variable {X : Nat → Prop}
/-- A store into a block that is none of the automaton's. -/
theorem GAt.hole {w0 w : World} {b k : Nat} {A : List GNode} {rows : List (List Value)} {u : Value} (h : GAt X w0 w b A rows) (hX : X k) (hk : BoxIs w k #[u] 3) (h0 : w0.heap.size ≤ k) (v : Value) : GAt X w0 (w.setCell ⟨k, 0, none⟩ v) b A rows := by
  obtain ⟨ga, cap, hb0, hbel, hbox, hl, hown, hn⟩ := h
  unfold BoxIs at hk hbox
  have hother : ∀ j, j ≠ k → (w.setCell ⟨k, 0, none⟩ v).heap[j]? = w.heap[j]? := fun j hj => Below.heap_setCell _ _ _ _ (fun e => hj e)
  have hne : ∀ (j : Nat) (vs : Array Value) (ty : TypeId) (fr : Nat × Nat), w.heap[j]? = some (.cells vs ty fr) → ty ≠ 3 → j ≠ k := fun j vs ty fr h1 h2 e => by
    rw [e, hk] at h1
    injection h1 with h1
    injection h1 with _ h1 _
    exact h2 h1.symm
  refine ⟨ga, cap, hb0, Below.setCell hbel (p := ⟨k, 0, none⟩) h0 _, ?_, hl, own_move hown (fun x hx => ?_), fun i g r h1 h2 => ?_⟩
  · unfold BoxIs
    rw [hother b (hne b _ _ _ hbox (by decide))]
    exact hbox
  · obtain ⟨cur, _, _, h3⟩ := own_ty hown hx
    exact hother _ (hne _ _ _ _ h3 (by decide))
  · obtain ⟨ea, ec, pp, h3, h4, h5, h6⟩ := hn i g r h1 h2
    refine ⟨ea, ec, pp, h3, own_move h4 (fun x hx => hother _ (fun e => h6 x hx (e ▸ hX))), ?_, h6⟩
    revert h5
    cases g.part with
    | none => exact fun h5 => h5
    | some q =>
      rintro ⟨j, h7, h8, h9⟩
      refine ⟨j, h7, ?_, h9⟩
      unfold BoxIs at h8 ⊢
      rw [hother j (hne j _ _ _ h8 (by decide))]
      exact h8

/-- What a round of the building keeps. -/
def RK (bt : Nat) (W W' : World) : Prop := W.heap.size ≤ W'.heap.size ∧ ∀ (k : Nat) (o : Obj), W.heap[k]? = some o → k ≠ bt → (∀ (vs : Array Value) (ty : TypeId) (fr : Nat × Nat), o = .cells vs ty fr → ¬ gTy ty) → W'.heap[k]? = some o
theorem RK.refl (bt : Nat) (W : World) : RK bt W W := ⟨Nat.le_refl _, fun _ _ h _ _ => h⟩
theorem RK.trans {bt : Nat} {A B C : World} (h : RK bt A B) (k : RK bt B C) : RK bt A C := ⟨Nat.le_trans h.1 k.1, fun i o h1 h2 h3 => k.2 i o (h.2 i o h1 h2 h3) h2 h3⟩
theorem RK.kept {bt : Nat} {A B : World} (h : GKept A B) : RK bt A B := ⟨h.1, fun i o h1 _ h3 => h.2 i o h1 h3⟩
theorem RK.set {bt : Nat} (W : World) (v : Value) : RK bt W (W.setCell ⟨bt, 0, none⟩ v) := ⟨by simp [World.setCell], fun k o h1 h2 _ => by
  rw [Below.heap_setCell _ _ _ _ (fun e => h2 e)]
  exact h1⟩
theorem RK.box {bt : Nat} {A B : World} (h : RK bt A B) {k : Nat} {vs : Array Value} {t : TypeId} (hb : BoxIs A k vs t) (hk : k ≠ bt) (ht : ¬ gTy t) : BoxIs B k vs t := h.2 k _ hb hk (fun vs' ty fr e => by
  injection e with _ e _
  exact e ▸ ht)
theorem RK.others {bt : Nat} {A B : World} {u : Value} (h : RK bt A B) (hb : BoxIs A bt #[u] 3) : KeepsOthers A B := ⟨h.1, fun k o h1 h2 => h.2 k o h1 (fun e => by
  unfold BoxIs at hb
  rw [e, hb] at h1
  injection h1 with h1
  rw [← h1] at h2
  cases h2) (fun vs ty fr e => by
  rw [e] at h2
  cases h2)⟩

/-- What stands between two rounds of the building. -/
structure BSt (X : Nat → Prop) (w0 w W : World) (b ba bt : Nat) (A : List GNode) (d : Nat) : Prop where
  aut : ∃ rows, GAt (fun k => X k ∨ k = bt) w0 W b A rows
  hba : BoxIs W ba #[.pointer (some ⟨b, 0, none⟩)] 54
  hbt : BoxIs W bt #[.int .i64 d] 3
  kept : GKept w W
  lo : w.heap.size ≤ bt
  ne : ba ≠ bt
  lo0 : w0.heap.size ≤ bt
section
variable {w0 w W W' : World} {b ba bt d : Nat} {A A' : List GNode}
theorem ptr_gTy : ¬ gTy 54 := by
  unfold gTy
  decide
theorem BSt.move (h : BSt X w0 w W b ba bt A d) (hk : GKept W W') (hG : ∃ rows, GAt (fun k => X k ∨ k = bt) w0 W' b A' rows) : BSt X w0 w W' b ba bt A' d :=
  ⟨hG, h.hba.gkept hk ptr_gTy, h.hbt.gkept hk int_gTy, h.kept.trans hk, h.lo, h.ne, h.lo0⟩
theorem BSt.under (h : BSt X w0 w W b ba bt A d) (hb : Below W.heap.size W W') : BSt X w0 w W' b ba bt A d := by
  obtain ⟨rows, hG⟩ := h.aut
  exact h.move (GKept.below hb) ⟨rows, hG.under hb⟩
theorem BSt.store (h : BSt X w0 w W b ba bt A d) (d' : Nat) : BSt X w0 w (W.setCell ⟨bt, 0, none⟩ (.int .i64 d')) b ba bt A d' := by
  obtain ⟨rows, hG⟩ := h.aut
  have hbt := h.hbt
  unfold BoxIs at hbt
  refine ⟨⟨rows, hG.hole (.inr rfl) h.hbt h.lo0 _⟩, h.hba.setOther h.ne _ _, set_box hbt, ⟨by simpa [World.setCell] using h.kept.1, fun k o h1 h2 => ?_⟩, h.lo, h.ne, h.lo0⟩
  have hkl := (Array.getElem?_eq_some_iff.1 h1).1
  have := h.lo
  rw [Below.heap_setCell _ _ _ _ (fun e => by have e : k = bt := e; omega)]
  exact h.kept.2 k o h1 h2
theorem BSt.below (h : BSt X w0 w W b ba bt A d) : Below w0.heap.size w0 W := by
  obtain ⟨rows, hG⟩ := h.aut
  exact hG.below
/-- A round's end. -/
theorem BSt.ends {d' Bs : Nat} {vs : Array Value} {ty : TypeId} (h : BSt X w0 w W b ba bt A d) (h' : BSt X w0 w W' b ba bt A' d') (hr : RK bt W W') (hB : BoxIs W Bs vs ty) (hty : ty ≠ 3 ∧ ¬ gTy ty) : KeepsOthers W W' ∧ KpB w0.heap.size Bs W W' := by
  refine ⟨hr.others h.hbt, below_between h.below h'.below hr.1, ?_⟩
  have hne : Bs ≠ bt := fun e => by
    have h1 := h.hbt
    unfold BoxIs at h1 hB
    rw [e, h1] at hB
    injection hB with hB
    injection hB with _ hB _
    exact hty.1 hB.symm
  have h2 := hr.box hB hne hty.2
  unfold BoxIs at h2 hB
  rw [h2, hB]
end
end Go.Proofs.YtnpcbcnclncniaaGreatDoor
namespace Go.Proofs.YtnpcbcnclncniaaGreatDoor
open Go.RowKit Go.Shelf

attribute [local go_sem] Oper.semAt_some

/-- The contract of gAuto.build at a depth. -/
def BuildOk (n : Nat) : Prop := ∀ (X : Nat → Prop) (w0 w : World) (b : Nat) (A : List GNode) (rows : List (List Value)) (d : Nat) (s : Sl (P n)), GAt X w0 w b A rows → (∀ k, X k → k < w.heap.size) → SOk w0 n s → Good n s.xs → A.length + 2 * szL n s.xs ≤ 40000000 ∧ szL n s.xs ≤ 1048576 →
  Calls Tryz.prog 28 #[.pointer (some ⟨b, 0, none⟩), s.val, .int .i64 d] w fun e w' => e = .returned (.int .i64 (listG n s.xs A d).2) ∧ (∃ rows', GAt X w0 w' b (listG n s.xs A d).1 rows') ∧ GKept w w'

set_option maxRecDepth 100000 in
theorem backward_any (a : Option Addr) (len cap : Nat) (w : World) : Calls Tryz.prog 64 #[.slice a len cap] w fun e w' => e = .returned (.func (.func 95) #[] #[.pointer (some ⟨w.heap.size, 0, none⟩)]) ∧ w' = w.alloc (.cells #[.slice a len cap] 22) := by
  go_enter Tryz.func64, Tryz.ntmps64
  go_wp2_with fail
  go_ret
  exact ⟨rfl, rfl⟩
theorem enters_bwd1 : ∀ args w, (callFunc 95 args).run Tryz.prog w = .ok (.enter 95 args) w := enters_of Tryz.func95 (by kernel_rfl) rfl
theorem slice_gTy : 22 ≠ 3 ∧ ¬ gTy 22 := by
  unfold gTy
  decide

set_option maxRecDepth 100000 in
/-- A number more, in a round. -/
theorem wpListIn_appE {l nn : Nat} {ops : Array Oper} {rest : List Oper} {o : Oper} {act : Act} {Q : Exit → Act → World → Prop} {te : TypeId} {base : Nat} {wx : World} {a : Option Addr} {n cap : Nat} {xs : List Value} {q : Int}
    (hz : base ≤ wx.heap.size) (hO : wx.ownsRow base 3 1 (.slice a n cap) n xs) (hby : n ≤ 1000000000) (hgd : o.guard = none) (s x : Operand)
    (ho : o.op = .call { callee := .builtin .append, args := #[s, x], argTypes := #[59, 59] }) (hs : act.eval s = .slice a n cap) (hx : act.eval x = .slice (some ⟨wx.heap.size, 0, none⟩) 1 1)
    (h : ∀ g cap' w', w'.ownsRow base 3 1 (.slice (some ⟨g, 0, none⟩) (n + 1) cap') (n + 1) (xs ++ [.int .i64 q]) → wx.grownBy w' (Value.slice a n cap).ownBlock → ((Value.slice a n cap).ownBlock = some g ∨ wx.heap.size ≤ g) → wpListIn (Fence.wide.inRound l) nn Tryz.prog ops Q rest (act.put o.dst (.slice (some ⟨g, 0, none⟩) (n + 1) cap')) w') :
    wpListIn (Fence.wide.inRound l) nn Tryz.prog ops Q (o :: rest) act (wx.alloc (.cells #[.int .i64 q] te)) := by
  obtain ⟨i, ht, hi, hz0, hz1, hz2, hz3⟩ := elem_intQ
  have hba : base ≤ (wx.alloc (.cells #[.int .i64 q] te)).heap.size := by simp; omega
  refine wpListIn_plain hgd fun K hK => oper_inRound (R := fun _ _ => True) (by unfold noDefer; rw [ho]) (wp_append_lies _ s x 59 ho base 3 i _ 1 8 ht hi hz0 hz1 hz2 hz3 (by decide) _ n xs hs (hO.alloc _) ⟨wx.heap.size, 0, none⟩ 1 1 [.int .i64 q] hx rfl (World.news_of_block (heap_alloc_new wx (.cells #[.int .i64 q] te))) (by simp [Value.oneCell']) (by decide) (by unfold maxLen; omega) (by omega) hba _ rfl ?_)
  intro g cap' w' hown hgrow hat hlt
  refine hK _ _ (h g cap' w' hown ((World.grownBy_alloc wx _ _).andThen hgrow (fun j hj => .inr hj)) ?_)
  rcases hat with h' | h'
  · exact .inl h'
  · exact .inr (by rw [h']; simp)
/-- A row of numbers that is none of the automaton's grows. -/
theorem GAt.grownHole {X : Nat → Prop} {w0 w w' : World} {b : Nat} {A : List GNode} {rows : List (List Value)} {row : Option Nat} (h : GAt X w0 w b A rows) (hg : w.grownBy w' row) (hr : ∀ k, row = some k → X k ∧ w0.heap.size ≤ k ∧ ∃ cur : Array Value, w.heap[k]? = some (.cells cur 3 (0, 0))) : GAt X w0 w' b A rows := by
  obtain ⟨ga, cap, hb0, hbel, hbox, hl, hown, hn⟩ := h
  unfold BoxIs at hbox
  have hne : ∀ (j : Nat) (vs : Array Value) (ty : TypeId) (fr : Nat × Nat), w.heap[j]? = some (.cells vs ty fr) → ty ≠ 3 → w'.heap[j]? = w.heap[j]? := fun j vs ty fr h1 h2 => hg.block j (Array.getElem?_eq_some_iff.1 h1).1 (fun e => by
    obtain ⟨_, _, cur, h3⟩ := hr j e.symm
    rw [h1] at h3
    injection h3 with h3
    injection h3 with _ h3 _
    exact h2 h3)
  refine ⟨ga, cap, hb0, hbel.grown hg hbel.size (fun k hk => (hr k hk).2.1), ?_, hl, own_move hown (fun x hx => ?_), fun i g r h1 h2 => ?_⟩
  · unfold BoxIs
    rw [hne b _ _ _ hbox (by decide)]
    exact hbox
  · obtain ⟨cur, _, _, h3⟩ := own_ty hown hx
    exact hne _ _ _ _ h3 (by decide)
  · obtain ⟨ea, ec, pp, h3, h4, h5, h6⟩ := hn i g r h1 h2
    refine ⟨ea, ec, pp, h3, own_move h4 (fun x hx => ?_), ?_, h6⟩
    · obtain ⟨cur, _, _, h7⟩ := own_ty h4 hx
      exact hg.block _ (Array.getElem?_eq_some_iff.1 h7).1 (fun e => h6 x hx (hr _ e.symm).1)
    · revert h5
      cases g.part with
      | none => exact fun h5 => h5
      | some q =>
        rintro ⟨j, h7, h8, h9⟩
        refine ⟨j, h7, ?_, h9⟩
        unfold BoxIs at h8 ⊢
        rw [hne j _ _ _ h8 (by decide)]
        exact h8
/-- The blocks to stay clear of, and a row's. -/
def Xe (X : Nat → Prop) (ea : Option Addr) (k : Nat) : Prop := X k ∨ ∃ x, ea = some x ∧ x.block = k
/-- A way's beginning is noted. -/
theorem BSt.noted {X : Nat → Prop} {w0 w W wx w' : World} {b ba bt d : Nat} {A : List GNode} {ea : Option Addr} {n cap g : Nat} {xs : List Value} (h : BSt (Xe X ea) w0 w wx b ba bt A d) (hr : RK bt W wx) (hk : GKept w W) (hbt : bt < W.heap.size) (hba : ba < W.heap.size) (h0 : w0.heap.size ≤ W.heap.size)
    (hO : wx.ownsRow W.heap.size 3 1 (.slice ea n cap) n xs) (hg : wx.grownBy w' (Value.slice ea n cap).ownBlock) (hat : (Value.slice ea n cap).ownBlock = some g ∨ wx.heap.size ≤ g) : BSt (Xe X (some ⟨g, 0, none⟩)) w0 w w' b ba bt A d ∧ RK bt W w' := by
  have hown : ∀ k, (Value.slice ea n cap).ownBlock = some k → W.heap.size ≤ k ∧ (∃ x, ea = some x ∧ x.block = k) ∧ ∃ cur : Array Value, wx.heap[k]? = some (.cells cur 3 (0, 0)) := fun k hk => by
    cases ea with
    | none => cases hk
    | some x =>
      obtain ⟨cur, _, h2, h3⟩ := own_ty hO rfl
      injection hk with hk
      subst hk
      exact ⟨h2, ⟨x, rfl, rfl⟩, cur, h3⟩
  obtain ⟨rows, hG⟩ := h.aut
  have hrk : RK bt W w' := ⟨Nat.le_trans hr.1 hg.size, fun k o h1 h2 h3 => by
    have h4 := hr.2 k o h1 h2 h3
    have h5 := (Array.getElem?_eq_some_iff.1 h1).1
    rw [hg.block k (Array.getElem?_eq_some_iff.1 h4).1 (fun e => by
      have := (hown k e.symm).1
      omega)]
    exact h4⟩
  have hbx : ∀ (k : Nat) (vs : Array Value) (t : TypeId), BoxIs wx k vs t → k < W.heap.size → BoxIs w' k vs t := fun k vs t h1 h2 => by
    unfold BoxIs at h1 ⊢
    rw [hg.block k (Array.getElem?_eq_some_iff.1 h1).1 (fun e => by
      have := (hown k e.symm).1
      omega)]
    exact h1
  have hZ : GAt (fun k => (Xe X ea k ∨ k = bt) ∨ k = g) w0 wx b A rows := by
    rcases hat with h1 | h1
    · obtain ⟨_, ⟨x, h2, h3⟩, _⟩ := hown g h1
      exact hG.less (fun k hk => by
        rcases hk with hk | hk
        · exact hk
        · exact .inl (.inr ⟨x, h2, h3.trans hk.symm⟩))
    · exact hG.fresh h1
  have hZ2 := hZ.grownHole hg (fun k hk => by
    obtain ⟨h1, h2, h3⟩ := hown k hk
    exact ⟨.inl (.inl (.inr h2)), by omega, h3⟩)
  refine ⟨⟨⟨rows, hZ2.less (fun k hk => ?_)⟩, hbx _ _ _ h.hba hba, hbx _ _ _ h.hbt hbt, ?_, h.lo, h.ne, h.lo0⟩, hrk⟩
  · rcases hk with (hk | ⟨x, hx, hxb⟩) | hk
    · exact .inl (.inl (.inl hk))
    · injection hx with hx
      exact .inr (by rw [← hxb, ← hx])
    · exact .inl (.inr hk)
  · refine ⟨Nat.le_trans h.kept.1 hg.size, fun k o h1 h2 => ?_⟩
    have h3 := h.kept.2 k o h1 h2
    have h4 := (Array.getElem?_eq_some_iff.1 h1).1
    have h5 := hk.1
    rw [hg.block k (Array.getElem?_eq_some_iff.1 h3).1 (fun e => by
      have := (hown k e.symm).1
      omega)]
    exact h3
theorem BSt.less {X Y : Nat → Prop} {w0 w W : World} {b ba bt d : Nat} {A : List GNode} (h : BSt X w0 w W b ba bt A d) (hY : ∀ k, Y k → X k) : BSt Y w0 w W b ba bt A d := by
  obtain ⟨rows, hG⟩ := h.aut
  exact ⟨⟨rows, hG.less (fun k hk => hk.imp (hY k) id)⟩, h.hba, h.hbt, h.kept, h.lo, h.ne, h.lo0⟩

set_option maxHeartbeats 8000000 in
set_option maxRecDepth 100000 in
theorem build_core (m : Nat) (s : Sl (PartOf (P m))) (hb : s.xs ≠ [] → BuildOk m) (X : Nat → Prop) (w0 w : World) (b : Nat) (A : List GNode) (rows : List (List Value)) (d : Nat) (h : GAt X w0 w b A rows) (hX : ∀ k, X k → k < w.heap.size)
    (hs : s.xs = [] ∨ ∃ b off, s.a = some ⟨b, off, none⟩ ∧ b < w0.heap.size ∧ ∀ (k : Nat) (p : PartOf (P m)), s.xs[k]? = some p → ∀ (j : Nat) (u : Value), (partCellsOf p)[j]? = some u → w0.cell? ⟨b, off + k * 5 + j, none⟩ = some u)
    (hP : ∀ p ∈ s.xs, POk w0 (m + 1) p) (hg : Good (m + 1) s.xs) (hz : A.length + 2 * szL (m + 1) s.xs ≤ 40000000 ∧ szL (m + 1) s.xs ≤ 1048576) (hl : s.xs.length ≤ 1048576) :
    Calls Tryz.prog 28 #[.pointer (some ⟨b, 0, none⟩), .slice s.a s.xs.length s.c, .int .i64 d] w fun e w' => e = .returned (.int .i64 (listG (m + 1) s.xs A d).2) ∧ (∃ rows', GAt X w0 w' b (listG (m + 1) s.xs A d).1 rows') ∧ GKept w w' := by
  have HBw := Lib.hid (fun W => backward_any s.a s.xs.length s.c W)
  have hb1 := bAlloc (bAlloc (Below.refl w.heap.size w) (.cells #[.pointer (some ⟨b, 0, none⟩)] 54)) (.cells #[.int .i64 d] 3)
  have hb2 := bAlloc hb1 (.cells #[.slice s.a s.xs.length s.c] 22)
  have hsz : ((w.alloc (.cells #[.pointer (some ⟨b, 0, none⟩)] 54)).alloc (.cells #[.int .i64 d] 3)).heap.size = w.heap.size + 2 := by simp
  have hsz0 : (w.alloc (.cells #[.pointer (some ⟨b, 0, none⟩)] 54)).heap.size = w.heap.size + 1 := by simp
  have hBa := (BoxIs.new w #[.pointer (some ⟨b, 0, none⟩)] 54).under (bAlloc (bAlloc (Below.refl _ _) (.cells #[.int .i64 d] 3)) (.cells #[.slice s.a s.xs.length s.c] 22))
  have hBt := (BoxIs.new (w.alloc (.cells #[.pointer (some ⟨b, 0, none⟩)] 54)) #[.int .i64 d] 3).under (bAlloc (Below.refl _ _) (.cells #[.slice s.a s.xs.length s.c] 22))
  have hBs := BoxIs.new ((w.alloc (.cells #[.pointer (some ⟨b, 0, none⟩)] 54)).alloc (.cells #[.int .i64 d] 3)) #[.slice s.a s.xs.length s.c] 22
  rw [hsz0] at hBt
  rw [hsz] at hBs
  have hlow := h.below.size
  have H0 : Hid (BSt X w0 w (((w.alloc (.cells #[.pointer (some ⟨b, 0, none⟩)] 54)).alloc (.cells #[.int .i64 d] 3)).alloc (.cells #[.slice s.a s.xs.length s.c] 22)) b w.heap.size (w.heap.size + 1) A d) := Lib.hid
    ⟨⟨rows, (h.fresh (k := w.heap.size + 1) (by omega)).under hb2⟩, hBa, hBt, GKept.below hb2, by omega, by omega, by omega⟩
  have HBs := Lib.hid hBs
  have HB2 := Lib.hid hb2
  have hw0 := h.below
  clear hBa hBt hBs hb1 h
  refine (callsIn_wide (n := 3)).1 ?_
  refine callsIn_of_wp_marks Tryz.func28 rfl trivial ?_ rfl
  simp only [Tryz.ntmps28, List.size_toArray, List.length_cons, List.length_nil, Nat.reduceAdd, Nat.reduceSub, Array.replicate_succ, Array.replicate_zero, List.push_toArray, List.append_toArray, List.nil_append, List.cons_append]
  gi_wp2_with (refine ⟨trivial, ?_⟩; gi_at_call 64; refine (callsIn_wide.2 (HBw.out _)).mono ?_; rintro e w3 ⟨rfl, rfl⟩)
  clear HBw
  obtain ⟨W3, hW3⟩ : ∃ W3, ((w.alloc (.cells #[.pointer (some ⟨b, 0, none⟩)] 54)).alloc (.cells #[.int .i64 d] 3)).alloc (.cells #[.slice s.a s.xs.length s.c] 22) = W3 := ⟨_, rfl⟩
  rw [hW3] at H0 HBs HB2 ⊢
  have hsz3 : W3.heap.size = w.heap.size + 3 := by rw [← hW3]; simp
  try rw [hsz]
  have hw3 : w.heap.size < W3.heap.size := by omega
  obtain ⟨Bs, hBs⟩ : ∃ k, w.heap.size + 2 = k := ⟨_, rfl⟩
  obtain ⟨bt, hbt⟩ : ∃ k, w.heap.size + 1 = k := ⟨_, rfl⟩
  obtain ⟨ba, hba⟩ : ∃ k, w.heap.size = k := ⟨_, rfl⟩
  rw [hBs] at HBs ⊢
  rw [hbt] at H0 ⊢
  rw [hba]
  have H0' : Hid (BSt X w0 w W3 b ba bt A d) := Lib.hid (by rw [← hba]; exact H0.out)
  have hseq := backward1_seq (m := m) w0.heap.size Bs (3 - 1) s W3 HBs.out (by omega) (by
    rcases hs with h | ⟨b1, off, h1, h2, h3⟩
    · exact .inl h
    · exact .inr ⟨b1, off, h1, h2, fun k p hp j u hu => ((H0.out.below).cell (p := ⟨b1, off + k * 5 + j, none⟩) h2).trans (h3 k p hp j u hu)⟩) hl
  have hBs3 : Bs < W3.heap.size := by omega
  have hbt3 : bt < W3.heap.size := by omega
  have hHole : Hid (∀ k, X k ∨ k = bt → k < W3.heap.size) := Lib.hid (fun k hk => by
    rcases hk with hk | hk
    · have := hX k hk
      omega
    · omega)
  have hseqs := Lib.hid hseq
  clear H0 HB2 hsz hsz0 hW3 hb2 hseq hX hbt
  have HI : Hid (OwnFrom W3.heap.size (fun (pre : List (Nat × PartOf (P m))) W => BSt X w0 w W b ba bt (stG m pre (A, d)).1 (stG m pre (A, d)).2 ∧ BoxIs W Bs #[.slice s.a s.xs.length s.c] 22)) := Lib.hid (by
    rintro pre W W' row ⟨h1, h2⟩ hgr hrow
    have hst : CellsStay W W' := fun k vs ty fr hk => by
      rw [hgr.block k (Array.getElem?_eq_some_iff.1 hk).1 (fun e => by
        obtain ⟨_, o, h3, h4⟩ := hrow k e.symm
        rw [hk] at h3
        injection h3 with h3
        rw [← h3] at h4
        cases h4)]
      exact hk
    obtain ⟨rows1, hG⟩ := h1.aut
    refine ⟨⟨⟨rows1, hG.stay (hG.below.grown hgr hG.below.size (fun k e => by have := (hrow k e).1; omega)) hgr.size hst⟩, hst _ _ _ _ h1.hba, hst _ _ _ _ h1.hbt, ⟨Nat.le_trans h1.kept.1 hgr.size, fun k o h3 h4 => ?_⟩, h1.lo, h1.ne, h1.lo0⟩, hst _ _ _ _ h2⟩
    have h5 := h1.kept.2 k o h3 h4
    have hkl := (Array.getElem?_eq_some_iff.1 h3).1
    rw [hgr.block k (Array.getElem?_eq_some_iff.1 h5).1 (fun e => by have := (hrow k e.symm).1; omega)]
    exact h5)
  refine wp_rangeR (xs := bwd s.xs) (encs := pEncs (m := m)) (arr := fun x => partArr x.2) (ty := 92) (wi := W3) (Kp := KpB w0.heap.size Bs) rfl enters_bwd1 hseqs.out KpB.trans
    (fun W l o o' h1 h2 h3 => ⟨(Below.refl _ W).grown (grownBy_putObj' W l o') (by have := (Array.getElem?_eq_some_iff.1 h2).1; omega) (fun k e => by cases e; omega), World.putObj_heap_other (by omega)⟩)
    (fun W o h1 => ⟨((Below.refl W.heap.size W).alloc (Nat.le_refl _) o).mono (by omega), Below.heap_alloc W o _ (by omega)⟩) (Below.refl _ _) (fun x => rfl)
    (fun pre W => BSt X w0 w W b ba bt (stG m pre (A, d)).1 (stG m pre (A, d)).2 ∧ BoxIs W Bs #[.slice s.a s.xs.length s.c] 22) HI.out ⟨H0'.out, HBs.out⟩
    (fun x bp => { tmps := #[.pointer (some ⟨b, 0, none⟩), .slice s.a s.xs.length s.c, .int .i64 d, .pointer (some ⟨ba, 0, none⟩), undef, .pointer (some ⟨bt, 0, none⟩), .int .i64 0, undef, .pointer (some ⟨bp, 0, none⟩), undef, undef, undef, undef, undef, .slice s.a s.xs.length s.c, .func (.func 95) #[] #[.pointer (some ⟨Bs, 0, none⟩)], .int .i64 x.1, .agg (partArr x.2), undef, undef, undef, undef, undef, undef, undef, undef, undef, undef, undef, undef, undef, undef, undef, undef, undef, undef, undef, undef, undef, undef, undef, undef, undef, undef, undef, undef, undef, undef, undef, undef, undef, undef, undef, undef, undef, undef, undef, undef, undef, undef, undef, undef, undef, undef, undef, undef, undef, undef, undef, undef, undef, undef, undef, undef, undef], defers := [] }) ?assign ?body ?done
  case assign =>
    intro l x W K hK
    gi_wp2
    exact hK
  case body =>
    rintro l pre ⟨ix, p⟩ W bp ⟨hst, hbs⟩ hpre hbox hbp
    have hmem : p ∈ s.xs := bwd_mem hpre
    have hb := hb (List.ne_nil_of_mem hmem)
    have hpk := hP p hmem
    have hgd := hg p hmem
    have hsum := bwd_sum m s.xs hpre
    rw [List.map_append, List.sum_append] at hsum
    have hsn := stG_snoc m pre (ix, p) (A, d)
    have hlen := stG_len m pre A d
    have hszp : szOf (sz m) p ≤ 1048576 ∧ (stG m pre (A, d)).1.length + 2 * szOf (sz m) p ≤ 40000000 := by
      have h1 : szL (m + 1) s.xs = (s.xs.map (szOf (sz m))).sum := rfl
      simp only [List.map_cons, List.map_nil, List.sum_cons, List.sum_nil] at hsum
      exact ⟨by omega, by omega⟩
    obtain ⟨Ak, hAk⟩ : ∃ Ak, (stG m pre (A, d)).1 = Ak := ⟨_, rfl⟩
    obtain ⟨dk, hdk⟩ : ∃ dk, (stG m pre (A, d)).2 = dk := ⟨_, rfl⟩
    rw [hAk, hdk] at hst hsn
    rw [hAk] at hszp
    have hne : bp ≠ bt := by omega
    have HEnd : Hid (∀ (W' : World) (A' : List GNode) (d' : Nat), partG (fun t => listG m t.xs) p Ak dk = (A', d') → BSt X w0 w W' b ba bt A' d' → RK bt W W' → (KeepsOthers W W' ∧ KpB w0.heap.size Bs W W' ∧ (BSt X w0 w W' b ba bt (stG m (pre ++ [(ix, p)]) (A, d)).1 (stG m (pre ++ [(ix, p)]) (A, d)).2 ∧ BoxIs W' Bs #[.slice s.a s.xs.length s.c] 22))) := Lib.hid (fun W' A' d' h1 h2 h3 => by
      obtain ⟨h4, h5⟩ := hst.ends h2 h3 hbs slice_gTy
      refine ⟨h4, h5, by rw [hsn, h1]; exact h2, h3.box hbs (fun e => ?_) slice_gTy.2⟩
      have h6 := hst.hbt
      unfold BoxIs at h6 hbs
      rw [← e, hbs] at h6
      injection h6 with h6
      injection h6 with _ h6 _
      exact slice_gTy.1 h6)
    have HSt := Lib.hid hst
    have HBx := Lib.hid hbox
    have HHo : Hid (∀ k, X k ∨ k = bt → k < W.heap.size) := Lib.hid (fun k hk => by
      have h1 := hHole.out k hk
      have h2 := hbox.lt
      omega)
    have HPk := Lib.hid hpk
    have HGd := Lib.hid hgd
    have c0 := hst.hba.cell (j := 0) rfl
    have c2 := hst.hbt.cell (j := 0) rfl
    have b0 := hbox.cell (j := 0) rfl
    have b1 := hbox.cell (j := 1) rfl
    have b2 := hbox.cell (j := 2) rfl
    have b3 := hbox.cell (j := 3) rfl
    have b4 := hbox.cell (j := 4) rfl
    clear hst hbox hsn hbs hpk hgd hmem hsum hlen hAk hdk hpre H0' HBs hseqs hs hP hg HI
    obtain ⟨kd, tx, ng, rgs, ws⟩ := p
    dsimp only at b0 b1 b2 b3 b4 hszp ⊢
    by_cases hk1 : kd = 1
    · have e1 : (kd == 1) = true := by rw [hk1]; rfl
      have hPG : Hid (partG (fun t => listG m t.xs) ⟨kd, tx, ng, rgs, ws⟩ Ak dk = textG tx.data.toList Ak dk) := Lib.hid (by
        unfold partG
        rw [if_pos hk1])
      have htx : (tx.size : Int) ≤ 9223372036854775807 := by
        have h1 := HPk.out.1.1
        have h2 : tx.size ≤ maxLen := h1
        unfold maxLen at h2
        omega
      clear hk1
      gi_wp2
      gi_loopw [9] (fun i wr => ∃ j : Nat, j ≤ tx.size ∧ i = .int .i64 ((tx.size : Int) - 1 - j) ∧ Hid (BSt X w0 w wr b ba bt (textG (tx.data.toList.drop (tx.size - j)) Ak dk).1 (textG (tx.data.toList.drop (tx.size - j)) Ak dk).2 ∧ RK bt W wr ∧ BoxIs wr bp (partArr (⟨kd, tx, ng, rgs, ws⟩ : PartOf (P m))) 92))
        (fun i _ => ((intOf i) + 1).toNat)
      case atStart => exact ⟨0, Nat.zero_le _, by simp, Lib.hid ⟨by rw [Nat.sub_zero, Lib.size_eq, List.drop_length]; exact HSt.out, RK.refl _ _, HBx.out⟩⟩
      case round =>
        clear HSt HBx c0 c2 b0 b1 b2 b3 b4 e1 HPk HGd
        obtain ⟨j, hj, rfl, HR⟩ := hrel
        by_cases hlt : j < tx.size
        · obtain ⟨i, hi⟩ : ∃ i, tx.size - 1 - j = i := ⟨_, rfl⟩
          have hil : i < tx.size := by omega
          have hiI : (tx.size : Int) - 1 - (j : Int) = (i : Int) := by omega
          obtain ⟨ch, hch⟩ : ∃ ch : UInt8, tx[i]'hil = ch := ⟨_, rfl⟩
          have hget : tx.data.toList[i]? = some ch := by rw [← hch]; exact Lib.data_getElem? tx i hil
          have hlen2 := textG_len (tx.data.toList.drop (tx.size - j)) Ak dk
          have hstep : textG (tx.data.toList.drop (tx.size - (j + 1))) Ak dk = ((textG (tx.data.toList.drop (tx.size - j)) Ak dk).1 ++ [byteG ch.toNat (textG (tx.data.toList.drop (tx.size - j)) Ak dk).2], (textG (tx.data.toList.drop (tx.size - j)) Ak dk).1.length) := by
            have h1 : tx.size - (j + 1) = i := by omega
            have h2 : tx.size - j = i + 1 := by omega
            obtain ⟨hl3, hc3⟩ := List.getElem?_eq_some_iff.1 hget
            rw [h1, h2, List.drop_eq_getElem_cons hl3, hc3]
            rfl
          rw [List.length_drop, ← Lib.size_eq] at hlen2
          obtain ⟨Aj, hAj⟩ : ∃ Aj, (textG (tx.data.toList.drop (tx.size - j)) Ak dk).1 = Aj := ⟨_, rfl⟩
          obtain ⟨dj, hdj⟩ : ∃ dj, (textG (tx.data.toList.drop (tx.size - j)) Ak dk).2 = dj := ⟨_, rfl⟩
          rw [hAj, hdj] at HR hstep
          rw [hAj] at hlen2
          have hszt : tx.size ≤ szOf (sz m) ⟨kd, tx, ng, rgs, ws⟩ := by
            unfold szOf
            dsimp only
            omega
          have hbd : Below wr.heap.size wr wr.drew := drB0 (Below.refl _ _)
          obtain ⟨rowsj, hGj⟩ := HR.out.1.aut
          have HAdd := Lib.hid (add_any wr.drew (hGj.under hbd) (byteG ch.toNat dj) (.slice none 0 0) (.pointer none) (.int .i64 ch.toNat) (.int .i64 dj) ⟨none, 0, none, rfl, World.ownsRow_nil _ _ _ _, rfl, fun x hx => by cases hx⟩ (by omega))
          have HB1 := Lib.hid (HR.out.1.under hbd)
          have HBx1 := Lib.hid (HR.out.2.2.under hbd)
          have HRk := Lib.hid (HR.out.2.1.trans (RK.kept (GKept.below hbd)))
          have c0 := HR.out.1.hba.cell (j := 0) rfl
          have c1 := HR.out.2.2.cell (j := 1) rfl
          have c2 := HR.out.1.hbt.cell (j := 0) rfl
          have hi0 : (0 : Int) ≤ (i : Int) := by omega
          have hi1 : (i : Int) < (tx.size : Int) := by omega
          have HStp := Lib.hid hstep
          have hwr : IntKind.i64.wrap (ch.toNat : Int) = (ch.toNat : Int) := IntWalk.i64_in _ (by have := ch.toNat_lt; omega)
          clear hGj hbd HR hAj hdj hstep hget hszp hlen2 hszt
          rw [hiI]
          gi_wp2
          refine wpIn_region_seqU (fun W' => W'.cell? ⟨ba, 0, none⟩ = some (.pointer (some ⟨b, 0, none⟩)) ∧ W'.cell? ⟨bp, 1, none⟩ = some (.string tx) ∧ W'.cell? ⟨bt, 0, none⟩ = some (.int .i64 dj)) 9 [(0, true), (1, true), (2, true), (3, true), (4, true), (5, true), (6, true), (7, true), (8, false), (9, false)] (by as_aux_lemma => kernel_rfl) (by as_aux_lemma => kernel_rfl) (by as_aux_lemma => kernel_rfl) (by as_aux_lemma => kernel_rfl) (by decide) (by as_aux_lemma => kernel_rfl) (by decide) (⟨c0, c1, c2⟩) ?_
          intro OPS HOP
          refine seqT_take (o := ⟨_, _, _, _, _, _⟩) (v := ?_) (by rw [HOP.out]; rfl) (by rfl) ?_ ?_
          rotate_left 1
          · first | ((intro W _; go_simp) <;> with_reducible rfl) | (intro W hW; obtain ⟨s0, s1, s2⟩ := hW; (go_simp <;> with_reducible rfl))
          try simp only [Act.put, List.setIfInBounds_toArray, List.set_cons_zero, List.set_cons_succ]
          refine seqT_take (o := ⟨_, _, _, _, _, _⟩) (v := ?_) (by rw [HOP.out]; rfl) (by rfl) ?_ ?_
          rotate_left 1
          · first | ((intro W _; go_simp) <;> with_reducible rfl) | (intro W hW; obtain ⟨s0, s1, s2⟩ := hW; (go_simp <;> with_reducible rfl))
          try simp only [Act.put, List.setIfInBounds_toArray, List.set_cons_zero, List.set_cons_succ]
          refine seqT_take (o := ⟨_, _, _, _, _, _⟩) (v := ?_) (by rw [HOP.out]; rfl) (by rfl) ?_ ?_
          rotate_left 1
          · first | ((intro W _; go_simp) <;> with_reducible rfl) | (intro W hW; obtain ⟨s0, s1, s2⟩ := hW; (go_simp <;> with_reducible rfl))
          try simp only [Act.put, List.setIfInBounds_toArray, List.set_cons_zero, List.set_cons_succ]
          refine seqT_take (o := ⟨_, _, _, _, _, _⟩) (v := ?_) (by rw [HOP.out]; rfl) (by rfl) ?_ ?_
          rotate_left 1
          · first | ((intro W _; go_simp) <;> with_reducible rfl) | (intro W hW; obtain ⟨s0, s1, s2⟩ := hW; (go_simp <;> with_reducible rfl))
          try simp only [Act.put, List.setIfInBounds_toArray, List.set_cons_zero, List.set_cons_succ]
          refine seqT_take (o := ⟨_, _, _, _, _, _⟩) (v := ?_) (by rw [HOP.out]; rfl) (by rfl) ?_ ?_
          rotate_left 1
          · first | ((intro W _; go_simp) <;> with_reducible rfl) | (intro W hW; obtain ⟨s0, s1, s2⟩ := hW; (go_simp <;> with_reducible rfl))
          try simp only [Act.put, List.setIfInBounds_toArray, List.set_cons_zero, List.set_cons_succ]
          refine seqT_take (o := ⟨_, _, _, _, _, _⟩) (v := ?_) (by rw [HOP.out]; rfl) (by rfl) ?_ ?_
          rotate_left 1
          · first | ((intro W _; go_simp) <;> with_reducible rfl) | (intro W hW; obtain ⟨s0, s1, s2⟩ := hW; (go_simp <;> with_reducible rfl))
          try simp only [Act.put, List.setIfInBounds_toArray, List.set_cons_zero, List.set_cons_succ]
          refine seqT_take (o := ⟨_, _, _, _, _, _⟩) (v := ?_) (by rw [HOP.out]; rfl) (by rfl) ?_ ?_
          rotate_left 1
          · first | ((intro W _; go_simp) <;> with_reducible rfl) | (intro W hW; obtain ⟨s0, s1, s2⟩ := hW; (go_simp <;> with_reducible rfl))
          try simp only [Act.put, List.setIfInBounds_toArray, List.set_cons_zero, List.set_cons_succ]
          refine seqT_take (o := ⟨_, _, _, _, _, _⟩) (v := ?_) (by rw [HOP.out]; rfl) (by rfl) ?_ ?_
          rotate_left 1
          · first | ((intro W _; go_simp) <;> with_reducible rfl) | (intro W hW; obtain ⟨s0, s1, s2⟩ := hW; (go_simp <;> with_reducible rfl))
          try simp only [Act.put, List.setIfInBounds_toArray, List.set_cons_zero, List.set_cons_succ]
          refine seqT_do (o := ⟨_, _, _, _, _, _⟩) (by rw [HOP.out]; rfl) (by rfl) (fun K hK => ?_)
          go_wp2_with (go_at_call 26; refine HAdd.out.mono ?_; rintro e w5 ⟨rfl, hg5, hk5⟩; have hb5 := BSt.move HB1.out hk5 ⟨_, hg5⟩; have HB5 := Lib.hid (And.intro (BSt.store hb5 Aj.length) (And.intro ((RK.kept hk5).trans (RK.set (bt := bt) w5 (.int .i64 Aj.length))) (HBx1.out.gkept hk5 part_gTy))); have d0 := hb5.hba.cell (j := 0) rfl; have d2 := hb5.hbt.cell (j := 0) rfl; have d1 := (HBx1.out.gkept hk5 part_gTy).cell (j := 1) rfl; have df := Lib.frozen_of_heap hb5.hbt 0; clear hb5 hg5 hk5 HAdd)
          refine hK.out _ _ (fun _ => ⟨d0, d1, d2⟩) ?_
          clear hK K
          try simp only [Act.put, List.setIfInBounds_toArray, List.set_cons_zero, List.set_cons_succ]
          refine seqT_do (o := ⟨_, _, _, _, _, _⟩) (by rw [HOP.out]; rfl) (by rfl) (fun K hK => ?_)
          go_wp2_with fail
          refine hK.out _ _ (fun h => absurd rfl h) ?_
          clear hK K
          try simp only [Act.put, List.setIfInBounds_toArray, List.set_cons_zero, List.set_cons_succ]
          refine seqU_doneIn ?_
          clear HOP OPS
          gi_wp2
          go_roundw
          case rel => exact ⟨j + 1, by omega, by congr 1; omega, Lib.hid ⟨by rw [HStp.out]; exact HB5.out.1, HRk.out.trans HB5.out.2.1, HB5.out.2.1.box HBx1.out hne part_gTy⟩⟩
          case measure => simp [intOf] <;> omega
        · obtain rfl : j = tx.size := by omega
          have hneg : ¬ ((0 : Int) ≤ (tx.size : Int) - 1 - (tx.size : Int)) := by omega
          gi_wp2
          have h1 := HR.out.1
          rw [Nat.sub_self, List.drop_zero] at h1
          exact HEnd.out _ _ _ hPG.out h1 HR.out.2.1
    have e1 : (kd == 1) = false := by simp [hk1]
    by_cases hk3 : kd = 3 ∨ kd = 4
    · have hPG : Hid (partG (fun t => listG m t.xs) ⟨kd, tx, ng, rgs, ws⟩ Ak dk = ((loopG (kd == 4) Ak dk).1, Ak.length)) := Lib.hid (by
        unfold partG
        rw [if_neg hk1, if_pos hk3]
        rfl)
      obtain ⟨rows1, hG1⟩ := HSt.out.aut
      have HLp := Lib.hid (loop_any W hG1 dk (kd == 4) (by omega) HHo.out)
      have df := Lib.frozen_of_heap HSt.out.hbt 0
      clear hk1 hG1
      rcases hk3 with rfl | rfl
      all_goals
        gi_wp2_with (refine ⟨trivial, ?_⟩; gi_at_call 27; refine (CallsIn.inRound l (callsIn_wide.2 HLp.out)).mono ?_; rintro e w5 ⟨rfl, ⟨rows5, hg5⟩, hk5⟩; have hb5 := BSt.move HSt.out hk5 ⟨_, hg5⟩; have HB5 := Lib.hid (And.intro (BSt.store hb5 Ak.length) ((RK.kept hk5).trans (RK.set (bt := bt) w5 (.int .i64 Ak.length)))); have d2 := hb5.hbt.cell (j := 0) rfl; have df5 := Lib.frozen_of_heap hb5.hbt 0; clear hb5 hg5 hk5 HLp c0 c2 b0 b1 b2 b3 b4 df HSt)
        exact HEnd.out _ _ _ hPG.out HB5.out.1 HB5.out.2
    have e3 : (kd == 3) = false := by
      have : kd ≠ 3 := fun e => hk3 (.inl e)
      simp [this]
    have e4 : (kd == 4) = false := by
      have : kd ≠ 4 := fun e => hk3 (.inr e)
      simp [this]
    by_cases hk6 : kd = 6
    · have hPG : Hid (partG (fun t => listG m t.xs) ⟨kd, tx, ng, rgs, ws⟩ Ak dk = ((waysG (fun t => listG m t.xs) dk ws.xs (Ak, [])).1 ++ [⟨(waysG (fun t => listG m t.xs) dk ws.xs (Ak, [])).2, none, 0, 0⟩], (waysG (fun t => listG m t.xs) dk ws.xs (Ak, [])).1.length)) := Lib.hid (by
        unfold partG
        rw [if_neg hk1, if_neg hk3, if_pos hk6])
      have e6 : (kd == 6) = true := by rw [hk6]; rfl
      have hWs : Hid (SlHolds w0 1 (fun s : Sl (P m) => [s.val]) ws ∧ (∀ t ∈ ws.xs, SOk w0 m t) ∧ (∀ t ∈ ws.xs, Good m t.xs)) := Lib.hid ⟨HPk.out.2.2.2.1, HPk.out.2.2.2.2, HGd.out.2.2.2⟩
      have hsum : ∀ k, ((ws.xs.take k).map (fun s => 1 + (s.xs.map (sz m)).sum)).sum ≤ szOf (sz m) ⟨kd, tx, ng, rgs, ws⟩ := fun k => by
        have h1 : (ws.xs.map (fun s => 1 + (s.xs.map (sz m)).sum)).sum = ((ws.xs.take k).map (fun s => 1 + (s.xs.map (sz m)).sum)).sum + ((ws.xs.drop k).map (fun s => 1 + (s.xs.map (sz m)).sum)).sum := by
          rw [← List.sum_append, ← List.map_append, List.take_append_drop]
        unfold szOf
        dsimp only
        omega
      have hwl : ws.xs.length ≤ 1048576 := by
        have h1 := sum_mono (xs := ws.xs) (f := fun _ => 1) (g := fun s => 1 + (s.xs.map (sz m)).sum) (fun r _ => by omega)
        rw [sum_ones1] at h1
        have h2 := hsum ws.xs.length
        rw [List.take_length] at h2
        omega
      have HSum := Lib.hid hsum
      have hbaW : ba < W.heap.size := HSt.out.hba.lt
      have hbtW : bt < W.heap.size := HSt.out.hbt.lt
      have h0W : w0.heap.size ≤ W.heap.size := HSt.out.below.size
      have HKw := Lib.hid HSt.out.kept
      have H00 : Hid (BSt (Xe X none) w0 w W b ba bt Ak dk) := Lib.hid (HSt.out.less (fun k hk => by
        rcases hk with hk | ⟨x, hx, _⟩
        · exact hk
        · cases hx))
      clear hk1 hk3 hk6 hsum HSt HPk HGd
      gi_wp2
      gi_loopw [10, 58] (fun s10 s58 wr => ∃ (k : Nat) (A' : List GNode) (es : List Nat) (ea : Option Addr) (ec : Nat), k ≤ ws.xs.length ∧ s10 = .slice ea k ec ∧ s58 = .int .i64 k ∧ Hid (waysG (fun t => listG m t.xs) dk (ws.xs.take k) (Ak, []) = (A', es) ∧ es.length = k ∧ BSt (Xe X ea) w0 w wr b ba bt A' dk ∧ RK bt W wr ∧ wr.ownsRow W.heap.size 3 1 (.slice ea k ec) k (es.map vN)))
        (fun _ s58 _ => ws.xs.length - (intOf s58).toNat)
      case atStart => exact ⟨0, Ak, [], none, 0, Nat.zero_le _, rfl, by simp, Lib.hid ⟨rfl, rfl, H00.out, RK.refl _ _, World.ownsRow_nil _ _ _ _⟩⟩
      case round =>
        clear H00 HBx b0 b1 b2 b3 b4 e1 e3 e4 e6 c0 c2
        obtain ⟨k, A', es, ea, ec, hk, rfl, rfl, HR⟩ := hrel
        obtain ⟨hwg, hes, hst, hrk, hown⟩ := HR.out
        have c0 := hst.hba.cell (j := 0) rfl
        have c2 := hst.hbt.cell (j := 0) rfl
        by_cases hlt : k < ws.xs.length
        · obtain ⟨t, ht⟩ : ∃ t, ws.xs[k]? = some t := ⟨_, List.getElem?_eq_getElem hlt⟩
          have hmem := List.mem_of_getElem? ht
          obtain ⟨bw, ow, hwa, hbw, hcw⟩ := hWs.out.1.1.at (k := k) (row := [t.val]) (by rw [List.getElem?_map, ht]; rfl)
          have cw : wr.cell? ⟨bw, ow + k, none⟩ = some (.slice t.a t.xs.length t.c) := (hst.below.cell (p := ⟨bw, ow + k, none⟩) hbw).trans (by
            have := hcw 0 _ rfl
            rwa [Nat.mul_one, Nat.add_zero] at this)
          have hlenW := waysG_len (fun t : Sl (P m) => listG m t.xs) (fun s => 1 + (s.xs.map (sz m)).sum) dk (ws.xs.take k) Ak [] (fun t _ A => by
            have h1 : szL m t.xs = (t.xs.map (sz m)).sum := rfl
            have := listG_len m t.xs A dk
            omega)
          have hsk := HSum.out (k + 1)
          rw [List.take_add_one, ht, Option.toList_some, List.map_append, List.sum_append, List.map_cons, List.map_nil, List.sum_cons, List.sum_nil] at hsk
          rw [hwg] at hlenW
          have hszt : szL m t.xs = (t.xs.map (sz m)).sum := rfl
          have hbs : A'.length + 2 * szL m t.xs ≤ 40000000 ∧ szL m t.xs ≤ 1048576 := by
            dsimp only at hlenW
            exact ⟨by omega, by omega⟩
          obtain ⟨rowsw, hGw⟩ := hst.aut
          have HIH := Lib.hid (hb (fun k => Xe X ea k ∨ k = bt) w0 wr b A' rowsw dk t hGw (fun k' hk' => by
            have h1 := hrk.1
            rcases hk' with (h2 | ⟨x, h2, h3⟩) | h2
            · have := HHo.out k' (.inl h2)
              omega
            · obtain ⟨cur, _, _, h4⟩ := own_ty hown h2
              have := (Array.getElem?_eq_some_iff.1 h4).1
              omega
            · omega) (hWs.out.2.1 t hmem) (hWs.out.2.2 t hmem) hbs)
          have hstep : waysG (fun t => listG m t.xs) dk (ws.xs.take (k + 1)) (Ak, []) = ((listG m t.xs A' dk).1, es ++ [(listG m t.xs A' dk).2]) := by
            rw [List.take_add_one, ht, Option.toList_some]
            have h1 : waysG (fun t => listG m t.xs) dk (ws.xs.take k ++ [t]) (Ak, []) = ((listG m t.xs (waysG (fun t => listG m t.xs) dk (ws.xs.take k) (Ak, [])).1 dk).1, (waysG (fun t => listG m t.xs) dk (ws.xs.take k) (Ak, [])).2 ++ [(listG m t.xs (waysG (fun t => listG m t.xs) dk (ws.xs.take k) (Ak, [])).1 dk).2]) := by
              unfold waysG
              rw [List.foldl_append]
              rfl
            rw [h1, hwg]
          have HStp := Lib.hid (And.intro hstep hes)
          have HOld := Lib.hid (And.intro hst (And.intro hrk hown))
          have hk0 : (0 : Int) ≤ (k : Int) := by omega
          have hk1 : (k : Int) < (ws.xs.length : Int) := by omega
          have HMv : Hid (∀ w5, GKept wr w5 → (∃ rows', GAt (fun k => Xe X ea k ∨ k = bt) w0 w5 b (listG m t.xs A' dk).1 rows') → W.heap.size ≤ w5.heap.size ∧ w5.ownsRow W.heap.size 3 1 (.slice ea k ec) k (es.map vN) ∧ ∀ g cap' w6, w6.ownsRow W.heap.size 3 1 (.slice (some ⟨g, 0, none⟩) (k + 1) cap') (k + 1) (es.map vN ++ [.int .i64 (listG m t.xs A' dk).2]) → w5.grownBy w6 (Value.slice ea k ec).ownBlock → ((Value.slice ea k ec).ownBlock = some g ∨ w5.heap.size ≤ g) →
              BSt (Xe X (some ⟨g, 0, none⟩)) w0 w w6 b ba bt (listG m t.xs A' dk).1 dk ∧ RK bt W w6 ∧ w6.ownsRow W.heap.size 3 1 (.slice (some ⟨g, 0, none⟩) (k + 1) cap') (k + 1) ((es ++ [(listG m t.xs A' dk).2]).map vN)) := Lib.hid (fun w5 hk5 hg5 => by
            have hO5 := intRow_kept HOld.out.2.2 hk5
            refine ⟨Nat.le_trans HOld.out.2.1.1 hk5.1, hO5, fun g cap' w6 h1 h2 h3 => ?_⟩
            obtain ⟨h4, h5⟩ := BSt.noted (BSt.move HOld.out.1 hk5 hg5) (HOld.out.2.1.trans (RK.kept hk5)) HKw.out hbtW hbaW h0W hO5 h2 h3
            exact ⟨h4, h5, by rw [List.map_append]; exact h1⟩)
          clear hwg hes hst hrk hown ht hmem hcw hlenW hsk hszt hbs hGw hstep HR HOld
          obtain ⟨wsa, wsc, wsx⟩ := ws
          dsimp only at hwa
          subst hwa
          dsimp only at *
          obtain ⟨q, hq⟩ : ∃ q, (listG m t.xs A' dk).2 = q := ⟨_, rfl⟩
          rw [hq] at HIH HMv HStp
          gi_wp2_with (first | (refine ⟨trivial, ?_⟩; gi_at_call 28; refine (CallsIn.inRound l (callsIn_wide.2 HIH.out)).mono ?_; rintro e w5 ⟨rfl, hg5, hk5⟩; obtain ⟨hz5, hO5, hn5⟩ := HMv.out w5 hk5 hg5; have HO5 := Lib.hid hO5; have HN5 := Lib.hid hn5; clear hO5 hn5 hk5 hg5 HIH HMv c0 c2 cw) | (gi_at_builtin; refine wpListIn_appE (q := q) hz5 HO5.out (by omega) rfl (.tmp 62) (.tmp 67) rfl rfl rfl ?_; intro g cap' w6 hown6 hg6 hat6; have H6 := Lib.hid (HN5.out g cap' w6 hown6 hg6 hat6); clear hown6 hg6 hat6 HN5 HO5))
          go_roundw
          case rel => exact ⟨k + 1, _, _, _, _, by omega, rfl, by go_num, Lib.hid ⟨HStp.out.1, by rw [List.length_append, HStp.out.2]; rfl, H6.out⟩⟩
          case measure => simp [intOf] <;> omega
        · obtain rfl : k = ws.xs.length := by omega
          have hneg : ¬ ((ws.xs.length : Int) < (ws.xs.length : Int)) := by omega
          rw [List.take_length] at hwg
          have hstX := hst.less (Y := X) (fun k hk => .inl hk)
          obtain ⟨rowsw, hGw⟩ := hstX.aut
          have hlenW := waysG_len (fun t : Sl (P m) => listG m t.xs) (fun s => 1 + (s.xs.map (sz m)).sum) dk ws.xs Ak [] (fun t _ A => by
            have h1 : szL m t.xs = (t.xs.map (sz m)).sum := rfl
            have := listG_len m t.xs A dk
            omega)
          have hsk := HSum.out ws.xs.length
          rw [List.take_length] at hsk
          rw [hwg] at hlenW
          have HAdd := Lib.hid (add_any wr hGw ⟨es, none, 0, 0⟩ (.slice ea ws.xs.length ec) (.pointer none) (.int .i64 0) (.int .i64 0) ⟨ea, ec, none, by rw [show (⟨es, none, 0, 0⟩ : GNode).eps.length = ws.xs.length from hes]; rfl, by
            rw [show (⟨es, none, 0, 0⟩ : GNode).eps.length = ws.xs.length from hes]
            refine ⟨hown.1, ?_⟩
            rcases hown.2 with hv | ⟨g, c, cur, hv, h1, h2⟩
            · exact .inl hv
            · exact .inr ⟨g, c, cur, hv, Nat.le_trans h0W h1, h2⟩, rfl, fun x hx hX' => by
            obtain ⟨cur, _, h4, _⟩ := own_ty hown hx
            have := HHo.out _ hX'
            omega⟩ (by dsimp only at hlenW; omega))
          have HOld := Lib.hid (And.intro hstX (And.intro hrk hwg))
          clear hst hrk hown hwg hstX hGw hlenW hsk HR hes
          gi_wp2_with (refine ⟨trivial, ?_⟩; gi_at_call 26; refine (CallsIn.inRound l (callsIn_wide.2 HAdd.out)).mono ?_; rintro e w5 ⟨rfl, hg5, hk5⟩; have hb5 := BSt.move HOld.out.1 hk5 ⟨_, hg5⟩; have HB5 := Lib.hid (And.intro (BSt.store hb5 A'.length) (HOld.out.2.1.trans ((RK.kept hk5).trans (RK.set (bt := bt) w5 (.int .i64 A'.length))))); have d2 := hb5.hbt.cell (j := 0) rfl; have df5 := Lib.frozen_of_heap hb5.hbt 0; clear hb5 hg5 hk5 HAdd c0 c2)
          exact HEnd.out _ _ _ (hPG.out.trans (by rw [HOld.out.2.2])) HB5.out.1 HB5.out.2
    have e6 : (kd == 6) = false := by simp [hk6]
    have hPG : Hid (partG (fun t => listG m t.xs) ⟨kd, tx, ng, rgs, ws⟩ Ak dk = (Ak ++ [⟨[], some ⟨m, ⟨kd, tx, ng, rgs, ws⟩⟩, 0, dk⟩], Ak.length)) := Lib.hid (by
      unfold partG
      rw [if_neg hk1, if_neg hk3, if_neg hk6])
    obtain ⟨rows1, hG1⟩ := HSt.out.aut
    have hbA := bAlloc (Below.refl W.heap.size W) (.cells (partArr (⟨kd, tx, ng, rgs, ws⟩ : PartOf (P m))) 92)
    have hrgl : rgs.xs.length ≤ 1048576 := by
      have : rgs.xs.length ≤ szOf (sz m) ⟨kd, tx, ng, rgs, ws⟩ := by
        unfold szOf
        dsimp only
        omega
      omega
    have HAdd := Lib.hid (add_any _ (hG1.under hbA) ⟨[], some ⟨m, ⟨kd, tx, ng, rgs, ws⟩⟩, 0, dk⟩ (.slice none 0 0) (.pointer (some ⟨W.heap.size, 0, none⟩)) (.int .i64 0) (.int .i64 dk) ⟨none, 0, some ⟨W.heap.size, 0, none⟩, rfl, World.ownsRow_nil _ _ _ _, ⟨W.heap.size, rfl, BoxIs.new W _ _, HPk.out.2.1, hrgl⟩, fun x hx => by cases hx⟩ (by omega))
    have HStA := Lib.hid (HSt.out.under hbA)
    have HKA := Lib.hid (RK.kept (bt := bt) (GKept.below hbA))
    have y0 : (W.alloc (.cells #[.int .i64 kd, .string tx, .bool ng, .slice rgs.a rgs.xs.length rgs.c, .slice ws.a ws.xs.length ws.c] 92)).cell? ⟨ba, 0, none⟩ = some (.pointer (some ⟨b, 0, none⟩)) := HStA.out.hba.cell (j := 0) rfl
    have y2 : (W.alloc (.cells #[.int .i64 kd, .string tx, .bool ng, .slice rgs.a rgs.xs.length rgs.c, .slice ws.a ws.xs.length ws.c] 92)).cell? ⟨bt, 0, none⟩ = some (.int .i64 dk) := HStA.out.hbt.cell (j := 0) rfl
    clear hk1 hk3 hk6 hG1 hbA HSt
    gi_wp2_with (refine ⟨trivial, ?_⟩; gi_at_call 26; refine (CallsIn.inRound l (callsIn_wide.2 HAdd.out)).mono ?_; rintro e w5 ⟨rfl, hg5, hk5⟩; have hb5 := BSt.move HStA.out hk5 ⟨_, hg5⟩; have HB5 := Lib.hid (And.intro (BSt.store hb5 Ak.length) (HKA.out.trans ((RK.kept hk5).trans (RK.set (bt := bt) w5 (.int .i64 Ak.length))))); have d2 := hb5.hbt.cell (j := 0) rfl; have df5 := Lib.frozen_of_heap hb5.hbt 0; clear hb5 hg5 hk5 HAdd c0 c2 b0 b1 b2 b3 b4 y0 y2 HStA HKA)
    exact HEnd.out _ _ _ hPG.out HB5.out.1 HB5.out.2
  case done =>
    intro D W hD hi hK
    have cbt := hi.1.hbt.cell (j := 0) rfl
    have hi2 := HI.out.putObj (.deferred none) hi hD hK rfl
    rw [stG_all] at hi2
    have hi3 := stG_all m s.xs A d
    gi_wp2
    refine ⟨by simp, .inl ⟨_, _, rfl, run_takeDeferred hK, ?_⟩⟩
    obtain ⟨rows', hG'⟩ := hi2.1.aut
    exact ⟨_, results_tmp rfl _ _ _, by rw [← hi3]; rfl, ⟨rows', hG'.less (fun k hk => .inl hk)⟩, hi2.1.kept⟩

theorem build_ok : ∀ n, BuildOk n
  | 0 => fun X w0 w b A rows d s h hX hs hg hz => by
    have hnil : s.xs = [] := by
      cases h1 : s.xs with
      | nil => rfl
      | cons p r => exact nomatch p
    have h1 := build_core 0 ⟨s.a, s.c, []⟩ (fun h => absurd rfl h) X w0 w b A rows d h hX (.inl rfl) (fun p hp => by cases hp) (fun p hp => by cases hp) (by
      have := hz.1
      have h2 : szL (0 + 1) ([] : List (P (0 + 1))) = 0 := rfl
      show A.length + 2 * szL (0 + 1) ([] : List (P (0 + 1))) ≤ _ ∧ szL (0 + 1) ([] : List (P (0 + 1))) ≤ _
      omega) (Nat.zero_le _)
    have h2 : s.val = .slice s.a 0 s.c := by
      show Value.slice s.a s.xs.length s.c = _
      rw [hnil]
      rfl
    rw [h2]
    exact h1
  | n + 1 => fun X w0 w b A rows d s h hX hs hg hz => by
    have hlen : s.xs.length ≤ 1048576 := by
      have h1 := sum_mono (xs := s.xs) (f := fun _ => 1) (g := sz (n + 1)) (fun r _ => by
        show 1 ≤ szOf (sz n) (pt n r)
        unfold szOf
        omega)
      rw [sum_ones1] at h1
      have h2 : szL (n + 1) s.xs = (s.xs.map (sz (n + 1))).sum := rfl
      omega
    refine build_core n s (fun _ => build_ok n) X w0 w b A rows d h hX ?_ (fun p hp => hs.2 p hp) hg hz hlen
    rcases hs.1.1 with h1 | ⟨b1, off, h1, h2, h3⟩
    · exact .inl (List.map_eq_nil_iff.1 h1)
    · exact .inr ⟨b1, off, h1, h2, fun k p hp j u hu => h3 k (partCellsOf p) (by
        rw [List.getElem?_map, show s.xs[k]? = some p from hp]
        rfl) j u hu⟩
end Go.Proofs.YtnpcbcnclncniaaGreatDoor
