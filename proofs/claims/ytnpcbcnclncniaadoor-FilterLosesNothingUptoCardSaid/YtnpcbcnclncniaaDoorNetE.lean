/-
  The texts Net4, NetC9, NetD, in one.
-/
import Derived.Test.YtnpcbcnclncniaaDoorNetA
import Derived.Test.YtnpcbcnclncniaaDoorMatC
import Derived.Test.YtnpcbcnclncniaaDoorPlainClean2
import Derived.Test.YtnpcbcnclncniaaDoorNetB
import Derived.Test.YtnpcbcnclncniaaDoorRefPaths
namespace Go.Proofs.YtnpcbcnclncniaaDoor
open Go.RowKit

theorem splitC_app {c : UInt8} : ∀ (u r : List UInt8), Wh.splitC c (u ++ c :: r) = Wh.splitC c u ++ Wh.splitC c r
  | [], r => by simp [Wh.splitC]
  | b :: u, r => by
    have ih := splitC_app (c := c) u r
    have e1 : ∀ l, Wh.splitC c (b :: l) = if b == c then [] :: Wh.splitC c l else (match Wh.splitC c l with | [] => [[b]] | x :: r => (b :: x) :: r) := fun l => rfl
    rw [List.cons_append, e1, e1]
    by_cases h : b == c
    · rw [if_pos h, if_pos h, ih, List.cons_append]
    · rw [if_neg h, if_neg h, ih]
      obtain ⟨x, y, hx⟩ := List.exists_cons_of_ne_nil (Wh.splitC_ne c u)
      rw [hx]
      rfl

theorem growN_app : ∀ (k : Nat) (u v : List UInt8), growN k (u ++ v) = (growN k u).bind (fun k' => growN k' v)
  | k, [], v => rfl
  | k, c :: u, v => by
    have e1 : ∀ r, growN k (c :: r) = if c = 0 then none else (grownN k c).bind (fun k' => growN k' r) := fun _ => rfl
    rw [List.cons_append, e1, e1]
    by_cases h : c = 0
    · rw [if_pos h, if_pos h]
      rfl
    · rw [if_neg h, if_neg h]
      cases grownN k c with
      | none => rfl
      | some k' => exact growN_app k' u v
theorem growN_whole : ∀ (x : List UInt8), (∀ b ∈ x, b ≠ 0 ∧ b ≠ 47) → growN 3 x = some 3
  | [], _ => rfl
  | c :: r, h => by
    have hc := h c (by simp)
    unfold growN
    rw [if_neg hc.1]
    unfold grownN
    rw [if_neg hc.2, if_neg (fun h => h.2 rfl)]
    exact growN_whole r (fun b hb => h b (by simp [hb]))
theorem growN_step {k : Nat} {c : UInt8} {r : List UInt8} (h0 : c ≠ 0) (h1 : c ≠ 47) (hk : k ≠ 3) : growN k (c :: r) = if c = 46 then growN (k + 1) r else growN 3 r := by
  conv => lhs; unfold growN
  rw [if_neg h0]
  unfold grownN
  rw [if_neg h1]
  by_cases h : c = 46
  · rw [if_pos ⟨h, hk⟩, if_pos h]
    rfl
  · rw [if_neg (fun e => h e.1), if_neg h]
    rfl
theorem isName_parts {x : List UInt8} (h : Wh.isName x = true) : x ≠ [] ∧ x ≠ [46] ∧ x ≠ [46, 46] ∧ ∀ b ∈ x, b ≠ 0 ∧ b ≠ 47 := by
  unfold Wh.isName at h
  simp only [Bool.and_eq_true, bne_iff_ne, ne_eq, Bool.not_eq_true'] at h
  obtain ⟨⟨⟨⟨h1, _⟩, h3⟩, h4⟩, h5⟩ := h
  have h6 : ¬ Lib.containsAny x [0, 47] = true := by rw [h5]; exact Bool.false_ne_true
  rw [Wh.containsAny_eq, List.any_eq_true] at h6
  refine ⟨fun e => (by rw [e] at h1; cases h1), h3, h4, fun b hb => ?_⟩
  refine ⟨fun e => h6 ⟨b, hb, ?_⟩, fun e => h6 ⟨b, hb, ?_⟩⟩
  · rw [e]; decide
  · rw [e]; decide
theorem grow_name {x : List UInt8} (h : Wh.isName x = true) : growN 0 x = some 3 := by
  obtain ⟨h1, h2, h3, h4⟩ := isName_parts h
  match x with
  | [] => exact absurd rfl h1
  | a :: r =>
    have ha := h4 a (by simp)
    have hr : ∀ b ∈ r, b ≠ 0 ∧ b ≠ 47 := fun b hb => h4 b (by simp [hb])
    rw [growN_step ha.1 ha.2 (by decide)]
    by_cases e : a = 46
    · rw [if_pos e]
      match r with
      | [] => exact absurd (by rw [e]) h2
      | b :: r =>
        have hb := hr b (by simp)
        have hr2 : ∀ b ∈ r, b ≠ 0 ∧ b ≠ 47 := fun b hb => hr b (by simp [hb])
        rw [growN_step hb.1 hb.2 (by decide)]
        by_cases e2 : b = 46
        · rw [if_pos e2]
          match r with
          | [] => exact absurd (by rw [e, e2]) h3
          | c :: r =>
            have hc := hr2 c (by simp)
            rw [growN_step hc.1 hc.2 (by decide)]
            have := growN_whole r (fun b hb => hr2 b (by simp [hb]))
            split <;> exact this
        · rw [if_neg e2]
          exact growN_whole r hr2
    · rw [if_neg e]
      exact growN_whole r hr

/-- A path that is not empty; of any length. -/
def PathOk (l : List UInt8) : Prop := (Wh.splitC 47 l).all Wh.isName = true
theorem pathOk_of {l : List UInt8} (h : Wh.isPath l = true) (h0 : l ≠ []) : PathOk l := by
  unfold Wh.isPath at h
  rw [Bool.or_eq_true] at h
  rcases h with h | h
  · exact absurd (List.isEmpty_iff.1 h) h0
  · rw [Bool.and_eq_true] at h
    exact h.2
theorem pathOk_app {u r : List UInt8} : PathOk (u ++ 47 :: r) ↔ PathOk u ∧ PathOk r := by
  unfold PathOk
  rw [splitC_app, List.all_append, Bool.and_eq_true]
theorem pathOk_ne {l : List UInt8} (h : PathOk l) : l ≠ [] := by
  rintro rfl
  unfold PathOk at h
  exact absurd h (by decide)
theorem grow_path : ∀ (n : Nat) (l : List UInt8), l.length ≤ n → PathOk l → growN 0 l = some 3
  | 0, l, hl, h => absurd (List.length_eq_zero_iff.1 (by omega)) (pathOk_ne h)
  | n + 1, l, hl, h => by
    by_cases hm : (47 : UInt8) ∈ l
    · obtain ⟨x, r, rfl, hx⟩ := List.eq_append_cons_of_mem hm
      have h1 := h
      unfold PathOk at h1
      rw [Wh.splitC_append (c := 47) (fun b hb e => hx (e ▸ hb)), List.all_cons, Bool.and_eq_true] at h1
      rw [growN_app, grow_name h1.1]
      show growN 3 (47 :: r) = some 3
      unfold growN
      rw [if_neg (by decide)]
      unfold grownN
      rw [if_pos rfl, if_pos rfl]
      exact grow_path n r (by rw [List.length_append, List.length_cons] at hl; omega) h1.2
    · have h1 := h
      unfold PathOk at h1
      rw [Wh.splitC_no (c := 47) (fun b hb e => hm (e ▸ hb)), List.all_cons, Bool.and_eq_true] at h1
      exact grow_name h1.1
theorem cut_at {s : List UInt8} {k : Nat} (h : s[k]? = some 47) : s = s.take k ++ 47 :: s.drop (k + 1) := by
  obtain ⟨hl, hc⟩ := List.getElem?_eq_some_iff.1 h
  conv => lhs; rw [← List.take_append_drop k s, List.drop_eq_getElem_cons hl, hc]
theorem pathOk_drop {s : List UInt8} {m : Nat} (h : PathOk s) (hm : m = 0 ∨ (0 < m ∧ s[m - 1]? = some 47)) : PathOk (s.drop m) := by
  rcases hm with rfl | ⟨h0, h1⟩
  · exact h
  · have h2 := cut_at h1
    rw [show m - 1 + 1 = m by omega] at h2
    rw [h2] at h
    exact (pathOk_app.1 h).2
theorem pathOk_take {s : List UInt8} {k : Nat} (h : PathOk s) (hk : s[k]? = some 47) : PathOk (s.take k) := by
  rw [cut_at hk] at h
  exact (pathOk_app.1 h).1

/-- The bytes that lead into a directory. -/
def intoDir (d : List UInt8) : List UInt8 := if d = [] then [] else d ++ [47]
/-- What Below says. -/
def BelowP (rooted dirs : Bool) (n : Nat) (xs : List (P n)) (d : List UInt8) : Prop :=
  (dirs = true ∧ FitsUp rooted n xs d true true) ∨ someN (listN n xs [[]] 0).1 (behind (listN n xs [[]] 0).1 rooted (intoDir d) (intoDir d).length) (listN n xs [[]] 0).2

theorem core_below {rooted : Bool} {n : Nat} {xs : List (P n)} {T r : List UInt8} (hg : Good n xs) (hT : T = [] ∨ ∃ d, T = d ++ [47]) (hp : PathOk (T ++ r)) (hm : GPath rooted n xs (T ++ r)) :
    someN (listN n xs [[]] 0).1 (behind (listN n xs [[]] 0).1 rooted T T.length) (listN n xs [[]] 0).2 := by
  obtain ⟨_, i, hb, hi, hR⟩ := hm
  have hP := (listN_builds (T ++ r) n xs hg [[]] 0 (by decide) (fun q a ha => by
    unfold rowN at ha
    match q with
    | 0 => cases ha
    | q + 1 => cases ha)).2.2.2.1 i _ hi hR
  have hdT : (T ++ r).drop T.length = r := by simp
  have hlT : 0 < T.length → T[T.length - 1]? = some 47 := fun h0 => by
    rcases hT with rfl | ⟨d, rfl⟩
    · cases h0
    · simp
  by_cases hle : i ≤ T.length
  · rw [← seg_app hle (by rw [List.length_append]; omega), path_app] at hP
    obtain ⟨m, h1, h2⟩ := hP
    have hs1 : seg (T ++ r) i T.length = seg T i T.length := by
      unfold seg
      rw [List.drop_append_of_le_length hle, List.take_append_of_le_length (by rw [List.length_drop]; omega)]
    have hs2 : seg (T ++ r) T.length (T ++ r).length = r := by
      unfold seg
      rw [hdT, List.take_of_length_le (by rw [List.length_append]; omega)]
    rw [hs1] at h1
    rw [hs2] at h2
    refine ⟨m, r, ⟨i, ?_, hle, h1⟩, h2, ?_⟩
    · rcases hb with hb | ⟨h3, h4, h5⟩
      · exact .inl hb
      · rw [List.getElem?_append_left (by omega)] at h5
        exact .inr ⟨h3, h4, h5⟩
    · have h3 := pathOk_drop (m := T.length) hp (by
        rcases Nat.eq_zero_or_pos T.length with e | e
        · exact .inl e
        · exact .inr ⟨e, by rw [List.getElem?_append_left (by omega)]; exact hlT e⟩)
      rw [hdT] at h3
      exact grow_path _ r (Nat.le_refl _) h3
  · obtain ⟨h3, h4, h5⟩ : rooted = false ∧ 0 < i ∧ (T ++ r)[i - 1]? = some 47 := by
      rcases hb with hb | hb
      · omega
      · exact hb
    have hs2 : seg (T ++ r) i (T ++ r).length = (T ++ r).drop i := by
      unfold seg
      rw [List.take_of_length_le (by rw [List.length_drop]; exact Nat.le_refl _)]
    rw [hs2] at hP
    refine ⟨0, _, ⟨T.length, ?_, Nat.le_refl _, by rw [seg_self]; exact .here _⟩, hP, grow_path _ _ (Nat.le_refl _) (pathOk_drop hp (.inr ⟨h4, h5⟩))⟩
    rcases Nat.eq_zero_or_pos T.length with e | e
    · exact .inl e
    · exact .inr ⟨h3, e, hlT e⟩

theorem needs_dirs {rooted dirs : Bool} {n : Nat} {xs : List (P n)} {s d : List UInt8} (hg : Good n xs) (hs : Wh.isPath s = true) (hm : GMatch rooted dirs n xs s) (hd : d = [] ∨ ∃ k, s[k]? = some 47 ∧ d = s.take k) : BelowP rooted dirs n xs d := by
  have hcore : ∀ s', PathOk s' → GPath rooted n xs s' → (d = [] ∨ ∃ k, s'[k]? = some 47 ∧ d = s'.take k) → BelowP rooted dirs n xs d := fun s' hp hm hd => by
    refine .inr ?_
    obtain ⟨r, hr⟩ : ∃ r, s' = intoDir d ++ r := by
      rcases hd with rfl | ⟨k, hk, rfl⟩
      · exact ⟨s', rfl⟩
      · refine ⟨s'.drop (k + 1), ?_⟩
        unfold intoDir
        rw [if_neg (pathOk_ne (pathOk_take hp hk)), List.append_assoc]
        exact cut_at hk
    rw [hr] at hp hm
    refine core_below hg ?_ hp hm
    unfold intoDir
    by_cases e : d = []
    · exact .inl (if_pos e)
    · exact .inr ⟨d, if_neg e⟩
  cases dirs with
  | false =>
    unfold GMatch at hm
    rw [if_neg (by decide)] at hm
    exact hcore s (pathOk_of hs hm.1) hm hd
  | true =>
    unfold GMatch at hm
    rw [if_pos rfl] at hm
    obtain ⟨k', h1, h2⟩ := hm
    have hl1 := (List.getElem?_eq_some_iff.1 h1).1
    have hp : PathOk s := pathOk_of hs (fun e => by rw [e] at hl1; cases hl1)
    have hp' := pathOk_take hp h1
    rcases hd with rfl | ⟨k, hk, rfl⟩
    · exact hcore _ hp' h2 (.inl rfl)
    have hl2 := (List.getElem?_eq_some_iff.1 hk).1
    by_cases hlt : k < k'
    · refine hcore _ hp' h2 (.inr ⟨k, ?_, ?_⟩)
      · rw [List.getElem?_take_of_lt hlt]
        exact hk
      · rw [List.take_take, Nat.min_eq_left (by omega)]
    · refine .inl ⟨rfl, ?_⟩
      have hpk := pathOk_take hp hk
      have hlk : (s.take k).length = k := by rw [List.length_take]; omega
      unfold FitsUp
      refine ⟨pathOk_ne hpk, ?_⟩
      by_cases e : k' = k
      · subst e
        exact .inl ⟨rfl, (gpath_ends.1 h2).2⟩
      · have h3 : (s.take k).take k' = s.take k' := by rw [List.take_take, Nat.min_eq_left (by omega)]
        rw [← h3] at h2
        obtain ⟨h4, h5⟩ := (gpath_take (by omega)).1 h2
        exact .inr ⟨rfl, k', h4, by omega, by rw [List.getElem?_take_of_lt (by omega)]; exact h1, h5⟩
end Go.Proofs.YtnpcbcnclncniaaDoor
namespace Go.Proofs.YtnpcbcnclncniaaDoor
open Go.RowKit

theorem someN_congr {A : NetA} {S S' : Nat → Prop} {e : Nat} (h : ∀ q, S q ↔ S' q) : someN A S e ↔ someN A S' e := by
  rw [show S = S' from funext (fun q => propext (h q))]
theorem stepN_congr {A : NetA} {S S' : Nat → Prop} {c : UInt8} (h : ∀ q, S q ↔ S' q) (q : Nat) : stepN A S c q ↔ stepN A S' c q := by
  rw [show S = S' from funext (fun q => propext (h q))]
theorem behind_begin {A : NetA} {rooted : Bool} {D : List UInt8} {T : Nat → Bool} (h : ∀ q, T q = true ↔ fclos A (fun p => ins (fun _ => false) 0 p = true) q) (q : Nat) : T q = true ↔ behind A rooted D 0 q := by
  rw [h, behind_zero]
  rw [show (fun p => ins (fun _ => false) 0 p = true) = (fun p : Nat => p = 0) from funext (fun p => propext (by rw [ins_iff]; simp))]
theorem behind_go {A : NetA} {rooted : Bool} {D : List UInt8} {T T1 : Nat → Bool} {k : Nat} {c : UInt8} (h : ∀ q, T q = true ↔ behind A rooted D k q) (hc : D[k]? = some c) (h1 : ∀ q, T1 q = true ↔ stepN A (fun p => T p = true) c q) (hn : ¬ (rooted = false ∧ c = 47)) (q : Nat) : T1 q = true ↔ behind A rooted D (k + 1) q := by
  rw [behind_succ hc, h1, stepN_congr h]
  constructor
  · exact .inl
  · rintro (h | ⟨h, _⟩)
    · exact h
    · exact absurd h hn
theorem behind_start {A : NetA} {rooted : Bool} {D : List UInt8} {T T1 T2 : Nat → Bool} {k : Nat} {c : UInt8} (h : ∀ q, T q = true ↔ behind A rooted D k q) (hc : D[k]? = some c) (h1 : ∀ q, T1 q = true ↔ stepN A (fun p => T p = true) c q) (hy : rooted = false ∧ c = 47) (h2 : ∀ q, T2 q = true ↔ fclos A (fun p => ins T1 0 p = true) q) (q : Nat) : T2 q = true ↔ behind A rooted D (k + 1) q := by
  rw [behind_succ hc, h2]
  have h3 : ∀ p, T1 p = true ↔ stepN A (behind A rooted D k) c p := fun p => (h1 p).trans (stepN_congr h p)
  constructor
  · rintro ⟨p, hp, hq⟩
    rcases ins_iff.1 hp with rfl | hp
    · exact .inr ⟨hy, 0, rfl, hq⟩
    · obtain ⟨d, a, t, g1, g2, g3, g4, g5⟩ := (h3 p).1 hp
      have := g5.trans hq
      rw [List.nil_append] at this
      exact .inl ⟨d, a, t, g1, g2, g3, g4, this⟩
  · rintro (hq | ⟨_, p, rfl, hq⟩)
    · exact ⟨q, ins_of ((h3 q).2 hq), .here q⟩
    · exact ⟨0, ins_self T1 0, hq⟩

/-- A new net. -/
theorem NetAt.new (w : World) : NetAt w (w.alloc (.cells #[.slice none 0 0] 80)) w.heap.size [] :=
  ⟨0, none, 0, fun _ => none, fun _ => 0, Nat.le_refl _, bAlloc (Below.refl _ _) _, BoxIs.new _ _ _, World.ownsRow_nil _ _ _ _, fun _ hq => absurd hq (Nat.not_lt_zero _), fun _ _ hp => absurd hp (Nat.not_lt_zero _)⟩

/-- The states behind a directory, under way. -/
def Blw (A : NetA) (hN : A.length ≤ 9223372036854775808) (rooted : Bool) (D : List UInt8) (w0 : World) (b m k : Nat) (wx : World) : Prop := ∃ T : Nat → Bool, StSet A hN wx m T ∧ NetAt w0 wx b A ∧ w0.heap.size ≤ m ∧ ∀ q, T q = true ↔ behind A rooted D k q

set_option maxHeartbeats 4000000 in
set_option maxRecDepth 100000 in
theorem below_any (n : Nat) (x : Sl (P n)) (rooted dirs : Bool) (s : ByteArray) (w : World) (hs : SOk w n x) (hg : Good n x.xs) (hz : szL n x.xs ≤ 1048576) (hsz : s.size ≤ 100000) :
    Calls Tryd.prog 32 #[globVal rooted dirs x, .string s] w (BoolRes (BelowP rooted dirs n x.xs s.data.toList) w) := by
  have hb1 := bAlloc (Below.refl w.heap.size w) (.cells (globArr rooted dirs x) 24)
  have HQ := Lib.hid (BoxIs.new w (globArr rooted dirs x) 24)
  have HFU := Lib.hid (fun W (hb : Below w.heap.size w W) => fitsUp_any n x rooted dirs true true s W (hs.under hb) hg hz hsz)
  have HS := Lib.hid hs
  have HG := Lib.hid (And.intro hg hz)
  have hmm := @run_makeMap Tryd.prog
  clear hs hg hz
  go_enter Tryd.func32, Tryd.ntmps32
  go_upto_region 1 with fail
  generalize w.alloc _ = w1 at *
  have c0 := HQ.out.cell (j := 0) rfl
  have c1 := HQ.out.cell (j := 1) rfl
  have c2 := HQ.out.cell (j := 2) rfl
  have hway : (dirs = true ∧ FitsUp rooted n x.xs s.data.toList true true) ∨ (dirs = true ∧ ¬ FitsUp rooted n x.xs s.data.toList true true) ∨ dirs = false := by
    cases dirs
    · exact .inr (.inr rfl)
    · by_cases h : FitsUp rooted n x.xs s.data.toList true true
      · exact .inl ⟨rfl, h⟩
      · exact .inr (.inl ⟨rfl, h⟩)
  rcases hway with ⟨rfl, hF⟩ | hway
  · have HC : Hid (Calls Tryd.prog 43 #[globVal rooted true x, .string s, .bool true, .bool true] w1 fun e w' => e = .returned (.bool true) ∧ Below w1.heap.size w1 w') := Lib.hid ((HFU.out w1 hb1).mono (fun e w' h => by
      obtain ⟨r, h1, h2, h3⟩ := h
      exact ⟨by rw [h1, h2.2 hF], h3⟩))
    have HP : Hid (BelowP rooted true n x.xs s.data.toList) := Lib.hid (.inl ⟨rfl, hF⟩)
    clear hF HFU hmm
    go_wp2_with (go_at_call 43; refine HC.out.mono ?_; rintro e w2 ⟨rfl, hb2⟩; replace hb2 := bTrans hb1 hb2)
    go_ret
    exact ⟨true, rfl, ⟨fun _ => HP.out, fun _ => rfl⟩, hb2⟩
  rcases hway with ⟨rfl, hF⟩ | rfl
  case' _ =>
    have HC : Hid (Calls Tryd.prog 43 #[globVal rooted true x, .string s, .bool true, .bool true] w1 fun e w' => e = .returned (.bool false) ∧ Below w1.heap.size w1 w') := Lib.hid ((HFU.out w1 hb1).mono (fun e w' h => by
      obtain ⟨r, h1, h2, h3⟩ := h
      refine ⟨?_, h3⟩
      cases r
      · exact h1
      · exact absurd (h2.1 rfl) hF))
    have HP : Hid (BelowP rooted true n x.xs s.data.toList ↔ someN (listN n x.xs [[]] 0).1 (behind (listN n x.xs [[]] 0).1 rooted (intoDir s.data.toList) (intoDir s.data.toList).length) (listN n x.xs [[]] 0).2) := Lib.hid ⟨fun h => h.resolve_left (fun h => hF h.2), .inr⟩
    clear hF HFU
    go_upto_region 3 with (go_at_call 43; refine HC.out.mono ?_; rintro e w2 ⟨rfl, hb2⟩; have HQ2 := Lib.hid (HQ.out.under hb2); replace hb2 := bTrans hb1 hb2; clear c0 c1 c2 HQ hb1 HC)
  rotate_left 1
  case' _ =>
    have HP : Hid (BelowP rooted false n x.xs s.data.toList ↔ someN (listN n x.xs [[]] 0).1 (behind (listN n x.xs [[]] 0).1 rooted (intoDir s.data.toList) (intoDir s.data.toList).length) (listN n x.xs [[]] 0).2) := Lib.hid ⟨fun h => h.resolve_left (fun h => absurd h.1 (by decide)), .inr⟩
    clear HFU
    go_upto_region 3 with fail
    have HQ2 := HQ
    have hb2 := hb1
    clear c0 c1 c2 HQ hb1
    generalize w1 = w2 at *
  all_goals
    have hN3 := NetAt.new w2
    have hb3 : Below w2.heap.size w2 (w2.alloc (.cells #[.slice none 0 0] 80)) := bAlloc (Below.refl _ _) _
    have HL := Lib.hid (fun W (hW : NetAt w2 W w2.heap.size [[]]) => list_ok n w2 W w2.heap.size [[]] x 0 hW (HS.out.under hb2) HG.out.1 (by decide) (fun q a ha => by
      unfold rowN at ha
      match q with
      | 0 => cases ha
      | q + 1 => cases ha) (by
      have h1 := HG.out.2
      have h2 : mA [[]] = 1 := rfl
      omega))
    have HSt := Lib.hid (state_any (A := []) _ hN3 (by decide))
    have HOk := Lib.hid (listN_ok (A := [[]]) (q := 0) HG.out.1 (by decide) (fun q a ha => by
      unfold rowN at ha
      match q with
      | 0 => cases ha
      | q + 1 => cases ha))
    have HmA := Lib.hid (show mA (listN n x.xs [[]] 0).1 ≤ 100000000 by
      have h1 := mA_list n x.xs [[]] 0
      have h2 := HG.out.2
      have h3 : mA [[]] = 1 := rfl
      omega)
    have HEx := Lib.hid (show 1 ≤ (listN n x.xs [[]] 0).1.length from listN_ext (A := [[]]) (q := 0) HG.out.1 (by decide) (fun q a ha => by
      unfold rowN at ha
      match q with
      | 0 => cases ha
      | q + 1 => cases ha))
    clear hN3 hb3
    go_upto_region 4 with fail
    generalize w2.alloc _ = w3 at *
    generalize hb0 : w2.heap.size = b at *
    have HB0 := Lib.hid hb0
    clear hb0
    go_upto_region 5 with (go_at_call 57; refine HSt.out.mono ?_; rintro e w4 ⟨rfl, hN4, _⟩; have HN4 := Lib.hid hN4; have HL4 := Lib.hid (HL.out w4 hN4); clear hN4 HSt HL)
    have c2 := BoxIs.cell (j := 2) (HQ2.out.under HN4.out.below) rfl
    go_upto_region 6 with (go_at_call 58; refine HL4.out.mono ?_; rintro e w5 ⟨rfl, hN5, _⟩; have HN5 := Lib.hid hN5; clear hN5 HL4 HN4 c2)
    generalize hA0 : (listN n x.xs [[]] 0).1 = A at *
    generalize hE0 : (listN n x.xs [[]] 0).2 = en at *
    clear hA0 hE0
    have hAl : A.length ≤ 100000000 := Nat.le_trans (mA_len A) HmA.out
    have hN : A.length ≤ 9223372036854775808 := by omega
    have hA1 := HEx.out
    have hbm : Below w5.heap.size w5 (w5.alloc (.map #[] 0)) := bAlloc (Below.refl _ _) _
    have HM : Hid (SetAt (w5.alloc (.map #[] 0)) (keyN A.length hN) 4 w5.heap.size 0 (fun _ => false)) := Lib.hid (SetAt.made w5 _ _)
    obtain ⟨w6, hrun, h8, h9⟩ := storeN (q := 0) HM.out (by omega) (by decide)
    have hN6 : NetAt w2 w6 b A := by
      obtain ⟨es, cl, hm⟩ := HM.out.map
      exact NetAt.during (HN5.out.under hbm) HN5.out.below.size hm h9
    have hS6 : StSet A hN w6 w5.heap.size (ins (fun _ => false) 0) := h8.small
    have HCl := Lib.hid (closure_any hN w6 hN6 HOk.out.1 HmA.out hS6 (by omega))
    have HH := Lib.hid (And.intro hN6 (And.intro hS6.map HN5.out.below.size))
    change (Instr.mapUpdate 83 (.map (some w5.heap.size)) (.int .i64 0) (.bool true)).run Tryd.prog (w5.alloc (.map #[] 0)) = .ok () w6 at hrun
    clear h8 h9 hN6 hS6 HM hbm
    go_upto_region 7 with fail
    clear hrun hmm
    generalize hm0 : w5.heap.size = m at *
    clear hm0
    go_upto_region 8 with (go_at_call 59; refine HCl.out.mono ?_; rintro e w7 ⟨rfl, g7, T7, n7, hT7, _, hq7⟩; have HB7 : Hid (Blw A hN rooted (intoDir s.data.toList) w2 b m 0 w7) := Lib.hid (by obtain ⟨h1, ⟨es, cl, hm⟩, h3⟩ := HH.out; exact ⟨T7, hT7.small, h1.during h3 hm g7, h3, behind_begin hq7⟩); clear hT7 g7 hq7 HH HCl)
    have hsd := Lib.toList_data s
    cases hem : s.toList.isEmpty with
    | true =>
      have hD : intoDir s.data.toList = [] := by
        rw [← hsd]
        unfold intoDir
        rw [if_pos (List.isEmpty_iff.1 hem)]
      rw [hD] at HP HB7
      have HSm : Hid (Calls Tryd.prog 61 #[.pointer (some ⟨b, 0, none⟩), .map (some m), .int .i64 en] w7 fun e w' => ∃ r : Bool, e = .returned (.bool r) ∧ (r = true ↔ someN A (behind A rooted [] 0) en) ∧ Below w2.heap.size w2 w') := Lib.hid (by
        obtain ⟨T, h1, h2, _, h4⟩ := HB7.out
        refine (some_any hN en w7 h2 HOk.out.1 HmA.out h1).mono ?_
        rintro e w' ⟨r, h5, h6, h7⟩
        exact ⟨r, h5, h6.trans (someN_congr h4), bTrans h2.below h7⟩)
      clear hsd hD HB7
      go_wp2_with (go_at_call 61; refine HSm.out.mono ?_; rintro e w8 ⟨r, rfl, hr, hb8⟩; have HR := Lib.hid (And.intro hr hb8); clear hr hb8)
      go_ret
      exact ⟨r, rfl, HR.out.1.trans HP.out.symm, bTrans hb2 HR.out.2⟩
    | false =>
      have hD : intoDir s.data.toList = s.data.toList ++ [47] := by
        rw [← hsd]
        unfold intoDir
        rw [if_neg (fun h => by rw [h] at hem; cases hem)]
      have hDl : (intoDir s.data.toList).length = s.size + 1 := by rw [hD, List.length_append, Lib.size_eq]; rfl
      have HD47 : Hid ((intoDir s.data.toList)[s.size]? = some 47) := Lib.hid (by rw [hD, Lib.size_eq]; simp)
      have HDk : Hid (∀ k (h : k < s.size), (intoDir s.data.toList)[k]? = some (s[k]'h)) := Lib.hid (fun k h => by
        rw [hD, List.getElem?_append_left (by rw [← Lib.size_eq]; exact h)]
        exact Lib.data_getElem? s k h)
      generalize intoDir s.data.toList = D at *
      obtain ⟨L1, hL1⟩ : ∃ L1, s.size + 1 = L1 := ⟨_, rfl⟩
      have hL1i : (s.size : Int) + 1 = (L1 : Int) := by omega
      rw [hL1] at hDl
      have HDl := Lib.hid hDl
      have HL1 := Lib.hid hL1
      clear hsd hD hDl hL1
      go_wp2_with fail
      go_loopg [8, 38] L1 (fun g s8 s38 wx => ∃ k m : Nat, k + g = L1 ∧ s38 = .int .i64 k ∧ s8 = .map (some m) ∧ Hid (Blw A hN rooted D w2 b m k wx))
      case atStart => exact ⟨0, m, by omega, rfl, rfl, HB7⟩
      case round =>
        clear HB7
        obtain ⟨k, m, hk, rfl, rfl, HB⟩ := hrel
        by_cases hlt : k < L1
        · obtain ⟨g, rfl⟩ : ∃ g, gk = g + 1 := ⟨gk - 1, by omega⟩
          have hltI : (k : Int) < (L1 : Int) := by omega
          have hks := HL1.out
          have HSt : Hid (∀ cc : UInt8, D[k]? = some cc → Calls Tryd.prog 60 #[.pointer (some ⟨b, 0, none⟩), .map (some m), .int .u8 cc.toNat] wr fun e w' => ∃ m' : Nat, e = .returned (.map (some m')) ∧ ∃ T0 T1 : Nat → Bool, (∀ q, T0 q = true ↔ behind A rooted D k q) ∧ StSet A hN w' m' T1 ∧ NetAt w2 w' b A ∧ w2.heap.size ≤ m' ∧ ∀ q, T1 q = true ↔ stepN A (fun p => T0 p = true) cc q) := Lib.hid (fun cc _ => by
            obtain ⟨T, h1, h2, _, h4⟩ := HB.out
            refine (step_any hN cc wr h2 HOk.out.1 HmA.out h1).mono ?_
            rintro e w' ⟨m', T1, h5, h6, h7, h8, h9⟩
            exact ⟨m', h5, T, T1, h4, h7, h2.under h8, Nat.le_trans h2.below.size h6, h9⟩)
          have HSkip := Lib.hid (fun (cc : UInt8) (hc : D[k]? = some cc) (w' : World) (m' : Nat) (h : ∃ T0 T1 : Nat → Bool, (∀ q, T0 q = true ↔ behind A rooted D k q) ∧ StSet A hN w' m' T1 ∧ NetAt w2 w' b A ∧ w2.heap.size ≤ m' ∧ ∀ q, T1 q = true ↔ stepN A (fun p => T0 p = true) cc q) (hn : ¬ (rooted = false ∧ cc = 47)) => (by
            obtain ⟨T0, T1, h1, h2, h3, h4, h5⟩ := h
            exact ⟨T1, h2, h3, h4, behind_go h1 hc h5 hn⟩ : Blw A hN rooted D w2 b m' (k + 1) w'))
          have HStart := Lib.hid (fun (cc : UInt8) (hc : D[k]? = some cc) (w' : World) (m' : Nat) (h : ∃ T0 T1 : Nat → Bool, (∀ q, T0 q = true ↔ behind A rooted D k q) ∧ StSet A hN w' m' T1 ∧ NetAt w2 w' b A ∧ w2.heap.size ≤ m' ∧ ∀ q, T1 q = true ↔ stepN A (fun p => T0 p = true) cc q) (hy : rooted = false ∧ cc = 47) => (by
            obtain ⟨T0, T1, h1, h2, h3, h4, h5⟩ := h
            obtain ⟨w9, hrun, h8, h9⟩ := storeN (q := 0) h2 (by omega) (by omega)
            have hN9 : NetAt w2 w9 b A := by
              obtain ⟨es, cl, hm⟩ := SetAt.map h2
              exact h3.during h4 hm h9
            refine ⟨w9, hrun, (closure_any hN w9 hN9 HOk.out.1 HmA.out h8.small (by omega)).mono ?_⟩
            rintro e w10 ⟨h6, g7, T7, n7, hT7, _, hq7⟩
            refine ⟨h6, T7, hT7.small, ?_, h4, behind_start h1 hc h5 hy hq7⟩
            obtain ⟨es, cl, hm⟩ := h8.map
            exact hN9.during h4 hm g7 : ∃ w9, (Instr.mapUpdate 83 (.map (some m')) (.int .i64 (0 : Nat)) (.bool true)).run Tryd.prog w' = .ok () w9 ∧ Calls Tryd.prog 59 #[.pointer (some ⟨b, 0, none⟩), .map (some m')] w9 fun e w10 => e = .returned (.tuple #[]) ∧ Blw A hN rooted D w2 b m' (k + 1) w10))
          by_cases hkl : k < s.size
          · obtain ⟨cc, hch⟩ : ∃ ch : UInt8, s[k]'hkl = ch := ⟨_, rfl⟩
            have HCc : Hid (D[k]? = some cc) := Lib.hid (by rw [HDk.out k hkl, hch])
            have HS1 := Lib.hid (HSt.out cc HCc.out)
            have hklI : (k : Int) < (s.size : Int) := by omega
            have hk0 : (0 : Int) ≤ (k : Int) := by omega
            clear hks
            by_cases h47 : cc = 47
            · have e47 : ((cc.toNat : Int) == 47) = true := by rw [h47]; rfl
              have H47 := Lib.hid h47
              clear h47
              cases hro : rooted with
              | true =>
                subst hro
                go_upto_region 16 with (go_at_call 60; refine HS1.out.mono ?_; rintro e w8 ⟨m8, rfl, h8⟩; have H8 := Lib.hid h8; clear h8 HS1)
                have HNx := Lib.hid (HSkip.out cc HCc.out w8 m8 H8.out (fun h => absurd h.1 (by decide)))
                have c0 := BoxIs.cell (j := 0) (HQ2.out.under (by obtain ⟨_, _, _, _, h3, _⟩ := H8.out; exact h3.below)) rfl
                clear H8 HSkip HStart HSt HB
                go_wp2_with fail
                go_roundg g
                case measure => omega
                case rel => exact ⟨k + 1, m8, by omega, by go_num, rfl, HNx⟩
              | false =>
                subst hro
                go_upto_region 16 with (go_at_call 60; refine HS1.out.mono ?_; rintro e w8 ⟨m8, rfl, h8⟩; have H8 := Lib.hid h8; clear h8 HS1)
                obtain ⟨w9, hrun, hcl⟩ := HStart.out cc HCc.out w8 m8 H8.out (by first | exact ⟨rfl, H47.out⟩ | exact ⟨trivial, H47.out⟩)
                have HCl := Lib.hid hcl
                change (Instr.mapUpdate 83 (.map (some m8)) (.int .i64 0) (.bool true)).run Tryd.prog w8 = .ok () w9 at hrun
                have c0 := BoxIs.cell (j := 0) (HQ2.out.under (by obtain ⟨_, _, _, _, h3, _⟩ := H8.out; exact h3.below)) rfl
                clear H8 HSkip HStart HSt HB hcl
                go_wp2_with (go_at_call 59; refine HCl.out.mono ?_; rintro e w10 ⟨rfl, hx10⟩; have HNx := Lib.hid hx10; clear hx10)
                go_roundg g
                case measure => omega
                case rel => exact ⟨k + 1, m8, by omega, by go_num, rfl, HNx⟩
            · have e47 : ((cc.toNat : Int) == 47) = false := by
                have := byte_beq cc 47
                rw [show ((47 : UInt8).toNat : Int) = 47 from rfl] at this
                rw [this]
                simp [h47]
              have H47 := Lib.hid h47
              clear h47
              go_upto_region 16 with (go_at_call 60; refine HS1.out.mono ?_; rintro e w8 ⟨m8, rfl, h8⟩; have H8 := Lib.hid h8; clear h8 HS1)
              have HNx := Lib.hid (HSkip.out cc HCc.out w8 m8 H8.out (fun h => H47.out h.2))
              have c0 := BoxIs.cell (j := 0) (HQ2.out.under (by obtain ⟨_, _, _, _, h3, _⟩ := H8.out; exact h3.below)) rfl
              clear H8 HSkip HStart HSt HB
              go_wp2_with fail
              go_roundg g
              case measure => omega
              case rel => exact ⟨k + 1, m8, by omega, by go_num, rfl, HNx⟩
          · obtain rfl : k = s.size := by omega
            have HCc := HD47
            have HS1 : Hid (Calls Tryd.prog 60 #[.pointer (some ⟨b, 0, none⟩), .map (some m), .int .u8 47] wr fun e w' => ∃ m' : Nat, e = .returned (.map (some m')) ∧ ∃ T0 T1 : Nat → Bool, (∀ q, T0 q = true ↔ behind A rooted D s.size q) ∧ StSet A hN w' m' T1 ∧ NetAt w2 w' b A ∧ w2.heap.size ≤ m' ∧ ∀ q, T1 q = true ↔ stepN A (fun p => T0 p = true) 47 q) := Lib.hid (HSt.out 47 HCc.out)
            clear hks hkl
            cases hro : rooted with
            | true =>
              subst hro
              go_upto_region 16 with (go_at_call 60; refine HS1.out.mono ?_; rintro e w8 ⟨m8, rfl, h8⟩; have H8 := Lib.hid h8; clear h8 HS1)
              have HNx := Lib.hid (HSkip.out 47 HCc.out w8 m8 H8.out (fun h => absurd h.1 (by decide)))
              have c0 := BoxIs.cell (j := 0) (HQ2.out.under (by obtain ⟨_, _, _, _, h3, _⟩ := H8.out; exact h3.below)) rfl
              clear H8 HSkip HStart HSt HB
              go_wp2_with fail
              go_roundg g
              case measure => omega
              case rel => exact ⟨s.size + 1, m8, by omega, by go_num, rfl, HNx⟩
            | false =>
              subst hro
              go_upto_region 16 with (go_at_call 60; refine HS1.out.mono ?_; rintro e w8 ⟨m8, rfl, h8⟩; have H8 := Lib.hid h8; clear h8 HS1)
              obtain ⟨w9, hrun, hcl⟩ := HStart.out 47 HCc.out w8 m8 H8.out (by first | exact ⟨rfl, rfl⟩ | exact ⟨trivial, rfl⟩ | exact ⟨trivial, trivial⟩ | trivial)
              have HCl := Lib.hid hcl
              change (Instr.mapUpdate 83 (.map (some m8)) (.int .i64 0) (.bool true)).run Tryd.prog w8 = .ok () w9 at hrun
              have c0 := BoxIs.cell (j := 0) (HQ2.out.under (by obtain ⟨_, _, _, _, h3, _⟩ := H8.out; exact h3.below)) rfl
              clear H8 HSkip HStart HSt HB hcl
              go_wp2_with (go_at_call 59; refine HCl.out.mono ?_; rintro e w10 ⟨rfl, hx10⟩; have HNx := Lib.hid hx10; clear hx10)
              go_roundg g
              case measure => omega
              case rel => exact ⟨s.size + 1, m8, by omega, by go_num, rfl, HNx⟩
        · obtain rfl : k = L1 := by omega
          have HSm : Hid (Calls Tryd.prog 61 #[.pointer (some ⟨b, 0, none⟩), .map (some m), .int .i64 en] wr fun e w' => ∃ r : Bool, e = .returned (.bool r) ∧ (r = true ↔ someN A (behind A rooted D D.length) en) ∧ Below w2.heap.size w2 w') := Lib.hid (by
            rw [HDl.out]
            obtain ⟨T, h1, h2, _, h4⟩ := HB.out
            refine (some_any hN en wr h2 HOk.out.1 HmA.out h1).mono ?_
            rintro e w' ⟨r, h5, h6, h7⟩
            exact ⟨r, h5, h6.trans (someN_congr h4), bTrans h2.below h7⟩)
          clear HB
          go_wp2_with (go_at_call 61; refine HSm.out.mono ?_; rintro e w8 ⟨r, rfl, hr, hb8⟩; have HR := Lib.hid (And.intro hr hb8); clear hr hb8)
          go_ret
          exact ⟨r, rfl, HR.out.1.trans HP.out.symm, bTrans hb2 HR.out.2⟩
end Go.Proofs.YtnpcbcnclncniaaDoor
namespace Go.Proofs.YtnpcbcnclncniaaDoor
open Go.RowKit

set_option maxHeartbeats 2000000 in
set_option maxRecDepth 100000 in
theorem Below_any (n : Nat) (x : Sl (P n)) (rooted dirs : Bool) (s : ByteArray) (w : World) (hE : Env w) (hs : SOk w n x) (hz : szL n x.xs ≤ 1048576) (hsz : s.size ≤ 9223372036854775807) :
    Calls Tryd.prog 13 #[globVal rooted dirs x, .string s] w (MatRes (ckG rooted dirs n x.xs) (Wh.pathErr s.data.toList) (BelowP rooted dirs n x.xs s.data.toList) w) := by
  have hb1 := bAlloc (Below.refl w.heap.size w) (.cells (globArr rooted dirs x) 24)
  have HQ := Lib.hid (BoxIs.new w (globArr rooted dirs x) 24)
  have HK := Lib.hid (fun W (hb : Below w.heap.size w W) => checkGlob_any n x rooted dirs W (hs.under hb) hz)
  have HP := Lib.hid (fun W (hb : Below w.heap.size w W) => check_any s W (hE.under hb) hsz)
  have HC := Lib.hid (fun (hk : ckG rooted dirs n x.xs = 0) (he : Wh.pathErr s.data.toList = 0) W (hb : Below w.heap.size w W) => below_any n x rooted dirs s W (hs.under hb) (good_of_chk n x.xs (chk_of_ckG hk)) hz (by have := Wh.path_size (Wh.pathErr_zero he); omega))
  generalize ckG rooted dirs n x.xs = K at *
  generalize Wh.pathErr s.data.toList = E at *
  generalize BelowP rooted dirs n x.xs s.data.toList = GM at *
  clear hs hz hE
  go_enter Tryd.func13, Tryd.ntmps13
  go_upto_region 1 with fail
  generalize w.alloc _ = w1 at *
  have c0 := HQ.out.cell (j := 0) rfl
  have c1 := HQ.out.cell (j := 1) rfl
  have c2 := HQ.out.cell (j := 2) rfl
  by_cases hK : K = 0
  case neg =>
    have hK' : (K != 0) = true := by simp [hK]
    have HKn := Lib.hid hK
    clear hK HC
    go_wp2_with fail
    refine (HK.out _ hb1).mono ?_
    rintro e w2 ⟨rfl, hb2⟩
    go_wp2_with fail
    go_ret2
    exact ⟨false, by rw [if_pos HKn.out]; rfl, ⟨fun h => absurd h Bool.false_ne_true, fun h => absurd h.1 HKn.out⟩, bTrans hb1 hb2⟩
  subst hK
  go_wp2_with fail
  refine (HK.out _ hb1).mono ?_
  rintro e w2 ⟨rfl, hb2⟩
  have HQ2 := Lib.hid (HQ.out.under hb2)
  replace hb2 := bTrans hb1 hb2
  clear c0 c1 c2 HQ hb1 HK
  by_cases hEz : E = 0
  case neg =>
    have hE' : (E != 0) = true := by simp [hEz]
    have HEn := Lib.hid hEz
    clear hEz HC
    go_wp2_with fail
    refine (HP.out _ hb2).mono ?_
    rintro e w3 ⟨rfl, hb3⟩
    go_wp2_with fail
    go_ret2
    exact ⟨false, by rw [if_neg (by decide)]; rfl, ⟨fun h => absurd h Bool.false_ne_true, fun h => absurd h.2.1 HEn.out⟩, bTrans hb2 hb3⟩
  subst hEz
  go_wp2_with fail
  refine (HP.out _ hb2).mono ?_
  rintro e w3 ⟨rfl, hb3⟩
  have HQ3 := Lib.hid (HQ2.out.under hb3)
  replace hb3 := bTrans hb2 hb3
  have c0 := HQ3.out.cell (j := 0) rfl
  have c1 := HQ3.out.cell (j := 1) rfl
  have c2 := HQ3.out.cell (j := 2) rfl
  clear HQ2 hb2 HP
  have HC := Lib.hid (HC.out (by first | rfl | trivial) (by first | rfl | trivial))
  go_wp2_with fail
  refine (HC.out _ hb3).mono ?_
  rintro e w4 ⟨b, rfl, hbq, hb4⟩
  have HB := Lib.hid hbq
  clear hbq c0 c1 c2
  go_wp2_with fail
  go_ret2
  exact ⟨b, by rw [if_neg (by decide)]; rfl, HB.out.trans ⟨fun h => ⟨rfl, rfl, h⟩, fun h => h.2.2⟩, bTrans hb3 hb4⟩

theorem OwnS.one (w : World) (y : ByteArray) : OwnS w (w.alloc (.cells #[.string y] 9)) (some ⟨w.heap.size, 0, none⟩) 1 [y] :=
  ⟨⟨rfl, .inr ⟨w.heap.size, 1, #[.string y], rfl, Nat.le_refl _, heap_alloc_new w _, Nat.le_refl _, by unfold maxLen; omega, rfl, rfl⟩⟩, bAlloc (Below.refl _ _) _⟩

/-- The directories above a path, the root too. -/
def AbvRes (s : ByteArray) (w : World) (e : Ending) (w' : World) : Prop :=
  ∃ a c m l, e = .returned (.slice a m c) ∧ ((⟨#[]⟩ : ByteArray) :: l).length = m ∧ m ≤ s.size + 1 ∧ DirsTo s s.size l ∧ Holds w' a (((⟨#[]⟩ : ByteArray) :: l).map Value.string) ∧ Below w.heap.size w w'

set_option maxHeartbeats 4000000 in
set_option maxRecDepth 100000 in
theorem above_dirs (s : ByteArray) (w : World) (hsz : s.size ≤ 100000) :
    Calls Tryd.prog 12 #[.string s] w (AbvRes s w) := by
  have HO1 := Lib.hid (OwnS.one w (⟨#[]⟩ : ByteArray))
  go_enter Tryd.func12, Tryd.ntmps12
  go_upto_region 2 with fail
  generalize w.alloc _ = w1 at *
  have hb1 := HO1.out.below
  go_wp2_with fail
  go_loopg [3, 8] s.size (fun g s3 i wx => ∃ (k m : Nat) (a : Option Addr) (cap : Nat) (l : List ByteArray), k + g = s.size ∧ m ≤ k + 1 ∧ i = .int .i64 k ∧ s3 = .slice a m cap ∧ Below w.heap.size w wx ∧ Hid (OwnS w wx a cap ((⟨#[]⟩ : ByteArray) :: l) ∧ ((⟨#[]⟩ : ByteArray) :: l).length = m) ∧ Hid (DirsTo s k l))
  case atStart => exact ⟨0, 1, _, 1, [], by omega, by omega, rfl, rfl, hb1, Lib.hid ⟨HO1.out, rfl⟩, Lib.hid (DirsTo.start s)⟩
  case round =>
    clear hb1 HO1
    obtain ⟨k, m, a, cap, l, hk, hmk, rfl, rfl, hb, HO, HD⟩ := hrel
    by_cases hlt : k < s.size
    · obtain ⟨g, rfl⟩ : ∃ g, gk = g + 1 := ⟨gk - 1, by omega⟩
      obtain ⟨ch, hch⟩ : ∃ ch : UInt8, s[k]'hlt = ch := ⟨_, rfl⟩
      have HCh : Hid (s.data.toList[k]? = some ch) := Lib.hid (by rw [← hch]; exact Lib.data_getElem? s k hlt)
      by_cases h47 : ch = 47
      · have e47 : ((ch.toNat : Int) == 47) = true := by rw [h47]; rfl
        have HD2 := Lib.hid (HD.out.add (by rw [HCh.out, h47]))
        have hk0 : (0 : Int) ≤ (k : Int) := by omega
        have hk1 : (k : Int) ≤ (s.size : Int) := by omega
        clear h47
        go_wp2_with (at_builtin; refine wp_appSm HO.out.1 HO.out.2 (s.extract 0 k) (by omega) rfl (.tmp 15) (.tmp 19) rfl rfl rfl ?_; intro g5 cap5 w7 hO7)
        have HO7 := Lib.hid (And.intro hO7 (show ((⟨#[]⟩ : ByteArray) :: (l ++ [s.extract 0 k])).length = m + 1 by
          have := HO.out.2
          simp at this ⊢
          omega))
        have hb7 : Below w.heap.size w w7 := hO7.2
        clear hO7
        go_wp2_with fail
        go_roundg g
        case measure => omega
        case rel => exact ⟨k + 1, m + 1, _, _, _, by omega, by omega, by go_num, rfl, hb7, HO7, HD2⟩
      · have e47 : ((ch.toNat : Int) == 47) = false := by
          have : ch.toNat ≠ 47 := fun e => h47 (UInt8.toNat_inj.1 (by simpa using e))
          simp only [beq_eq_false_iff_ne, ne_eq]
          omega
        have HD2 := Lib.hid (HD.out.skip (fun h => h47 (by
          rw [HCh.out] at h
          simpa using h)))
        clear h47
        go_wp2_with fail
        go_roundg g
        case measure => omega
        case rel => exact ⟨k + 1, m, _, _, _, by omega, by omega, by go_num, rfl, hb, HO, HD2⟩
    · obtain rfl : k = s.size := by omega
      go_wp2_with fail
      go_ret
      exact ⟨a, cap, m, l, rfl, HO.out.2, hmk, HD.out, Own.holds HO.out.1, hb⟩

theorem pathErr_take {s : List UInt8} (hs : Wh.pathErr s = 0) {k : Nat} (hk : s[k]? = some 47) : Wh.pathErr (s.take k) = 0 := by
  have h1 := Wh.pathErr_zero hs
  have h0 : s ≠ [] := fun e => by rw [e] at hk; cases hk
  have h2 := pathOk_take (pathOk_of h1 h0) hk
  have h3 := Wh.isPath_le h1
  unfold Wh.pathErr Wh.isPath
  rw [if_pos]
  rw [Bool.or_eq_true, Bool.and_eq_true]
  exact .inr ⟨by rw [List.length_take]; simp; omega, h2⟩
theorem pathErr_nil : Wh.pathErr [] = 0 := by decide

set_option maxHeartbeats 4000000 in
set_option maxRecDepth 100000 in
theorem needsDirs_walk (n : Nat) (x : Sl (P n)) (rooted dirs : Bool) (s : ByteArray) (w : World) (hE : Env w) (hs : SOk w n x) (hz : szL n x.xs ≤ 1048576) (hsz : s.size ≤ 9223372036854775807) :
    Calls Tryd.prog 4 #[globVal rooted dirs x, .string s] w fun e w' => e = .returned (.bool true) ∧ Below w.heap.size w w' := by
  have hb1 := bAlloc (Below.refl w.heap.size w) (.cells (globArr rooted dirs x) 24)
  have HQ := Lib.hid (BoxIs.new w (globArr rooted dirs x) 24)
  have HL := Lib.hid (fun W (hb : Below w.heap.size w W) => landed_any W (hE.under hb))
  have HC := Lib.hid (fun W (hb : Below w.heap.size w W) => Matches_any n x rooted dirs s W (hE.under hb) (hs.under hb) hz hsz)
  have HD := Lib.hid (fun (he : Wh.pathErr s.data.toList = 0) W => above_dirs s W (by have := Wh.path_size (Wh.pathErr_zero he); omega))
  have HB := Lib.hid (fun (hk : ckG rooted dirs n x.xs = 0) (he : Wh.pathErr s.data.toList = 0) (hm : GMatch rooted dirs n x.xs s.data.toList) (d : ByteArray) (hd : d.data.toList = [] ∨ ∃ k, s.data.toList[k]? = some 47 ∧ d.data.toList = s.data.toList.take k) W (hb : Below w.heap.size w W) =>
    ((Below_any n x rooted dirs d W (hE.under hb) (hs.under hb) hz (by
      have h1 := Wh.path_size (Wh.pathErr_zero he)
      rw [Lib.size_eq] at h1 ⊢
      rcases hd with h | ⟨k, _, h⟩
      · rw [h]; decide
      · rw [h, List.length_take]; omega)).mono (fun e w' h => by
      obtain ⟨r, h1, h2, h3⟩ := h
      have hd0 : Wh.pathErr d.data.toList = 0 := by
        rcases hd with h | ⟨k, h4, h⟩
        · rw [h]; exact pathErr_nil
        · rw [h]; exact pathErr_take he h4
      have hr : r = true := h2.2 ⟨hk, hd0, needs_dirs (good_of_chk n x.xs (chk_of_ckG hk)) (Wh.pathErr_zero he) hm hd⟩
      rw [hr, hk, hd0] at h1
      exact ⟨h1, h3⟩) : Calls Tryd.prog 13 #[globVal rooted dirs x, .string d] W fun e w' => e = .returned (.tuple #[.bool true, .int .i64 0]) ∧ Below W.heap.size W w'))
  have HSz := Lib.hid (fun (he : Wh.pathErr s.data.toList = 0) => Wh.path_size (Wh.pathErr_zero he))
  generalize ckG rooted dirs n x.xs = K at *
  generalize Wh.pathErr s.data.toList = E at *
  generalize GMatch rooted dirs n x.xs s.data.toList = GM at *
  clear hs hz hE
  go_enter Tryd.func4, Tryd.ntmps4
  go_upto_region 1 with fail
  generalize w.alloc _ = w1 at *
  go_wp2_with fail
  refine (HL.out _ hb1).mono ?_
  rintro e w2 ⟨rfl, hb2⟩
  have HQ2 := Lib.hid (HQ.out.under hb2)
  replace hb2 := bTrans hb1 hb2
  clear HL HQ hb1
  have c0 := HQ2.out.cell (j := 0) rfl
  have c1 := HQ2.out.cell (j := 1) rfl
  have c2 := HQ2.out.cell (j := 2) rfl
  go_wp2_with fail
  refine (HC.out _ hb2).mono ?_
  rintro e w3 ⟨b, rfl, hbq, hb3⟩
  have HBq := Lib.hid hbq
  have HQ3 := Lib.hid (HQ2.out.under hb3)
  replace hb3 := bTrans hb2 hb3
  clear c0 c1 c2 HQ2 hb2 HC hbq
  cases b with
  | false =>
    clear HBq HB HD
    generalize (if K ≠ 0 then K else E) = V at *
    go_wp2_with fail
    go_ret
    exact ⟨rfl, hb3⟩
  | true =>
    obtain ⟨hK, hE0, hGM⟩ := HBq.out.1 rfl
    subst hK
    subst hE0
    have hs4 : s.size ≤ 1024 := HSz.out (by first | rfl | trivial)
    have HD2 := Lib.hid (HD.out (by first | rfl | trivial) w3)
    have HB2 := Lib.hid (HB.out (by first | rfl | trivial) (by first | rfl | trivial) hGM)
    rw [if_neg (by decide)]
    clear HD HB HBq hGM
    go_upto_region 6 with fail
    go_wp2_with (refine HD2.out.mono ?_; rintro e w4 ⟨a, c, M, l, rfl, hlm, hm2, hst, hH, hb4⟩; have HQ4 := Lib.hid (HQ3.out.under hb4); have hb40 := bTrans hb3 hb4; have HH := Lib.hid hH; have HSt := Lib.hid (And.intro hlm hst); clear hlm hst hH hb4 HQ3 HD2)
    go_loopg [28] M (fun g i wx => ∃ k : Nat, k + g = M ∧ i = .int .i64 k ∧ Hid (Below w4.heap.size w4 wx))
    case atStart => exact ⟨0, by omega, rfl, Lib.hid (Below.refl _ _)⟩
    case round =>
      obtain ⟨k, hk, rfl, hb5⟩ := hrel
      by_cases hlt : k < M
      · obtain ⟨g, rfl⟩ : ∃ g, gk = g + 1 := ⟨gk - 1, by omega⟩
        obtain ⟨d, hd⟩ : ∃ d, ((⟨#[]⟩ : ByteArray) :: l)[k]? = some d := ⟨_, List.getElem?_eq_getElem (by rw [HSt.out.1]; exact hlt)⟩
        obtain ⟨ba, off, ha, hba, hca⟩ := (HH.out.under hb5.out).at (k := k) (u := .string d) (by rw [List.getElem?_map, hd]; rfl)
        subst ha
        have hdd : d.data.toList = [] ∨ ∃ k, s.data.toList[k]? = some 47 ∧ d.data.toList = s.data.toList.take k := by
          cases k with
          | zero =>
            injection hd with hd
            rw [← hd]
            exact .inl rfl
          | succ k =>
            have hmem : d ∈ l := List.mem_of_getElem? (i := k) hd
            obtain ⟨m, _, h1, rfl⟩ := HSt.out.2.1 d hmem
            refine .inr ⟨m, h1, ?_⟩
            rw [Lib.extract_data, Nat.sub_zero, List.drop_zero]
        have HC := Lib.hid (HB2.out d hdd wr (bTrans hb40 hb5.out))
        have HQ5 := Lib.hid (HQ4.out.under hb5.out)
        have c0 := HQ5.out.cell (j := 0) rfl
        have c1 := HQ5.out.cell (j := 1) rfl
        have c2 := HQ5.out.cell (j := 2) rfl
        have hltI : (k : Int) < (M : Int) := by omega
        have hk0 : (0 : Int) ≤ (k : Int) := by omega
        have hMb : (M : Int) ≤ 9223372036854775806 := by omega
        clear hd hdd
        go_wp2_with (refine HC.out.mono ?_; rintro e w6 ⟨rfl, hb6⟩; have HNx := Lib.hid (bTrans hb5.out hb6); clear c0 c1 c2 HQ5 HC hca hb6)
        go_roundg g
        case measure => omega
        case rel => exact ⟨k + 1, by omega, by go_num, HNx⟩
      · have hltF : ¬ (k : Int) < (M : Int) := by omega
        go_wp2_with fail
        go_ret
        exact ⟨rfl, bTrans hb40 hb5.out⟩
end Go.Proofs.YtnpcbcnclncniaaDoor
