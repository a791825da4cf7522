/-
  The texts Pas1, Pas2, Pas3, Pas4, Pas5, in one.
-/
import Derived.Test.YtnpcbcnclncniaaDoorNetE
import Derived.Test.YtnpcbcnclncniaaDoorParts
import Derived.Deep.CutBlock
import Derived.Test.YtnpcbcnclncniaaDoorPaths
namespace Go.Proofs.YtnpcbcnclncniaaDoor
open Go.RowKit

/-- Now less a time; what is too great or too small is the greatest or least number. -/
def sinceN (now time : Int) : Int := if 0 ≤ now ∧ time < 0 ∧ wrap64 (now - time) < 0 then 9223372036854775807 else if now < 0 ∧ 0 < time ∧ 0 < wrap64 (now - time) then -9223372036854775808 else wrap64 (now - time)

set_option maxHeartbeats 2000000 in
theorem since_any (now time : Int) (w : World) : Calls Tryd.prog 63 #[.int .i64 now, .int .i64 time] w fun e w' => e = .returned (.int .i64 (sinceN now time)) ∧ w = w' := by
  obtain ⟨d, hd⟩ : ∃ d, wrap64 (now - time) = d := ⟨_, rfl⟩
  have HR : Hid (sinceN now time = if 0 ≤ now ∧ time < 0 ∧ d < 0 then 9223372036854775807 else if now < 0 ∧ 0 < time ∧ 0 < d then -9223372036854775808 else d) := Lib.hid (by unfold sinceN; rw [hd])
  by_cases h1 : 0 ≤ now
  · have h1n : ¬ now < 0 := by omega
    by_cases h2 : time < 0
    · by_cases h3 : d < 0
      · have HF : Hid (sinceN now time = 9223372036854775807) := Lib.hid (by rw [HR.out, if_pos ⟨h1, h2, h3⟩])
        go_enter Tryd.func63, Tryd.ntmps63
        go_wp2
        go_ret
        exact ⟨ret_int HF.out.symm, rfl⟩
      · have HF : Hid (sinceN now time = d) := Lib.hid (by rw [HR.out, if_neg (fun h => h3 h.2.2), if_neg (fun h => h1n h.1)])
        go_enter Tryd.func63, Tryd.ntmps63
        go_wp2
        go_ret
        exact ⟨ret_int HF.out.symm, rfl⟩
    · have HF : Hid (sinceN now time = d) := Lib.hid (by rw [HR.out, if_neg (fun h => h2 h.2.1), if_neg (fun h => h1n h.1)])
      go_enter Tryd.func63, Tryd.ntmps63
      go_wp2
      go_ret
      exact ⟨ret_int HF.out.symm, rfl⟩
  · have h1n : now < 0 := by omega
    by_cases h2 : 0 < time
    · by_cases h3 : 0 < d
      · have HF : Hid (sinceN now time = -9223372036854775808) := Lib.hid (by rw [HR.out, if_neg (fun h => h1 h.1), if_pos ⟨h1n, h2, h3⟩])
        go_enter Tryd.func63, Tryd.ntmps63
        go_wp2
        go_ret
        exact ⟨ret_int HF.out.symm, rfl⟩
      · have HF : Hid (sinceN now time = d) := Lib.hid (by rw [HR.out, if_neg (fun h => h1 h.1), if_neg (fun h => h3 h.2.2)])
        go_enter Tryd.func63, Tryd.ntmps63
        go_wp2
        go_ret
        exact ⟨ret_int HF.out.symm, rfl⟩
    · have HF : Hid (sinceN now time = d) := Lib.hid (by rw [HR.out, if_neg (fun h => h1 h.1), if_neg (fun h => h2 h.2.1)])
      go_enter Tryd.func63, Tryd.ntmps63
      go_wp2
      go_ret
      exact ⟨ret_int HF.out.symm, rfl⟩

/-- A rule's glob matches a path. -/
def GM {D : Nat} (r : RuleOf D) (s : List UInt8) : Prop := GMatch r.rooted r.dirs D r.parts.xs s
/-- The first rule that matches includes, or none matches. -/
def RulePass {D : Nat} (xs : List (RuleOf D)) (s : List UInt8) : Prop := (∃ (i : Nat) (r : RuleOf D), xs[i]? = some r ∧ r.inc = true ∧ GM r s ∧ ∀ (j : Nat) (r' : RuleOf D), j < i → xs[j]? = some r' → ¬ GM r' s) ∨ ∀ r ∈ xs, ¬ GM r s
/-- What lets a file pass. -/
def PassP {D : Nat} (f : FilterOf D) (x : InfoOf) (now : Int) : Prop :=
  RulePass f.rules.xs x.path.data.toList ∧ f.minS ≤ x.size ∧ (f.maxS = -1 ∨ x.size ≤ f.maxS) ∧ (f.minA = 0 ∨ f.minA ≤ sinceN now x.time) ∧ (f.maxA = -1 ∨ sinceN now x.time ≤ f.maxA) ∧ (f.maxD = 0 ∨ ((Wh.namesOf x.path).length : Int) ≤ f.maxD)
theorem not_rulePass {D : Nat} {xs : List (RuleOf D)} {s : List UInt8} {i : Nat} {r : RuleOf D} (h : xs[i]? = some r) (hi : r.inc = false) (hm : GM r s) (hb : ∀ (j : Nat) (r' : RuleOf D), j < i → xs[j]? = some r' → ¬ GM r' s) : ¬ RulePass xs s := by
  rintro (⟨k, r2, h1, h2, h3, h4⟩ | h1)
  · rcases Nat.lt_trichotomy k i with hk | hk | hk
    · exact hb k r2 hk h1 h3
    · subst hk
      rw [h] at h1
      injection h1 with h1
      rw [← h1, hi] at h2
      cases h2
    · exact h4 i r hk h hm
  · exact h1 r (List.mem_of_getElem? h) hm
/-- What lets a directory be looked into. -/
def DirPass {D : Nat} (xs : List (RuleOf D)) (d : List UInt8) : Prop := ∀ (i : Nat) (r : RuleOf D), xs[i]? = some r → r.inc = false → r.dirs = true → FitsUp r.rooted D r.parts.xs d true true → ∃ (j : Nat) (r' : RuleOf D), j < i ∧ xs[j]? = some r' ∧ r'.inc = true ∧ BelowP r'.rooted r'.dirs D r'.parts.xs d
def PassD {D : Nat} (f : FilterOf D) (d : ByteArray) : Prop := ¬ (0 < f.maxD ∧ f.maxD ≤ ((Wh.namesOf d).length : Int)) ∧ DirPass f.rules.xs d.data.toList
end Go.Proofs.YtnpcbcnclncniaaDoor
namespace Go.Proofs.YtnpcbcnclncniaaDoor
open Go.RowKit

section
variable {P : Program} {ops : Array Oper} {Q : Exit → Act → World → Prop} {S : World → Prop} {r : List (Nat × Bool)} {i : Nat} {o : Oper} {v : Value} {a : Act} {w : World}
/-- An operation behind a guard that is not decided. -/
theorem seq_if (g : Bool) (ho : ops[i]? = some o) (hw : Region.wanted o (yielded ops a.tmps) = g) (hv : g = true → ∀ w, S w → (execOp a.eval o).run P w = .ok (.value v) w) (hu : g = false → v = undef)
    (h : wpSeq P ops Q S r (a.put o.dst v) w) : wpSeq P ops Q S ((i, true) :: r) a w := by
  refine ⟨o, v, ho, ?_, h⟩
  cases g with
  | true => exact .inl ⟨hw, hv rfl⟩
  | false => exact .inr ⟨hw, hu rfl⟩
theorem seq_do_skip (ho : ops[i]? = some o) (hw : Region.wanted o (yielded ops a.tmps) = false) (hS : S w) (h : wpSeq P ops Q S r (a.put o.dst undef) w) : wpSeq P ops Q S ((i, false) :: r) a w :=
  wpOp_step ho fun K hK => by
    rw [if_neg (by rw [hw]; decide)]
    exact hK _ _ ⟨hS, h⟩
end

set_option maxHeartbeats 8000000 in
set_option maxRecDepth 100000 in
theorem passes_any {D : Nat} (f : FilterOf D) (x : InfoOf) (now : Int) (w : World) (hE : Env w) (hs : RulesOk w D f.rules) (hg : ∀ r ∈ f.rules.xs, Good D r.parts.xs) (hp : x.path.size ≤ 1024) :
    Calls Tryd.prog 34 #[.agg (filterArr f), .agg (infoArr x), .int .i64 now] w (BoolRes (PassP f x now) w) := by
  have hb1 := bAlloc (bAlloc (Below.refl w.heap.size w) (.cells (filterArr f) 36)) (.cells (infoArr x) 40)
  have HX := Lib.hid ((BoxIs.new w (filterArr f) 36).under (bAlloc (Below.refl _ _) (.cells (infoArr x) 40)))
  have HY := Lib.hid (BoxIs.new (w.alloc (.cells (filterArr f) 36)) (infoArr x) 40)
  have HM := Lib.hid (fun (r : RuleOf D) (hr : r ∈ f.rules.xs) W (hb : Below w.heap.size w W) => matches_any D r.parts r.rooted r.dirs x.path W ((hs.under hb).2.1 r hr) (hg r hr) (hs.sz hr) (by omega))
  have HSp := Lib.hid (fun W (hb : Below w.heap.size w W) => split_any x.path W (hE.under hb) (by omega))
  have HS := Lib.hid hs
  have HLen := Lib.hid hs.len
  clear hs hg hE
  go_enter Tryd.func34, Tryd.ntmps34
  go_upto_region 1 with fail
  rw [show (w.alloc (.cells (filterArr f) 36)).heap.size = w.heap.size + 1 by simp] at HY
  generalize (w.alloc _).alloc _ = w1 at *
  generalize hib : w.heap.size + 1 = ib at *
  clear hib
  have c0 : w1.cell? ⟨w.heap.size, 0, none⟩ = some (.slice f.rules.a f.rules.xs.length f.rules.c) := HX.out.cell (j := 0) rfl
  generalize hN : f.rules.xs.length = N at *
  have HN := Lib.hid hN
  clear hN
  generalize hfa : f.rules.a = fa at *
  have HFa := Lib.hid hfa
  clear hfa
  have hNb := HLen.out
  go_upto_block 0 with fail
  go_cut [] from 13 to 25 (fun wx => Hid (RulePass f.rules.xs x.path.data.toList ∧ Below w1.heap.size w1 wx))
  case first =>
    go_wp2_with fail
    go_loopg [13] N (fun g s13 wx => ∃ k : Nat, k + g = N ∧ s13 = .int .i64 k ∧ Hid (Below w1.heap.size w1 wx ∧ ∀ (j : Nat) (r' : RuleOf D), j < k → f.rules.xs[j]? = some r' → ¬ GM r' x.path.data.toList))
    case atStart => exact ⟨0, by omega, rfl, Lib.hid ⟨Below.refl _ _, fun j r' h => absurd h (Nat.not_lt_zero _)⟩⟩
    case round =>
      obtain ⟨k, hk, rfl, HI⟩ := hrel
      by_cases hlt : k < N
      · obtain ⟨g, rfl⟩ : ∃ g, gk = g + 1 := ⟨gk - 1, by omega⟩
        have hltI : (k : Int) < (N : Int) := by omega
        have hk0 : (0 : Int) ≤ (k : Int) := by omega
        obtain ⟨r, hr⟩ : ∃ r, f.rules.xs[k]? = some r := ⟨_, List.getElem?_eq_getElem (by rw [HN.out]; exact hlt)⟩
        obtain ⟨rb, off, ha, hrb, r0, r1, r2, r3⟩ := ruleRow ((HS.out.under (bTrans hb1 HI.out.1)).1) hr
        rw [HFa.out] at ha
        subst ha
        have HR := Lib.hid hr
        have hmem := List.mem_of_getElem? hr
        have hb4 : Below wr.heap.size wr (wr.alloc (.cells (ruleArr r) 56)) := bAlloc (Below.refl _ _) _
        have HB := Lib.hid (BoxIs.new wr (ruleArr r) 56)
        have HC := Lib.hid (HM.out r hmem (wr.alloc (.cells (ruleArr r) 56)) (bTrans hb1 (bTrans HI.out.1 hb4)))
        have HY4 := Lib.hid ((HY.out.under HI.out.1).under hb4)
        have HB4 := Lib.hid (bTrans HI.out.1 hb4)
        clear hr hmem hb4
        go_upto_region 4 with fail
        clear r0 r1 r2 r3 c0
        generalize hbx : wr.heap.size = bx at *
        generalize wr.alloc _ = w4 at *
        have d0 := HB.out.cell (j := 0) rfl
        have d1 := HB.out.cell (j := 1) rfl
        have d2 := HB.out.cell (j := 2) rfl
        have d3 := HB.out.cell (j := 3) rfl
        have y0 := HY4.out.cell (j := 0) rfl
        by_cases hgm : GM r x.path.data.toList
        · have HC1 : Hid (Calls Tryd.prog 21 #[globVal r.rooted r.dirs r.parts, .string x.path] w4 fun e w' => e = .returned (.bool true) ∧ Below w4.heap.size w4 w') := Lib.hid (HC.out.mono (fun e w' h => by
            obtain ⟨q, h1, h2, h3⟩ := h
            exact ⟨by rw [h1, h2.2 hgm], h3⟩))
          cases hinc : r.inc with
          | true =>
            have HF : Hid (RulePass f.rules.xs x.path.data.toList) := Lib.hid (.inl ⟨k, r, HR.out, hinc, hgm, HI.out.2⟩)
            clear hgm HC HI
            go_upto_region 5 with (go_at_call 21; refine HC1.out.mono ?_; rintro e w5 ⟨rfl, hb5⟩; have HB5 := Lib.hid (bTrans HB4.out hb5); have HBo := Lib.hid (HB.out.under hb5); clear hb5 d0 d1 d2 d3 y0 HB HC1 HY4)
            have d0 := HBo.out.cell (j := 0) rfl
            go_wp2_with fail
            go_meet
            exact Lib.hid ⟨HF.out, HB5.out⟩
          | false =>
            have HF : Hid (¬ RulePass f.rules.xs x.path.data.toList) := Lib.hid (not_rulePass HR.out hinc hgm HI.out.2)
            clear hgm HC HI
            go_upto_region 5 with (go_at_call 21; refine HC1.out.mono ?_; rintro e w5 ⟨rfl, hb5⟩; have HB5 := Lib.hid (bTrans HB4.out hb5); have HBo := Lib.hid (HB.out.under hb5); clear hb5 d0 d1 d2 d3 y0 HB HC1 HY4)
            have d0 := HBo.out.cell (j := 0) rfl
            go_wp2_with fail
            go_ret
            exact ⟨false, rfl, ⟨fun h => absurd h (by decide), fun h => absurd h.1 HF.out⟩, bTrans hb1 HB5.out⟩
        · have HC1 : Hid (Calls Tryd.prog 21 #[globVal r.rooted r.dirs r.parts, .string x.path] w4 fun e w' => e = .returned (.bool false) ∧ Below w4.heap.size w4 w') := Lib.hid (HC.out.mono (fun e w' h => by
            obtain ⟨q, h1, h2, h3⟩ := h
            refine ⟨?_, h3⟩
            cases q
            · exact h1
            · exact absurd (h2.1 rfl) hgm))
          have HNx : Hid (∀ (j : Nat) (r' : RuleOf D), j < k + 1 → f.rules.xs[j]? = some r' → ¬ GM r' x.path.data.toList) := Lib.hid (fun j r' hj hr' => by
            by_cases e : j = k
            · subst e
              rw [HR.out] at hr'
              injection hr' with hr'
              rw [← hr']
              exact hgm
            · exact HI.out.2 j r' (by omega) hr')
          clear hgm HC HI
          go_wp2_with (go_at_call 21; refine HC1.out.mono ?_; rintro e w5 ⟨rfl, hb5⟩; have HB5 := Lib.hid (bTrans HB4.out hb5); clear hb5 d0 d1 d2 d3 y0 HB HC1 HY4)
          go_roundg g
          case measure => omega
          case rel => exact ⟨k + 1, by omega, by go_num, Lib.hid ⟨HB5.out, HNx.out⟩⟩
      · obtain rfl : k = N := by omega
        have HF : Hid (RulePass f.rules.xs x.path.data.toList ∧ Below w1.heap.size w1 wr) := Lib.hid ⟨.inr (fun r hr => by
          obtain ⟨j, hj⟩ := List.getElem?_of_mem hr
          exact HI.out.2 j r (by have := (List.getElem?_eq_some_iff.1 hj).1; rw [HN.out] at this; exact this) hj), HI.out.1⟩
        have hltF : ¬ (k : Int) < (k : Int) := by omega
        clear HI
        go_wp2_with fail
        go_meet
        exact HF
  case rest =>
    have HSi := Lib.hid (fun W => since_any now x.time W)
    have HRP := Lib.hid hcut.out.1
    have HBc := Lib.hid hcut.out.2
    have HXc := Lib.hid (HX.out.under HBc.out)
    have HYc := Lib.hid (HY.out.under HBc.out)
    have y3 := HYc.out.cell (j := 3) rfl
    clear hcut c0 HM HS HLen hNb
    generalize hag : sinceN now x.time = ag at *
    have HAg := Lib.hid hag
    clear hag
    go_upto_region 9 with (go_at_call 63; refine (HSi.out _).mono ?_; rintro e w8 ⟨rfl, rfl⟩)
    have HF : Hid (∀ W, Below wc.heap.size wc W → W.cell? ⟨w.heap.size, 0, none⟩ = some (.slice fa N f.rules.c) ∧ W.cell? ⟨w.heap.size, 1, none⟩ = some (.int .i64 f.minS) ∧ W.cell? ⟨w.heap.size, 2, none⟩ = some (.int .i64 f.maxS) ∧ W.cell? ⟨w.heap.size, 3, none⟩ = some (.int .i64 f.minA) ∧ W.cell? ⟨w.heap.size, 4, none⟩ = some (.int .i64 f.maxA) ∧ W.cell? ⟨w.heap.size, 5, none⟩ = some (.int .i64 f.maxD) ∧ W.cell? ⟨ib, 0, none⟩ = some (.string x.path) ∧ W.cell? ⟨ib, 2, none⟩ = some (.int .i64 x.size)) := Lib.hid (fun W hW => by
      have h1 := HXc.out.under hW
      have h2 := HYc.out.under hW
      exact ⟨h1.cell (j := 0) (by rw [← HFa.out, ← HN.out]; rfl), h1.cell (j := 1) rfl, h1.cell (j := 2) rfl, h1.cell (j := 3) rfl, h1.cell (j := 4) rfl, h1.cell (j := 5) rfl, h2.cell (j := 0) rfl, h2.cell (j := 2) rfl⟩)
    clear y3
    obtain ⟨b1, hb1'⟩ : ∃ b, decide (f.minS ≤ x.size) = b := ⟨_, rfl⟩
    obtain ⟨m1, hm1⟩ : ∃ b, (f.maxS == -1) = b := ⟨_, rfl⟩
    obtain ⟨d1, hd1⟩ : ∃ b, decide (x.size ≤ f.maxS) = b := ⟨_, rfl⟩
    obtain ⟨m2, hm2⟩ : ∃ b, (f.minA == 0) = b := ⟨_, rfl⟩
    obtain ⟨d2, hd2⟩ : ∃ b, decide (f.minA ≤ ag) = b := ⟨_, rfl⟩
    obtain ⟨m3, hm3⟩ : ∃ b, (f.maxA == -1) = b := ⟨_, rfl⟩
    obtain ⟨d3, hd3⟩ : ∃ b, decide (ag ≤ f.maxA) = b := ⟨_, rfl⟩
    obtain ⟨m4, hm4⟩ : ∃ b, (f.maxD == 0) = b := ⟨_, rfl⟩
    obtain ⟨dp, hdp⟩ : ∃ n, (Wh.namesOf x.path).length = n := ⟨_, rfl⟩
    obtain ⟨d4, hd4⟩ : ∃ b, decide ((dp : Int) ≤ f.maxD) = b := ⟨_, rfl⟩
    have HPB : Hid (PassP f x now ↔ ((((b1 && (m1 || d1)) && (m2 || d2)) && (m3 || d3)) && (m4 || d4)) = true) := Lib.hid (by
      unfold PassP
      rw [HAg.out, hdp, ← hb1', ← hm1, ← hd1, ← hm2, ← hd2, ← hm3, ← hd3, ← hm4, ← hd4]
      simp only [Bool.and_eq_true, Bool.or_eq_true, decide_eq_true_eq, beq_iff_eq]
      constructor
      · rintro ⟨_, h1, h2, h3, h4, h5⟩
        exact ⟨⟨⟨⟨h1, h2⟩, h3⟩, h4⟩, h5⟩
      · rintro ⟨⟨⟨⟨h1, h2⟩, h3⟩, h4⟩, h5⟩
        exact ⟨HRP.out, h1, h2, h3, h4, h5⟩)
    have HSp2 : Hid (∀ W, Below wc.heap.size wc W → Calls Tryd.prog 62 #[.string x.path] W fun e w' => ∃ a c, e = .returned (.slice a dp c) ∧ Below wc.heap.size wc w') := Lib.hid (fun W hW => (HSp.out W (bTrans hb1 (bTrans HBc.out hW))).mono (fun e w' h => by
      obtain ⟨a, c, h1, _, _, h4⟩ := h
      exact ⟨a, c, by rw [h1, hdp], bTrans hW h4⟩))
    have hS : Below wc.heap.size wc wc.drew := (Below.refl _ _).drew
    have HEnd := Lib.hid (fun W (hW : Below wc.heap.size wc W) => bTrans hb1 (bTrans HBc.out hW))
    clear hdp HSp
    refine wp_region_seq (Below wc.heap.size wc) [(0, true), (1, true), (2, true), (3, true), (4, true), (5, true), (6, true), (7, true), (8, true), (9, true), (10, true), (11, true), (12, true), (13, true), (14, true), (15, true), (16, true), (17, true), (18, true), (19, true), (20, true), (21, true), (22, true), (23, true), (24, true), (25, true), (26, true), (27, true), (28, true), (29, true), (30, true), (31, true), (32, true), (33, true), (34, true), (35, true), (36, true), (37, true), (38, true), (39, true), (40, true), (41, true), (42, true), (43, true), (44, true), (45, true), (48, true), (49, true), (46, false), (47, false), (50, true), (51, true), (52, true), (53, true)] (by as_aux_lemma => kernel_rfl) (by as_aux_lemma => kernel_rfl) (by decide) (by as_aux_lemma => kernel_rfl) (Below.refl _ _).drew ?_
    intro OPS HO
    refine seq_if (o := ⟨_, _, _, _, _, _⟩) (v := .pointer (some ⟨ib, 2, none⟩)) true (by rw [HO.out]; rfl) ?_ ?_ ?_ ?_
    · rfl
    · intro hg W hW; (obtain ⟨k0, k1, k2, k3, k4, k5, l0, l2⟩ := HF.out W hW; go_simp <;> with_reducible rfl)
    · intro hg; first | rfl | exact absurd hg (by decide)
    try simp only [Act.put, List.setIfInBounds_toArray, List.set_cons_zero, List.set_cons_succ]
    refine seq_if (o := ⟨_, _, _, _, _, _⟩) (v := .int .i64 x.size) true (by rw [HO.out]; rfl) ?_ ?_ ?_ ?_
    · rfl
    · intro hg W hW; (obtain ⟨k0, k1, k2, k3, k4, k5, l0, l2⟩ := HF.out W hW; go_simp <;> with_reducible rfl)
    · intro hg; first | rfl | exact absurd hg (by decide)
    try simp only [Act.put, List.setIfInBounds_toArray, List.set_cons_zero, List.set_cons_succ]
    refine seq_if (o := ⟨_, _, _, _, _, _⟩) (v := .pointer (some ⟨w.heap.size, 1, none⟩)) true (by rw [HO.out]; rfl) ?_ ?_ ?_ ?_
    · rfl
    · intro hg W hW; (obtain ⟨k0, k1, k2, k3, k4, k5, l0, l2⟩ := HF.out W hW; go_simp <;> with_reducible rfl)
    · intro hg; first | rfl | exact absurd hg (by decide)
    try simp only [Act.put, List.setIfInBounds_toArray, List.set_cons_zero, List.set_cons_succ]
    refine seq_if (o := ⟨_, _, _, _, _, _⟩) (v := .int .i64 f.minS) true (by rw [HO.out]; rfl) ?_ ?_ ?_ ?_
    · rfl
    · intro hg W hW; (obtain ⟨k0, k1, k2, k3, k4, k5, l0, l2⟩ := HF.out W hW; go_simp <;> with_reducible rfl)
    · intro hg; first | rfl | exact absurd hg (by decide)
    try simp only [Act.put, List.setIfInBounds_toArray, List.set_cons_zero, List.set_cons_succ]
    refine seq_if (o := ⟨_, _, _, _, _, _⟩) (v := .bool b1) true (by rw [HO.out]; rfl) ?_ ?_ ?_ ?_
    · rfl
    · intro hg W hW; (obtain ⟨k0, k1, k2, k3, k4, k5, l0, l2⟩ := HF.out W hW; go_simp <;> with_reducible rfl)
    · intro hg; first | rfl | exact absurd hg (by decide)
    try simp only [Act.put, List.setIfInBounds_toArray, List.set_cons_zero, List.set_cons_succ]
    refine seq_if (o := ⟨_, _, _, _, _, _⟩) (v := .bool b1) true (by rw [HO.out]; rfl) ?_ ?_ ?_ ?_
    · rfl
    · intro hg W hW; (obtain ⟨k0, k1, k2, k3, k4, k5, l0, l2⟩ := HF.out W hW; go_simp <;> with_reducible rfl)
    · intro hg; first | rfl | exact absurd hg (by decide)
    try simp only [Act.put, List.setIfInBounds_toArray, List.set_cons_zero, List.set_cons_succ]
    refine seq_if (o := ⟨_, _, _, _, _, _⟩) (v := bif b1 then .pointer (some ⟨w.heap.size, 2, none⟩) else undef) b1 (by rw [HO.out]; rfl) ?_ ?_ ?_ ?_
    · as_aux_lemma => (rw [HO.out]; cases b1 <;> rfl)
    · intro hg W hW; cases b1 <;> first | exact absurd hg (by decide) | (obtain ⟨k0, k1, k2, k3, k4, k5, l0, l2⟩ := HF.out W hW; go_simp <;> with_reducible rfl)
    · intro hg; cases b1 <;> first | rfl | exact absurd hg (by decide)
    try simp only [Act.put, List.setIfInBounds_toArray, List.set_cons_zero, List.set_cons_succ]
    refine seq_if (o := ⟨_, _, _, _, _, _⟩) (v := bif b1 then .int .i64 f.maxS else undef) b1 (by rw [HO.out]; rfl) ?_ ?_ ?_ ?_
    · as_aux_lemma => (rw [HO.out]; cases b1 <;> rfl)
    · intro hg W hW; cases b1 <;> first | exact absurd hg (by decide) | (obtain ⟨k0, k1, k2, k3, k4, k5, l0, l2⟩ := HF.out W hW; go_simp <;> with_reducible rfl)
    · intro hg; cases b1 <;> first | rfl | exact absurd hg (by decide)
    try simp only [Act.put, List.setIfInBounds_toArray, List.set_cons_zero, List.set_cons_succ]
    refine seq_if (o := ⟨_, _, _, _, _, _⟩) (v := bif b1 then .bool m1 else undef) b1 (by rw [HO.out]; rfl) ?_ ?_ ?_ ?_
    · as_aux_lemma => (rw [HO.out]; cases b1 <;> rfl)
    · intro hg W hW; cases b1 <;> first | exact absurd hg (by decide) | (obtain ⟨k0, k1, k2, k3, k4, k5, l0, l2⟩ := HF.out W hW; go_simp <;> with_reducible rfl)
    · intro hg; cases b1 <;> first | rfl | exact absurd hg (by decide)
    try simp only [Act.put, List.setIfInBounds_toArray, List.set_cons_zero, List.set_cons_succ]
    refine seq_if (o := ⟨_, _, _, _, _, _⟩) (v := bif b1 then .bool m1 else undef) b1 (by rw [HO.out]; rfl) ?_ ?_ ?_ ?_
    · as_aux_lemma => (rw [HO.out]; cases b1 <;> rfl)
    · intro hg W hW; cases b1 <;> first | exact absurd hg (by decide) | (obtain ⟨k0, k1, k2, k3, k4, k5, l0, l2⟩ := HF.out W hW; go_simp <;> with_reducible rfl)
    · intro hg; cases b1 <;> first | rfl | exact absurd hg (by decide)
    try simp only [Act.put, List.setIfInBounds_toArray, List.set_cons_zero, List.set_cons_succ]
    refine seq_if (o := ⟨_, _, _, _, _, _⟩) (v := bif (b1 && !m1) then .pointer (some ⟨ib, 2, none⟩) else undef) (b1 && !m1) (by rw [HO.out]; rfl) ?_ ?_ ?_ ?_
    · as_aux_lemma => (rw [HO.out]; cases b1 <;> cases m1 <;> rfl)
    · intro hg W hW; cases b1 <;> cases m1 <;> first | exact absurd hg (by decide) | (obtain ⟨k0, k1, k2, k3, k4, k5, l0, l2⟩ := HF.out W hW; go_simp <;> with_reducible rfl)
    · intro hg; cases b1 <;> cases m1 <;> first | rfl | exact absurd hg (by decide)
    try simp only [Act.put, List.setIfInBounds_toArray, List.set_cons_zero, List.set_cons_succ]
    refine seq_if (o := ⟨_, _, _, _, _, _⟩) (v := bif (b1 && !m1) then .int .i64 x.size else undef) (b1 && !m1) (by rw [HO.out]; rfl) ?_ ?_ ?_ ?_
    · as_aux_lemma => (rw [HO.out]; cases b1 <;> cases m1 <;> rfl)
    · intro hg W hW; cases b1 <;> cases m1 <;> first | exact absurd hg (by decide) | (obtain ⟨k0, k1, k2, k3, k4, k5, l0, l2⟩ := HF.out W hW; go_simp <;> with_reducible rfl)
    · intro hg; cases b1 <;> cases m1 <;> first | rfl | exact absurd hg (by decide)
    try simp only [Act.put, List.setIfInBounds_toArray, List.set_cons_zero, List.set_cons_succ]
    refine seq_if (o := ⟨_, _, _, _, _, _⟩) (v := bif (b1 && !m1) then .pointer (some ⟨w.heap.size, 2, none⟩) else undef) (b1 && !m1) (by rw [HO.out]; rfl) ?_ ?_ ?_ ?_
    · as_aux_lemma => (rw [HO.out]; cases b1 <;> cases m1 <;> rfl)
    · intro hg W hW; cases b1 <;> cases m1 <;> first | exact absurd hg (by decide) | (obtain ⟨k0, k1, k2, k3, k4, k5, l0, l2⟩ := HF.out W hW; go_simp <;> with_reducible rfl)
    · intro hg; cases b1 <;> cases m1 <;> first | rfl | exact absurd hg (by decide)
    try simp only [Act.put, List.setIfInBounds_toArray, List.set_cons_zero, List.set_cons_succ]
    refine seq_if (o := ⟨_, _, _, _, _, _⟩) (v := bif (b1 && !m1) then .int .i64 f.maxS else undef) (b1 && !m1) (by rw [HO.out]; rfl) ?_ ?_ ?_ ?_
    · as_aux_lemma => (rw [HO.out]; cases b1 <;> cases m1 <;> rfl)
    · intro hg W hW; cases b1 <;> cases m1 <;> first | exact absurd hg (by decide) | (obtain ⟨k0, k1, k2, k3, k4, k5, l0, l2⟩ := HF.out W hW; go_simp <;> with_reducible rfl)
    · intro hg; cases b1 <;> cases m1 <;> first | rfl | exact absurd hg (by decide)
    try simp only [Act.put, List.setIfInBounds_toArray, List.set_cons_zero, List.set_cons_succ]
    refine seq_if (o := ⟨_, _, _, _, _, _⟩) (v := bif (b1 && !m1) then .bool d1 else undef) (b1 && !m1) (by rw [HO.out]; rfl) ?_ ?_ ?_ ?_
    · as_aux_lemma => (rw [HO.out]; cases b1 <;> cases m1 <;> rfl)
    · intro hg W hW; cases b1 <;> cases m1 <;> first | exact absurd hg (by decide) | (obtain ⟨k0, k1, k2, k3, k4, k5, l0, l2⟩ := HF.out W hW; go_simp <;> with_reducible rfl)
    · intro hg; cases b1 <;> cases m1 <;> first | rfl | exact absurd hg (by decide)
    try simp only [Act.put, List.setIfInBounds_toArray, List.set_cons_zero, List.set_cons_succ]
    refine seq_if (o := ⟨_, _, _, _, _, _⟩) (v := bif b1 then .bool (m1 || d1) else undef) b1 (by rw [HO.out]; rfl) ?_ ?_ ?_ ?_
    · as_aux_lemma => (rw [HO.out]; cases b1 <;> cases m1 <;> rfl)
    · intro hg W hW; cases b1 <;> cases m1 <;> first | exact absurd hg (by decide) | (obtain ⟨k0, k1, k2, k3, k4, k5, l0, l2⟩ := HF.out W hW; go_simp <;> with_reducible rfl)
    · intro hg; cases b1 <;> cases m1 <;> first | rfl | exact absurd hg (by decide)
    try simp only [Act.put, List.setIfInBounds_toArray, List.set_cons_zero, List.set_cons_succ]
    refine seq_if (o := ⟨_, _, _, _, _, _⟩) (v := .bool (b1 && (m1 || d1))) true (by rw [HO.out]; rfl) ?_ ?_ ?_ ?_
    · rfl
    · intro hg W hW; cases b1 <;> cases m1 <;> cases d1 <;> first | exact absurd hg (by decide) | (obtain ⟨k0, k1, k2, k3, k4, k5, l0, l2⟩ := HF.out W hW; go_simp <;> with_reducible rfl)
    · intro hg; cases b1 <;> cases m1 <;> cases d1 <;> first | rfl | exact absurd hg (by decide)
    try simp only [Act.put, List.setIfInBounds_toArray, List.set_cons_zero, List.set_cons_succ]
    generalize hB2 : (b1 && (m1 || d1)) = b2 at *
    refine seq_if (o := ⟨_, _, _, _, _, _⟩) (v := .bool b2) true (by rw [HO.out]; rfl) ?_ ?_ ?_ ?_
    · rfl
    · intro hg W hW; (obtain ⟨k0, k1, k2, k3, k4, k5, l0, l2⟩ := HF.out W hW; go_simp <;> with_reducible rfl)
    · intro hg; first | rfl | exact absurd hg (by decide)
    try simp only [Act.put, List.setIfInBounds_toArray, List.set_cons_zero, List.set_cons_succ]
    refine seq_if (o := ⟨_, _, _, _, _, _⟩) (v := bif b2 then .pointer (some ⟨w.heap.size, 3, none⟩) else undef) b2 (by rw [HO.out]; rfl) ?_ ?_ ?_ ?_
    · as_aux_lemma => (rw [HO.out]; cases b2 <;> rfl)
    · intro hg W hW; cases b2 <;> first | exact absurd hg (by decide) | (obtain ⟨k0, k1, k2, k3, k4, k5, l0, l2⟩ := HF.out W hW; go_simp <;> with_reducible rfl)
    · intro hg; cases b2 <;> first | rfl | exact absurd hg (by decide)
    try simp only [Act.put, List.setIfInBounds_toArray, List.set_cons_zero, List.set_cons_succ]
    refine seq_if (o := ⟨_, _, _, _, _, _⟩) (v := bif b2 then .int .i64 f.minA else undef) b2 (by rw [HO.out]; rfl) ?_ ?_ ?_ ?_
    · as_aux_lemma => (rw [HO.out]; cases b2 <;> rfl)
    · intro hg W hW; cases b2 <;> first | exact absurd hg (by decide) | (obtain ⟨k0, k1, k2, k3, k4, k5, l0, l2⟩ := HF.out W hW; go_simp <;> with_reducible rfl)
    · intro hg; cases b2 <;> first | rfl | exact absurd hg (by decide)
    try simp only [Act.put, List.setIfInBounds_toArray, List.set_cons_zero, List.set_cons_succ]
    refine seq_if (o := ⟨_, _, _, _, _, _⟩) (v := bif b2 then .bool m2 else undef) b2 (by rw [HO.out]; rfl) ?_ ?_ ?_ ?_
    · as_aux_lemma => (rw [HO.out]; cases b2 <;> rfl)
    · intro hg W hW; cases b2 <;> first | exact absurd hg (by decide) | (obtain ⟨k0, k1, k2, k3, k4, k5, l0, l2⟩ := HF.out W hW; go_simp <;> with_reducible rfl)
    · intro hg; cases b2 <;> first | rfl | exact absurd hg (by decide)
    try simp only [Act.put, List.setIfInBounds_toArray, List.set_cons_zero, List.set_cons_succ]
    refine seq_if (o := ⟨_, _, _, _, _, _⟩) (v := bif b2 then .bool m2 else undef) b2 (by rw [HO.out]; rfl) ?_ ?_ ?_ ?_
    · as_aux_lemma => (rw [HO.out]; cases b2 <;> rfl)
    · intro hg W hW; cases b2 <;> first | exact absurd hg (by decide) | (obtain ⟨k0, k1, k2, k3, k4, k5, l0, l2⟩ := HF.out W hW; go_simp <;> with_reducible rfl)
    · intro hg; cases b2 <;> first | rfl | exact absurd hg (by decide)
    try simp only [Act.put, List.setIfInBounds_toArray, List.set_cons_zero, List.set_cons_succ]
    refine seq_if (o := ⟨_, _, _, _, _, _⟩) (v := bif (b2 && !m2) then .int .i64 ag else undef) (b2 && !m2) (by rw [HO.out]; rfl) ?_ ?_ ?_ ?_
    · as_aux_lemma => (rw [HO.out]; cases b2 <;> cases m2 <;> rfl)
    · intro hg W hW; cases b2 <;> cases m2 <;> first | exact absurd hg (by decide) | (obtain ⟨k0, k1, k2, k3, k4, k5, l0, l2⟩ := HF.out W hW; go_simp <;> with_reducible rfl)
    · intro hg; cases b2 <;> cases m2 <;> first | rfl | exact absurd hg (by decide)
    try simp only [Act.put, List.setIfInBounds_toArray, List.set_cons_zero, List.set_cons_succ]
    refine seq_if (o := ⟨_, _, _, _, _, _⟩) (v := bif (b2 && !m2) then .pointer (some ⟨w.heap.size, 3, none⟩) else undef) (b2 && !m2) (by rw [HO.out]; rfl) ?_ ?_ ?_ ?_
    · as_aux_lemma => (rw [HO.out]; cases b2 <;> cases m2 <;> rfl)
    · intro hg W hW; cases b2 <;> cases m2 <;> first | exact absurd hg (by decide) | (obtain ⟨k0, k1, k2, k3, k4, k5, l0, l2⟩ := HF.out W hW; go_simp <;> with_reducible rfl)
    · intro hg; cases b2 <;> cases m2 <;> first | rfl | exact absurd hg (by decide)
    try simp only [Act.put, List.setIfInBounds_toArray, List.set_cons_zero, List.set_cons_succ]
    refine seq_if (o := ⟨_, _, _, _, _, _⟩) (v := bif (b2 && !m2) then .int .i64 f.minA else undef) (b2 && !m2) (by rw [HO.out]; rfl) ?_ ?_ ?_ ?_
    · as_aux_lemma => (rw [HO.out]; cases b2 <;> cases m2 <;> rfl)
    · intro hg W hW; cases b2 <;> cases m2 <;> first | exact absurd hg (by decide) | (obtain ⟨k0, k1, k2, k3, k4, k5, l0, l2⟩ := HF.out W hW; go_simp <;> with_reducible rfl)
    · intro hg; cases b2 <;> cases m2 <;> first | rfl | exact absurd hg (by decide)
    try simp only [Act.put, List.setIfInBounds_toArray, List.set_cons_zero, List.set_cons_succ]
    refine seq_if (o := ⟨_, _, _, _, _, _⟩) (v := bif (b2 && !m2) then .bool d2 else undef) (b2 && !m2) (by rw [HO.out]; rfl) ?_ ?_ ?_ ?_
    · as_aux_lemma => (rw [HO.out]; cases b2 <;> cases m2 <;> rfl)
    · intro hg W hW; cases b2 <;> cases m2 <;> first | exact absurd hg (by decide) | (obtain ⟨k0, k1, k2, k3, k4, k5, l0, l2⟩ := HF.out W hW; go_simp <;> with_reducible rfl)
    · intro hg; cases b2 <;> cases m2 <;> first | rfl | exact absurd hg (by decide)
    try simp only [Act.put, List.setIfInBounds_toArray, List.set_cons_zero, List.set_cons_succ]
    refine seq_if (o := ⟨_, _, _, _, _, _⟩) (v := bif b2 then .bool (m2 || d2) else undef) b2 (by rw [HO.out]; rfl) ?_ ?_ ?_ ?_
    · as_aux_lemma => (rw [HO.out]; cases b2 <;> cases m2 <;> rfl)
    · intro hg W hW; cases b2 <;> cases m2 <;> first | exact absurd hg (by decide) | (obtain ⟨k0, k1, k2, k3, k4, k5, l0, l2⟩ := HF.out W hW; go_simp <;> with_reducible rfl)
    · intro hg; cases b2 <;> cases m2 <;> first | rfl | exact absurd hg (by decide)
    try simp only [Act.put, List.setIfInBounds_toArray, List.set_cons_zero, List.set_cons_succ]
    refine seq_if (o := ⟨_, _, _, _, _, _⟩) (v := .bool (b2 && (m2 || d2))) true (by rw [HO.out]; rfl) ?_ ?_ ?_ ?_
    · rfl
    · intro hg W hW; cases b2 <;> cases m2 <;> cases d2 <;> first | exact absurd hg (by decide) | (obtain ⟨k0, k1, k2, k3, k4, k5, l0, l2⟩ := HF.out W hW; go_simp <;> with_reducible rfl)
    · intro hg; cases b2 <;> cases m2 <;> cases d2 <;> first | rfl | exact absurd hg (by decide)
    try simp only [Act.put, List.setIfInBounds_toArray, List.set_cons_zero, List.set_cons_succ]
    generalize hB3 : (b2 && (m2 || d2)) = b3 at *
    refine seq_if (o := ⟨_, _, _, _, _, _⟩) (v := .bool b3) true (by rw [HO.out]; rfl) ?_ ?_ ?_ ?_
    · rfl
    · intro hg W hW; (obtain ⟨k0, k1, k2, k3, k4, k5, l0, l2⟩ := HF.out W hW; go_simp <;> with_reducible rfl)
    · intro hg; first | rfl | exact absurd hg (by decide)
    try simp only [Act.put, List.setIfInBounds_toArray, List.set_cons_zero, List.set_cons_succ]
    refine seq_if (o := ⟨_, _, _, _, _, _⟩) (v := bif b3 then .pointer (some ⟨w.heap.size, 4, none⟩) else undef) b3 (by rw [HO.out]; rfl) ?_ ?_ ?_ ?_
    · as_aux_lemma => (rw [HO.out]; cases b3 <;> rfl)
    · intro hg W hW; cases b3 <;> first | exact absurd hg (by decide) | (obtain ⟨k0, k1, k2, k3, k4, k5, l0, l2⟩ := HF.out W hW; go_simp <;> with_reducible rfl)
    · intro hg; cases b3 <;> first | rfl | exact absurd hg (by decide)
    try simp only [Act.put, List.setIfInBounds_toArray, List.set_cons_zero, List.set_cons_succ]
    refine seq_if (o := ⟨_, _, _, _, _, _⟩) (v := bif b3 then .int .i64 f.maxA else undef) b3 (by rw [HO.out]; rfl) ?_ ?_ ?_ ?_
    · as_aux_lemma => (rw [HO.out]; cases b3 <;> rfl)
    · intro hg W hW; cases b3 <;> first | exact absurd hg (by decide) | (obtain ⟨k0, k1, k2, k3, k4, k5, l0, l2⟩ := HF.out W hW; go_simp <;> with_reducible rfl)
    · intro hg; cases b3 <;> first | rfl | exact absurd hg (by decide)
    try simp only [Act.put, List.setIfInBounds_toArray, List.set_cons_zero, List.set_cons_succ]
    refine seq_if (o := ⟨_, _, _, _, _, _⟩) (v := bif b3 then .bool m3 else undef) b3 (by rw [HO.out]; rfl) ?_ ?_ ?_ ?_
    · as_aux_lemma => (rw [HO.out]; cases b3 <;> rfl)
    · intro hg W hW; cases b3 <;> first | exact absurd hg (by decide) | (obtain ⟨k0, k1, k2, k3, k4, k5, l0, l2⟩ := HF.out W hW; go_simp <;> with_reducible rfl)
    · intro hg; cases b3 <;> first | rfl | exact absurd hg (by decide)
    try simp only [Act.put, List.setIfInBounds_toArray, List.set_cons_zero, List.set_cons_succ]
    refine seq_if (o := ⟨_, _, _, _, _, _⟩) (v := bif b3 then .bool m3 else undef) b3 (by rw [HO.out]; rfl) ?_ ?_ ?_ ?_
    · as_aux_lemma => (rw [HO.out]; cases b3 <;> rfl)
    · intro hg W hW; cases b3 <;> first | exact absurd hg (by decide) | (obtain ⟨k0, k1, k2, k3, k4, k5, l0, l2⟩ := HF.out W hW; go_simp <;> with_reducible rfl)
    · intro hg; cases b3 <;> first | rfl | exact absurd hg (by decide)
    try simp only [Act.put, List.setIfInBounds_toArray, List.set_cons_zero, List.set_cons_succ]
    refine seq_if (o := ⟨_, _, _, _, _, _⟩) (v := bif (b3 && !m3) then .int .i64 ag else undef) (b3 && !m3) (by rw [HO.out]; rfl) ?_ ?_ ?_ ?_
    · as_aux_lemma => (rw [HO.out]; cases b3 <;> cases m3 <;> rfl)
    · intro hg W hW; cases b3 <;> cases m3 <;> first | exact absurd hg (by decide) | (obtain ⟨k0, k1, k2, k3, k4, k5, l0, l2⟩ := HF.out W hW; go_simp <;> with_reducible rfl)
    · intro hg; cases b3 <;> cases m3 <;> first | rfl | exact absurd hg (by decide)
    try simp only [Act.put, List.setIfInBounds_toArray, List.set_cons_zero, List.set_cons_succ]
    refine seq_if (o := ⟨_, _, _, _, _, _⟩) (v := bif (b3 && !m3) then .pointer (some ⟨w.heap.size, 4, none⟩) else undef) (b3 && !m3) (by rw [HO.out]; rfl) ?_ ?_ ?_ ?_
    · as_aux_lemma => (rw [HO.out]; cases b3 <;> cases m3 <;> rfl)
    · intro hg W hW; cases b3 <;> cases m3 <;> first | exact absurd hg (by decide) | (obtain ⟨k0, k1, k2, k3, k4, k5, l0, l2⟩ := HF.out W hW; go_simp <;> with_reducible rfl)
    · intro hg; cases b3 <;> cases m3 <;> first | rfl | exact absurd hg (by decide)
    try simp only [Act.put, List.setIfInBounds_toArray, List.set_cons_zero, List.set_cons_succ]
    refine seq_if (o := ⟨_, _, _, _, _, _⟩) (v := bif (b3 && !m3) then .int .i64 f.maxA else undef) (b3 && !m3) (by rw [HO.out]; rfl) ?_ ?_ ?_ ?_
    · as_aux_lemma => (rw [HO.out]; cases b3 <;> cases m3 <;> rfl)
    · intro hg W hW; cases b3 <;> cases m3 <;> first | exact absurd hg (by decide) | (obtain ⟨k0, k1, k2, k3, k4, k5, l0, l2⟩ := HF.out W hW; go_simp <;> with_reducible rfl)
    · intro hg; cases b3 <;> cases m3 <;> first | rfl | exact absurd hg (by decide)
    try simp only [Act.put, List.setIfInBounds_toArray, List.set_cons_zero, List.set_cons_succ]
    refine seq_if (o := ⟨_, _, _, _, _, _⟩) (v := bif (b3 && !m3) then .bool d3 else undef) (b3 && !m3) (by rw [HO.out]; rfl) ?_ ?_ ?_ ?_
    · as_aux_lemma => (rw [HO.out]; cases b3 <;> cases m3 <;> rfl)
    · intro hg W hW; cases b3 <;> cases m3 <;> first | exact absurd hg (by decide) | (obtain ⟨k0, k1, k2, k3, k4, k5, l0, l2⟩ := HF.out W hW; go_simp <;> with_reducible rfl)
    · intro hg; cases b3 <;> cases m3 <;> first | rfl | exact absurd hg (by decide)
    try simp only [Act.put, List.setIfInBounds_toArray, List.set_cons_zero, List.set_cons_succ]
    refine seq_if (o := ⟨_, _, _, _, _, _⟩) (v := bif b3 then .bool (m3 || d3) else undef) b3 (by rw [HO.out]; rfl) ?_ ?_ ?_ ?_
    · as_aux_lemma => (rw [HO.out]; cases b3 <;> cases m3 <;> rfl)
    · intro hg W hW; cases b3 <;> cases m3 <;> first | exact absurd hg (by decide) | (obtain ⟨k0, k1, k2, k3, k4, k5, l0, l2⟩ := HF.out W hW; go_simp <;> with_reducible rfl)
    · intro hg; cases b3 <;> cases m3 <;> first | rfl | exact absurd hg (by decide)
    try simp only [Act.put, List.setIfInBounds_toArray, List.set_cons_zero, List.set_cons_succ]
    refine seq_if (o := ⟨_, _, _, _, _, _⟩) (v := .bool (b3 && (m3 || d3))) true (by rw [HO.out]; rfl) ?_ ?_ ?_ ?_
    · rfl
    · intro hg W hW; cases b3 <;> cases m3 <;> cases d3 <;> first | exact absurd hg (by decide) | (obtain ⟨k0, k1, k2, k3, k4, k5, l0, l2⟩ := HF.out W hW; go_simp <;> with_reducible rfl)
    · intro hg; cases b3 <;> cases m3 <;> cases d3 <;> first | rfl | exact absurd hg (by decide)
    try simp only [Act.put, List.setIfInBounds_toArray, List.set_cons_zero, List.set_cons_succ]
    generalize hB4 : (b3 && (m3 || d3)) = b4 at *
    refine seq_if (o := ⟨_, _, _, _, _, _⟩) (v := .bool b4) true (by rw [HO.out]; rfl) ?_ ?_ ?_ ?_
    · rfl
    · intro hg W hW; (obtain ⟨k0, k1, k2, k3, k4, k5, l0, l2⟩ := HF.out W hW; go_simp <;> with_reducible rfl)
    · intro hg; first | rfl | exact absurd hg (by decide)
    try simp only [Act.put, List.setIfInBounds_toArray, List.set_cons_zero, List.set_cons_succ]
    refine seq_if (o := ⟨_, _, _, _, _, _⟩) (v := bif b4 then .pointer (some ⟨w.heap.size, 5, none⟩) else undef) b4 (by rw [HO.out]; rfl) ?_ ?_ ?_ ?_
    · as_aux_lemma => (rw [HO.out]; cases b4 <;> rfl)
    · intro hg W hW; cases b4 <;> first | exact absurd hg (by decide) | (obtain ⟨k0, k1, k2, k3, k4, k5, l0, l2⟩ := HF.out W hW; go_simp <;> with_reducible rfl)
    · intro hg; cases b4 <;> first | rfl | exact absurd hg (by decide)
    try simp only [Act.put, List.setIfInBounds_toArray, List.set_cons_zero, List.set_cons_succ]
    refine seq_if (o := ⟨_, _, _, _, _, _⟩) (v := bif b4 then .int .i64 f.maxD else undef) b4 (by rw [HO.out]; rfl) ?_ ?_ ?_ ?_
    · as_aux_lemma => (rw [HO.out]; cases b4 <;> rfl)
    · intro hg W hW; cases b4 <;> first | exact absurd hg (by decide) | (obtain ⟨k0, k1, k2, k3, k4, k5, l0, l2⟩ := HF.out W hW; go_simp <;> with_reducible rfl)
    · intro hg; cases b4 <;> first | rfl | exact absurd hg (by decide)
    try simp only [Act.put, List.setIfInBounds_toArray, List.set_cons_zero, List.set_cons_succ]
    refine seq_if (o := ⟨_, _, _, _, _, _⟩) (v := bif b4 then .bool m4 else undef) b4 (by rw [HO.out]; rfl) ?_ ?_ ?_ ?_
    · as_aux_lemma => (rw [HO.out]; cases b4 <;> rfl)
    · intro hg W hW; cases b4 <;> first | exact absurd hg (by decide) | (obtain ⟨k0, k1, k2, k3, k4, k5, l0, l2⟩ := HF.out W hW; go_simp <;> with_reducible rfl)
    · intro hg; cases b4 <;> first | rfl | exact absurd hg (by decide)
    try simp only [Act.put, List.setIfInBounds_toArray, List.set_cons_zero, List.set_cons_succ]
    refine seq_if (o := ⟨_, _, _, _, _, _⟩) (v := bif b4 then .bool m4 else undef) b4 (by rw [HO.out]; rfl) ?_ ?_ ?_ ?_
    · as_aux_lemma => (rw [HO.out]; cases b4 <;> rfl)
    · intro hg W hW; cases b4 <;> first | exact absurd hg (by decide) | (obtain ⟨k0, k1, k2, k3, k4, k5, l0, l2⟩ := HF.out W hW; go_simp <;> with_reducible rfl)
    · intro hg; cases b4 <;> first | rfl | exact absurd hg (by decide)
    try simp only [Act.put, List.setIfInBounds_toArray, List.set_cons_zero, List.set_cons_succ]
    refine seq_if (o := ⟨_, _, _, _, _, _⟩) (v := bif (b4 && !m4) then .pointer (some ⟨ib, 0, none⟩) else undef) (b4 && !m4) (by rw [HO.out]; rfl) ?_ ?_ ?_ ?_
    · as_aux_lemma => (rw [HO.out]; cases b4 <;> cases m4 <;> rfl)
    · intro hg W hW; cases b4 <;> cases m4 <;> first | exact absurd hg (by decide) | (obtain ⟨k0, k1, k2, k3, k4, k5, l0, l2⟩ := HF.out W hW; go_simp <;> with_reducible rfl)
    · intro hg; cases b4 <;> cases m4 <;> first | rfl | exact absurd hg (by decide)
    try simp only [Act.put, List.setIfInBounds_toArray, List.set_cons_zero, List.set_cons_succ]
    refine seq_if (o := ⟨_, _, _, _, _, _⟩) (v := bif (b4 && !m4) then .string x.path else undef) (b4 && !m4) (by rw [HO.out]; rfl) ?_ ?_ ?_ ?_
    · as_aux_lemma => (rw [HO.out]; cases b4 <;> cases m4 <;> rfl)
    · intro hg W hW; cases b4 <;> cases m4 <;> first | exact absurd hg (by decide) | (obtain ⟨k0, k1, k2, k3, k4, k5, l0, l2⟩ := HF.out W hW; go_simp <;> with_reducible rfl)
    · intro hg; cases b4 <;> cases m4 <;> first | rfl | exact absurd hg (by decide)
    try simp only [Act.put, List.setIfInBounds_toArray, List.set_cons_zero, List.set_cons_succ]
    refine seq_if (o := ⟨_, _, _, _, _, _⟩) (v := bif (b4 && !m4) then .pointer (some ⟨w.heap.size, 5, none⟩) else undef) (b4 && !m4) (by rw [HO.out]; rfl) ?_ ?_ ?_ ?_
    · as_aux_lemma => (rw [HO.out]; cases b4 <;> cases m4 <;> rfl)
    · intro hg W hW; cases b4 <;> cases m4 <;> first | exact absurd hg (by decide) | (obtain ⟨k0, k1, k2, k3, k4, k5, l0, l2⟩ := HF.out W hW; go_simp <;> with_reducible rfl)
    · intro hg; cases b4 <;> cases m4 <;> first | rfl | exact absurd hg (by decide)
    try simp only [Act.put, List.setIfInBounds_toArray, List.set_cons_zero, List.set_cons_succ]
    refine seq_if (o := ⟨_, _, _, _, _, _⟩) (v := bif (b4 && !m4) then .int .i64 f.maxD else undef) (b4 && !m4) (by rw [HO.out]; rfl) ?_ ?_ ?_ ?_
    · as_aux_lemma => (rw [HO.out]; cases b4 <;> cases m4 <;> rfl)
    · intro hg W hW; cases b4 <;> cases m4 <;> first | exact absurd hg (by decide) | (obtain ⟨k0, k1, k2, k3, k4, k5, l0, l2⟩ := HF.out W hW; go_simp <;> with_reducible rfl)
    · intro hg; cases b4 <;> cases m4 <;> first | rfl | exact absurd hg (by decide)
    try simp only [Act.put, List.setIfInBounds_toArray, List.set_cons_zero, List.set_cons_succ]
    cases b4 with
    | false =>
      refine seq_do_skip (o := ⟨_, _, _, _, _, _⟩) (by rw [HO.out]; rfl) (by as_aux_lemma => (rw [HO.out]; rfl)) hS ?_
      try simp only [Act.put, List.setIfInBounds_toArray, List.set_cons_zero, List.set_cons_succ]
      refine seq_do_skip (o := ⟨_, _, _, _, _, _⟩) (by rw [HO.out]; rfl) (by as_aux_lemma => (rw [HO.out]; rfl)) hS ?_
      try simp only [Act.put, List.setIfInBounds_toArray, List.set_cons_zero, List.set_cons_succ]
      refine seq_skip (o := ⟨_, _, _, _, _, _⟩) (by rw [HO.out]; rfl) (by as_aux_lemma => (rw [HO.out]; rfl)) ?_
      try simp only [Act.put, List.setIfInBounds_toArray, List.set_cons_zero, List.set_cons_succ]
      refine seq_skip (o := ⟨_, _, _, _, _, _⟩) (by rw [HO.out]; rfl) (by as_aux_lemma => (rw [HO.out]; rfl)) ?_
      try simp only [Act.put, List.setIfInBounds_toArray, List.set_cons_zero, List.set_cons_succ]
      refine seq_take (o := ⟨_, _, _, _, _, _⟩) (v := .bool false) (by rw [HO.out]; rfl) (by rfl) ?_ ?_
      · intro W hW; (go_simp <;> with_reducible rfl)
      try simp only [Act.put, List.setIfInBounds_toArray, List.set_cons_zero, List.set_cons_succ]
      refine seq_take (o := ⟨_, _, _, _, _, _⟩) (v := .bool false) (by rw [HO.out]; rfl) (by rfl) ?_ ?_
      · intro W hW; (go_simp <;> with_reducible rfl)
      try simp only [Act.put, List.setIfInBounds_toArray, List.set_cons_zero, List.set_cons_succ]
      refine seq_done ?_
      clear HO OPS
      go_wp2_with fail
      go_ret
      exact ⟨false, rfl, ⟨fun h => absurd h (by decide), fun h => absurd (HPB.out.1 h) (by simp)⟩, HEnd.out _ hS⟩
    | true =>
      cases m4 with
      | true =>
        refine seq_do_skip (o := ⟨_, _, _, _, _, _⟩) (by rw [HO.out]; rfl) (by as_aux_lemma => (rw [HO.out]; rfl)) hS ?_
        try simp only [Act.put, List.setIfInBounds_toArray, List.set_cons_zero, List.set_cons_succ]
        refine seq_do_skip (o := ⟨_, _, _, _, _, _⟩) (by rw [HO.out]; rfl) (by as_aux_lemma => (rw [HO.out]; rfl)) hS ?_
        try simp only [Act.put, List.setIfInBounds_toArray, List.set_cons_zero, List.set_cons_succ]
        refine seq_skip (o := ⟨_, _, _, _, _, _⟩) (by rw [HO.out]; rfl) (by as_aux_lemma => (rw [HO.out]; rfl)) ?_
        try simp only [Act.put, List.setIfInBounds_toArray, List.set_cons_zero, List.set_cons_succ]
        refine seq_take (o := ⟨_, _, _, _, _, _⟩) (v := .bool true) (by rw [HO.out]; rfl) (by as_aux_lemma => (rw [HO.out]; rfl)) ?_ ?_
        · intro W hW; (go_simp <;> with_reducible rfl)
        try simp only [Act.put, List.setIfInBounds_toArray, List.set_cons_zero, List.set_cons_succ]
        refine seq_take (o := ⟨_, _, _, _, _, _⟩) (v := .bool true) (by rw [HO.out]; rfl) (by rfl) ?_ ?_
        · intro W hW; (go_simp <;> with_reducible rfl)
        try simp only [Act.put, List.setIfInBounds_toArray, List.set_cons_zero, List.set_cons_succ]
        refine seq_take (o := ⟨_, _, _, _, _, _⟩) (v := .bool true) (by rw [HO.out]; rfl) (by rfl) ?_ ?_
        · intro W hW; (go_simp <;> with_reducible rfl)
        try simp only [Act.put, List.setIfInBounds_toArray, List.set_cons_zero, List.set_cons_succ]
        refine seq_done ?_
        clear HO OPS
        go_wp2_with fail
        go_ret
        exact ⟨true, rfl, ⟨fun _ => HPB.out.2 (by simp), fun _ => rfl⟩, HEnd.out _ hS⟩
      | false =>
        refine seq_do (o := ⟨_, _, _, _, _, _⟩) (by rw [HO.out]; rfl) (by as_aux_lemma => (rw [HO.out]; rfl)) (fun K hK => ?_)
        go_wp2_with (go_at_call 62; refine (HSp2.out _ hS).mono ?_; rintro e w9 ⟨a9, c9, rfl, hb9⟩)
        refine hK.out _ _ hb9 (fun _ => ?_)
        clear hK K hS
        try simp only [Act.put, List.setIfInBounds_toArray, List.set_cons_zero, List.set_cons_succ]
        refine seq_do (o := ⟨_, _, _, _, _, _⟩) (by rw [HO.out]; rfl) (by as_aux_lemma => (rw [HO.out]; rfl)) (fun K hK => ?_)
        go_wp2_with fail
        refine hK.out _ _ hb9 (fun _ => ?_)
        clear hK K
        try simp only [Act.put, List.setIfInBounds_toArray, List.set_cons_zero, List.set_cons_succ]
        refine seq_take (o := ⟨_, _, _, _, _, _⟩) (v := .bool d4) (by rw [HO.out]; rfl) (by as_aux_lemma => (rw [HO.out]; rfl)) ?_ ?_
        · intro W hW; (go_simp <;> with_reducible rfl)
        try simp only [Act.put, List.setIfInBounds_toArray, List.set_cons_zero, List.set_cons_succ]
        refine seq_take (o := ⟨_, _, _, _, _, _⟩) (v := .bool d4) (by rw [HO.out]; rfl) (by as_aux_lemma => (rw [HO.out]; rfl)) ?_ ?_
        · intro W hW; (go_simp <;> with_reducible rfl)
        try simp only [Act.put, List.setIfInBounds_toArray, List.set_cons_zero, List.set_cons_succ]
        refine seq_take (o := ⟨_, _, _, _, _, _⟩) (v := .bool d4) (by rw [HO.out]; rfl) (by rfl) ?_ ?_
        · intro W hW; (go_simp <;> with_reducible rfl)
        try simp only [Act.put, List.setIfInBounds_toArray, List.set_cons_zero, List.set_cons_succ]
        refine seq_take (o := ⟨_, _, _, _, _, _⟩) (v := .bool d4) (by rw [HO.out]; rfl) (by rfl) ?_ ?_
        · intro W hW; (go_simp <;> with_reducible rfl)
        try simp only [Act.put, List.setIfInBounds_toArray, List.set_cons_zero, List.set_cons_succ]
        have hS := hb9
        refine seq_done ?_
        clear HO OPS
        go_wp2_with fail
        go_ret
        exact ⟨d4, rfl, ⟨fun h => HPB.out.2 (by simp [h]), fun h => by have := HPB.out.1 h; simpa using this⟩, HEnd.out _ hS⟩
end Go.Proofs.YtnpcbcnclncniaaDoor
namespace Go.Proofs.YtnpcbcnclncniaaDoor
open Go.RowKit

/-- Rules, so far, neither let a directory in nor keep it out. -/
def DirOpen {D : Nat} (xs : List (RuleOf D)) (d : List UInt8) (k : Nat) : Prop := ∀ (j : Nat) (r : RuleOf D), j < k → xs[j]? = some r → ¬ (r.inc = true ∧ BelowP r.rooted r.dirs D r.parts.xs d) ∧ ¬ (r.inc = false ∧ r.dirs = true ∧ FitsUp r.rooted D r.parts.xs d true true)
theorem DirOpen.next {D : Nat} {xs : List (RuleOf D)} {d : List UInt8} {k : Nat} {r : RuleOf D} (h : DirOpen xs d k) (hr : xs[k]? = some r) (h1 : ¬ (r.inc = true ∧ BelowP r.rooted r.dirs D r.parts.xs d)) (h2 : ¬ (r.inc = false ∧ r.dirs = true ∧ FitsUp r.rooted D r.parts.xs d true true)) : DirOpen xs d (k + 1) := fun j r' hj hr' => by
  by_cases e : j = k
  · subst e
    rw [hr] at hr'
    injection hr' with hr'
    rw [← hr']
    exact ⟨h1, h2⟩
  · exact h j r' (by omega) hr'
theorem DirOpen.yes {D : Nat} {xs : List (RuleOf D)} {d : List UInt8} {k : Nat} {r : RuleOf D} (h : DirOpen xs d k) (hr : xs[k]? = some r) (hi : r.inc = true) (hb : BelowP r.rooted r.dirs D r.parts.xs d) : DirPass xs d := fun i r' h1 h2 h3 h4 => by
  rcases Nat.lt_trichotomy i k with hk | hk | hk
  · exact absurd ⟨h2, h3, h4⟩ (h i r' hk h1).2
  · subst hk
    rw [hr] at h1
    injection h1 with h1
    rw [← h1, hi] at h2
    cases h2
  · exact ⟨k, r, hk, hr, hi, hb⟩
theorem DirOpen.no {D : Nat} {xs : List (RuleOf D)} {d : List UInt8} {k : Nat} {r : RuleOf D} (h : DirOpen xs d k) (hr : xs[k]? = some r) (hi : r.inc = false) (hd : r.dirs = true) (hf : FitsUp r.rooted D r.parts.xs d true true) : ¬ DirPass xs d := fun hp => by
  obtain ⟨j, r', h1, h2, h3, h4⟩ := hp k r hr hi hd hf
  exact (h j r' h1 h2).1 ⟨h3, h4⟩
theorem DirOpen.end {D : Nat} {xs : List (RuleOf D)} {d : List UInt8} (h : DirOpen xs d xs.length) : DirPass xs d := fun i r' h1 h2 h3 h4 => absurd ⟨h2, h3, h4⟩ (h i r' (List.getElem?_eq_some_iff.1 h1).1 h1).2

set_option maxHeartbeats 8000000 in
set_option maxRecDepth 100000 in
theorem passesDir_any {D : Nat} (f : FilterOf D) (s : ByteArray) (w : World) (hE : Env w) (hs : RulesOk w D f.rules) (hg : ∀ r ∈ f.rules.xs, Good D r.parts.xs) (hp : s.size ≤ 1024) :
    Calls Tryd.prog 33 #[.agg (filterArr f), .string s] w (BoolRes (PassD f s) w) := by
  have hb1 := bAlloc (Below.refl w.heap.size w) (.cells (filterArr f) 36)
  have HX := Lib.hid (BoxIs.new w (filterArr f) 36)
  have HBe := Lib.hid (fun (r : RuleOf D) (hr : r ∈ f.rules.xs) W (hb : Below w.heap.size w W) => below_any D r.parts r.rooted r.dirs s W ((hs.under hb).2.1 r hr) (hg r hr) (hs.sz hr) (by omega))
  have HFi := Lib.hid (fun (r : RuleOf D) (hr : r ∈ f.rules.xs) W (hb : Below w.heap.size w W) => fitsUp_any D r.parts r.rooted r.dirs true true s W ((hs.under hb).2.1 r hr) (hg r hr) (hs.sz hr) (by omega))
  have HSp := Lib.hid (fun W (hb : Below w.heap.size w W) => split_any s W (hE.under hb) (by omega))
  have HS := Lib.hid hs
  have HLen := Lib.hid hs.len
  clear hs hg hE
  go_enter Tryd.func33, Tryd.ntmps33
  go_upto_region 1 with fail
  generalize w.alloc _ = w1 at *
  have HF : Hid (∀ W, Below w1.heap.size w1 W → W.cell? ⟨w.heap.size, 0, none⟩ = some (.slice f.rules.a f.rules.xs.length f.rules.c) ∧ W.cell? ⟨w.heap.size, 5, none⟩ = some (.int .i64 f.maxD)) := Lib.hid (fun W hW => by
    have h1 := HX.out.under hW
    exact ⟨h1.cell (j := 0) rfl, h1.cell (j := 5) rfl⟩)
  obtain ⟨dp, hdp⟩ : ∃ n, (Wh.namesOf s).length = n := ⟨_, rfl⟩
  have HSp2 : Hid (∀ W, Below w1.heap.size w1 W → Calls Tryd.prog 62 #[.string s] W fun e w' => ∃ a c, e = .returned (.slice a dp c) ∧ Below w1.heap.size w1 w') := Lib.hid (fun W hW => (HSp.out W (bTrans hb1 hW)).mono (fun e w' h => by
    obtain ⟨a, c, h1, _, _, h4⟩ := h
    exact ⟨a, c, by rw [h1, hdp], bTrans hW h4⟩))
  obtain ⟨b1, hb1'⟩ : ∃ b, decide (0 < f.maxD) = b := ⟨_, rfl⟩
  obtain ⟨d1, hd1⟩ : ∃ b, decide (f.maxD ≤ (dp : Int)) = b := ⟨_, rfl⟩
  have HPD : Hid (PassD f s ↔ (b1 && d1) = false ∧ DirPass f.rules.xs s.data.toList) := Lib.hid (by
    unfold PassD
    rw [hdp, ← hb1', ← hd1, Bool.and_eq_false_imp]
    simp only [decide_eq_true_eq, decide_eq_false_iff_not, not_and])
  have hS : Below w1.heap.size w1 w1.drew := (Below.refl _ _).drew
  clear hdp HSp
  go_cut [17] (fun s17 wx => s17 = .bool (b1 && d1) ∧ Hid (Below w1.heap.size w1 wx))
  case first =>
    refine wp_region_seq (Below w1.heap.size w1) [(0, true), (1, true), (2, true), (3, true), (4, true), (7, true), (8, true), (5, false), (6, false), (9, true), (10, true)] (by as_aux_lemma => kernel_rfl) (by as_aux_lemma => kernel_rfl) (by decide) (by as_aux_lemma => kernel_rfl) hS ?_
    intro OPS HO
    refine seq_take (o := ⟨_, _, _, _, _, _⟩) (v := .pointer (some ⟨w.heap.size, 5, none⟩)) (by rw [HO.out]; rfl) (by rfl) ?_ ?_
    · intro W hW; (obtain ⟨k0, k5⟩ := HF.out W hW; go_simp <;> with_reducible rfl)
    try simp only [Act.put, List.setIfInBounds_toArray, List.set_cons_zero, List.set_cons_succ]
    refine seq_take (o := ⟨_, _, _, _, _, _⟩) (v := .int .i64 f.maxD) (by rw [HO.out]; rfl) (by rfl) ?_ ?_
    · intro W hW; (obtain ⟨k0, k5⟩ := HF.out W hW; go_simp <;> with_reducible rfl)
    try simp only [Act.put, List.setIfInBounds_toArray, List.set_cons_zero, List.set_cons_succ]
    refine seq_take (o := ⟨_, _, _, _, _, _⟩) (v := .bool b1) (by rw [HO.out]; rfl) (by rfl) ?_ ?_
    · intro W hW; (obtain ⟨k0, k5⟩ := HF.out W hW; go_simp <;> with_reducible rfl)
    try simp only [Act.put, List.setIfInBounds_toArray, List.set_cons_zero, List.set_cons_succ]
    refine seq_take (o := ⟨_, _, _, _, _, _⟩) (v := .bool b1) (by rw [HO.out]; rfl) (by rfl) ?_ ?_
    · intro W hW; (obtain ⟨k0, k5⟩ := HF.out W hW; go_simp <;> with_reducible rfl)
    try simp only [Act.put, List.setIfInBounds_toArray, List.set_cons_zero, List.set_cons_succ]
    cases b1 with
    | false =>
      refine seq_skip (o := ⟨_, _, _, _, _, _⟩) (by rw [HO.out]; rfl) (by as_aux_lemma => (rw [HO.out]; rfl)) ?_
      try simp only [Act.put, List.setIfInBounds_toArray, List.set_cons_zero, List.set_cons_succ]
      refine seq_skip (o := ⟨_, _, _, _, _, _⟩) (by rw [HO.out]; rfl) (by as_aux_lemma => (rw [HO.out]; rfl)) ?_
      try simp only [Act.put, List.setIfInBounds_toArray, List.set_cons_zero, List.set_cons_succ]
      refine seq_skip (o := ⟨_, _, _, _, _, _⟩) (by rw [HO.out]; rfl) (by as_aux_lemma => (rw [HO.out]; rfl)) ?_
      try simp only [Act.put, List.setIfInBounds_toArray, List.set_cons_zero, List.set_cons_succ]
      refine seq_do_skip (o := ⟨_, _, _, _, _, _⟩) (by rw [HO.out]; rfl) (by as_aux_lemma => (rw [HO.out]; rfl)) hS ?_
      try simp only [Act.put, List.setIfInBounds_toArray, List.set_cons_zero, List.set_cons_succ]
      refine seq_do_skip (o := ⟨_, _, _, _, _, _⟩) (by rw [HO.out]; rfl) (by as_aux_lemma => (rw [HO.out]; rfl)) hS ?_
      try simp only [Act.put, List.setIfInBounds_toArray, List.set_cons_zero, List.set_cons_succ]
      refine seq_skip (o := ⟨_, _, _, _, _, _⟩) (by rw [HO.out]; rfl) (by as_aux_lemma => (rw [HO.out]; rfl)) ?_
      try simp only [Act.put, List.setIfInBounds_toArray, List.set_cons_zero, List.set_cons_succ]
      refine seq_take (o := ⟨_, _, _, _, _, _⟩) (v := .bool false) (by rw [HO.out]; rfl) (by rfl) ?_ ?_
      · intro W hW; (obtain ⟨k0, k5⟩ := HF.out W hW; go_simp <;> with_reducible rfl)
      try simp only [Act.put, List.setIfInBounds_toArray, List.set_cons_zero, List.set_cons_succ]
      refine seq_done ?_
      clear HO OPS
      go_wp2_with fail
      go_meet
      exact ⟨rfl, Lib.hid hS⟩
    | true =>
      refine seq_take (o := ⟨_, _, _, _, _, _⟩) (v := .string s) (by rw [HO.out]; rfl) (by as_aux_lemma => (rw [HO.out]; rfl)) ?_ ?_
      · intro W hW; (obtain ⟨k0, k5⟩ := HF.out W hW; go_simp <;> with_reducible rfl)
      try simp only [Act.put, List.setIfInBounds_toArray, List.set_cons_zero, List.set_cons_succ]
      refine seq_take (o := ⟨_, _, _, _, _, _⟩) (v := .pointer (some ⟨w.heap.size, 5, none⟩)) (by rw [HO.out]; rfl) (by as_aux_lemma => (rw [HO.out]; rfl)) ?_ ?_
      · intro W hW; (obtain ⟨k0, k5⟩ := HF.out W hW; go_simp <;> with_reducible rfl)
      try simp only [Act.put, List.setIfInBounds_toArray, List.set_cons_zero, List.set_cons_succ]
      refine seq_take (o := ⟨_, _, _, _, _, _⟩) (v := .int .i64 f.maxD) (by rw [HO.out]; rfl) (by as_aux_lemma => (rw [HO.out]; rfl)) ?_ ?_
      · intro W hW; (obtain ⟨k0, k5⟩ := HF.out W hW; go_simp <;> with_reducible rfl)
      try simp only [Act.put, List.setIfInBounds_toArray, List.set_cons_zero, List.set_cons_succ]
      refine seq_do (o := ⟨_, _, _, _, _, _⟩) (by rw [HO.out]; rfl) (by as_aux_lemma => (rw [HO.out]; rfl)) (fun K hK => ?_)
      go_wp2_with (go_at_call 62; refine (HSp2.out _ hS).mono ?_; rintro e w9 ⟨a9, c9, rfl, hb9⟩)
      refine hK.out _ _ hb9 (fun _ => ?_)
      clear hK K hS
      try simp only [Act.put, List.setIfInBounds_toArray, List.set_cons_zero, List.set_cons_succ]
      refine seq_do (o := ⟨_, _, _, _, _, _⟩) (by rw [HO.out]; rfl) (by as_aux_lemma => (rw [HO.out]; rfl)) (fun K hK => ?_)
      go_wp2_with fail
      refine hK.out _ _ hb9 (fun _ => ?_)
      clear hK K
      try simp only [Act.put, List.setIfInBounds_toArray, List.set_cons_zero, List.set_cons_succ]
      refine seq_take (o := ⟨_, _, _, _, _, _⟩) (v := .bool d1) (by rw [HO.out]; rfl) (by as_aux_lemma => (rw [HO.out]; rfl)) ?_ ?_
      · intro W hW; (obtain ⟨k0, k5⟩ := HF.out W hW; go_simp <;> with_reducible rfl)
      try simp only [Act.put, List.setIfInBounds_toArray, List.set_cons_zero, List.set_cons_succ]
      refine seq_take (o := ⟨_, _, _, _, _, _⟩) (v := .bool d1) (by rw [HO.out]; rfl) (by rfl) ?_ ?_
      · intro W hW; (obtain ⟨k0, k5⟩ := HF.out W hW; go_simp <;> with_reducible rfl)
      try simp only [Act.put, List.setIfInBounds_toArray, List.set_cons_zero, List.set_cons_succ]
      refine seq_done ?_
      clear HO OPS
      go_wp2_with fail
      go_meet
      exact ⟨rfl, Lib.hid hb9⟩
  case rest =>
    obtain ⟨rfl, HBc⟩ := hcut
    cases hbd : (b1 && d1) with
    | true =>
      have HNo : Hid (¬ PassD f s) := Lib.hid (fun h => by
        have := (HPD.out.1 h).1
        rw [hbd] at this
        cases this)
      clear hbd hS
      go_wp2_with fail
      go_ret
      exact ⟨false, rfl, ⟨fun h => absurd h (by decide), fun h => absurd h HNo.out⟩, bTrans hb1 HBc.out⟩
    | false =>
      have HYes : Hid (PassD f s ↔ DirPass f.rules.xs s.data.toList) := Lib.hid (HPD.out.trans ⟨fun h => h.2, fun h => ⟨hbd, h⟩⟩)
      obtain ⟨c0, _⟩ := HF.out wc HBc.out
      clear hbd hS hb1' hd1 HPD
      generalize hN : f.rules.xs.length = N at *
      have HN := Lib.hid hN
      clear hN
      generalize hfa : f.rules.a = fa at *
      have HFa := Lib.hid hfa
      clear hfa
      have hNb := HLen.out
      go_wp2_with fail
      go_loopg [21] N (fun g s21 wx => ∃ k : Nat, k + g = N ∧ s21 = .int .i64 k ∧ Hid (Below w1.heap.size w1 wx ∧ DirOpen f.rules.xs s.data.toList k))
      case atStart => exact ⟨0, by omega, rfl, Lib.hid ⟨HBc.out, fun j r' h => absurd h (Nat.not_lt_zero _)⟩⟩
      case round =>
        clear c0
        obtain ⟨k, hk, rfl, HI⟩ := hrel
        by_cases hlt : k < N
        · obtain ⟨g, rfl⟩ : ∃ g, gk = g + 1 := ⟨gk - 1, by omega⟩
          have hltI : (k : Int) < (N : Int) := by omega
          have hk0 : (0 : Int) ≤ (k : Int) := by omega
          obtain ⟨r, hr⟩ : ∃ r, f.rules.xs[k]? = some r := ⟨_, List.getElem?_eq_getElem (by rw [HN.out]; exact hlt)⟩
          obtain ⟨rb, off, ha, hrb, r0, r1, r2, r3⟩ := ruleRow ((HS.out.under (bTrans hb1 HI.out.1)).1) hr
          rw [HFa.out] at ha
          subst ha
          have HR := Lib.hid hr
          have hmem := List.mem_of_getElem? hr
          have hb4 : Below wr.heap.size wr (wr.alloc (.cells (ruleArr r) 56)) := bAlloc (Below.refl _ _) _
          have HB := Lib.hid (BoxIs.new wr (ruleArr r) 56)
          have HC1 := Lib.hid (HBe.out r hmem (wr.alloc (.cells (ruleArr r) 56)) (bTrans hb1 (bTrans HI.out.1 hb4)))
          have HC2 := Lib.hid (HFi.out r hmem (wr.alloc (.cells (ruleArr r) 56)) (bTrans hb1 (bTrans HI.out.1 hb4)))
          have HB4 := Lib.hid (bTrans HI.out.1 hb4)
          clear hr hmem hb4
          go_upto_region 6 with fail
          clear r0 r1 r2 r3
          generalize hbx : wr.heap.size = bx at *
          generalize wr.alloc _ = w4 at *
          have d0 := HB.out.cell (j := 0) rfl
          have d1' := HB.out.cell (j := 1) rfl
          have d2 := HB.out.cell (j := 2) rfl
          have d3 := HB.out.cell (j := 3) rfl
          cases hinc : r.inc with
          | true =>
            by_cases hbl : BelowP r.rooted r.dirs D r.parts.xs s.data.toList
            · have HC : Hid (Calls Tryd.prog 32 #[globVal r.rooted r.dirs r.parts, .string s] w4 fun e w' => e = .returned (.bool true) ∧ Below w4.heap.size w4 w') := Lib.hid (HC1.out.mono (fun e w' h => by
                obtain ⟨q, h1, h2, h3⟩ := h
                exact ⟨by rw [h1, h2.2 hbl], h3⟩))
              have HP : Hid (PassD f s) := Lib.hid (HYes.out.2 (HI.out.2.yes HR.out hinc hbl))
              clear hbl HI HC1 HC2
              go_wp2_with (go_at_call 32; refine HC.out.mono ?_; rintro e w5 ⟨rfl, hb5⟩; have HB5 := Lib.hid (bTrans HB4.out hb5); clear hb5)
              go_ret
              exact ⟨true, rfl, ⟨fun _ => HP.out, fun _ => rfl⟩, bTrans hb1 HB5.out⟩
            · have HC : Hid (Calls Tryd.prog 32 #[globVal r.rooted r.dirs r.parts, .string s] w4 fun e w' => e = .returned (.bool false) ∧ Below w4.heap.size w4 w') := Lib.hid (HC1.out.mono (fun e w' h => by
                obtain ⟨q, h1, h2, h3⟩ := h
                refine ⟨?_, h3⟩
                cases q
                · exact h1
                · exact absurd (h2.1 rfl) hbl))
              have HNx := Lib.hid (HI.out.2.next HR.out (fun h => hbl h.2) (fun h => by rw [hinc] at h; cases h.1))
              clear hbl HI HC1 HC2
              go_wp2_with (go_at_call 32; refine HC.out.mono ?_; rintro e w5 ⟨rfl, hb5⟩; have HB5 := Lib.hid (bTrans HB4.out hb5); clear hb5 d0 d1' d2 d3 HB HC)
              go_roundg g
              case measure => omega
              case rel => exact ⟨k + 1, by omega, by go_num, Lib.hid ⟨HB5.out, HNx.out⟩⟩
          | false =>
            cases hdi : r.dirs with
            | false =>
              have HNx := Lib.hid (HI.out.2.next HR.out (fun h => by rw [hinc] at h; cases h.1) (fun h => by rw [hdi] at h; cases h.2.1))
              clear HI HC1 HC2
              go_wp2_with fail
              go_roundg g
              case measure => omega
              case rel => exact ⟨k + 1, by omega, by go_num, Lib.hid ⟨HB4.out, HNx.out⟩⟩
            | true =>
              rw [hdi] at HC2
              by_cases hfi : FitsUp r.rooted D r.parts.xs s.data.toList true true
              · have HC : Hid (Calls Tryd.prog 43 #[globVal r.rooted true r.parts, .string s, .bool true, .bool true] w4 fun e w' => e = .returned (.bool true) ∧ Below w4.heap.size w4 w') := Lib.hid (HC2.out.mono (fun e w' h => by
                  obtain ⟨q, h1, h2, h3⟩ := h
                  exact ⟨by rw [h1, h2.2 hfi], h3⟩))
                have HP : Hid (¬ PassD f s) := Lib.hid (fun h => HI.out.2.no HR.out hinc hdi hfi (HYes.out.1 h))
                clear hfi HI HC1 HC2
                go_wp2_with (go_at_call 43; refine HC.out.mono ?_; rintro e w5 ⟨rfl, hb5⟩; have HB5 := Lib.hid (bTrans HB4.out hb5); clear hb5)
                go_ret
                exact ⟨false, rfl, ⟨fun h => absurd h (by decide), fun h => absurd h HP.out⟩, bTrans hb1 HB5.out⟩
              · have HC : Hid (Calls Tryd.prog 43 #[globVal r.rooted true r.parts, .string s, .bool true, .bool true] w4 fun e w' => e = .returned (.bool false) ∧ Below w4.heap.size w4 w') := Lib.hid (HC2.out.mono (fun e w' h => by
                  obtain ⟨q, h1, h2, h3⟩ := h
                  refine ⟨?_, h3⟩
                  cases q
                  · exact h1
                  · exact absurd (h2.1 rfl) hfi))
                have HNx := Lib.hid (HI.out.2.next HR.out (fun h => by rw [hinc] at h; cases h.1) (fun h => hfi h.2.2))
                clear hfi HI HC1 HC2
                go_wp2_with (go_at_call 43; refine HC.out.mono ?_; rintro e w5 ⟨rfl, hb5⟩; have HB5 := Lib.hid (bTrans HB4.out hb5); clear hb5 d0 d1' d2 d3 HB HC)
                go_roundg g
                case measure => omega
                case rel => exact ⟨k + 1, by omega, by go_num, Lib.hid ⟨HB5.out, HNx.out⟩⟩
        · obtain rfl : k = N := by omega
          have HP : Hid (PassD f s) := Lib.hid (HYes.out.2 (by
            have h1 := HI.out.2
            rw [← HN.out] at h1
            exact h1.end))
          have HBl := Lib.hid HI.out.1
          have hltF : ¬ (k : Int) < (k : Int) := by omega
          clear HI
          go_wp2_with fail
          go_ret
          exact ⟨true, rfl, ⟨fun _ => HP.out, fun _ => rfl⟩, bTrans hb1 HBl.out⟩
end Go.Proofs.YtnpcbcnclncniaaDoor
namespace Go.Proofs.YtnpcbcnclncniaaDoor
open Go.RowKit

theorem good_of_ckF {D : Nat} {f : FilterOf D} (h : ckF f = 0) : ∀ r ∈ f.rules.xs, Good D r.parts.xs := by
  intro r hr
  unfold ckF at h
  have h1 : rulesErr f.rules.xs = 0 := by
    by_cases e : rulesErr f.rules.xs = 0
    · exact e
    · rw [if_pos e] at h
      exact absurd h e
  unfold rulesErr at h1
  by_cases e : 200 < f.rules.xs.length
  · rw [if_pos e] at h1
    cases h1
  · rw [if_neg e] at h1
    exact good_of_chk D _ (chk_of_ckG (firstErr_zero h1 _ (List.mem_map.2 ⟨r, hr, rfl⟩)))

theorem depth_take {s d : ByteArray} {k : Nat} (hk : s.data.toList[k]? = some 47) (hd : d.data.toList = s.data.toList.take k) (h0 : d.data.toList ≠ []) : (Wh.namesOf d).length < (Wh.namesOf s).length := by
  have hs0 : s.data.toList ≠ [] := fun e => by rw [e] at hk; cases hk
  rw [Wh.namesOf_some (s := d) (by simpa using h0), Wh.namesOf_some (s := s) (by simpa using hs0)]
  have h1 := congrArg List.length (Wh.pieces_data 47 s)
  have h2 := congrArg List.length (Wh.pieces_data 47 d)
  rw [List.length_map] at h1 h2
  rw [h1, h2, hd]
  conv => rhs; rw [cut_at hk, splitC_app, List.length_append]
  have h3 := List.length_pos_iff.2 (Wh.splitC_ne 47 (s.data.toList.drop (k + 1)))
  omega

/-- A file that passes: each directory above it is looked into. -/
theorem lose_nothing {D : Nat} {f : FilterOf D} {x : InfoOf} {now : Int} (hg : ∀ r ∈ f.rules.xs, Good D r.parts.xs) (he : Wh.pathErr x.path.data.toList = 0) (h : PassP f x now) {d : ByteArray} (hd : d.data.toList = [] ∨ ∃ k, x.path.data.toList[k]? = some 47 ∧ d.data.toList = x.path.data.toList.take k) : PassD f d := by
  obtain ⟨hr, _, _, _, _, hm⟩ := h
  refine ⟨fun h1 => ?_, fun i r h1 h2 h3 h4 => ?_⟩
  · by_cases h0 : d.data.toList = []
    · rw [Wh.namesOf_none (s := d) (by simpa using h0)] at h1
      simp at h1
      omega
    · rcases hd with h | ⟨k, hk, hdk⟩
      · exact h0 h
      · have h5 := depth_take hk hdk h0
        omega
  · have h0 : d.data.toList ≠ [] := h4.1
    obtain ⟨k, hk, hdk⟩ := hd.resolve_left h0
    have hkl := (List.getElem?_eq_some_iff.1 hk).1
    have hm2 : GM r x.path.data.toList := by
      unfold GM GMatch
      rw [h3, if_pos rfl]
      rcases h4.2 with ⟨_, h5⟩ | ⟨_, j, h5, h6, h7, h8⟩
      · exact ⟨k, hk, by rw [← hdk]; exact gpath_ends.2 ⟨h0, h5⟩⟩
      · have hjk : j < k := by
          rw [hdk, List.length_take] at h6
          omega
        refine ⟨j, ?_, ?_⟩
        · rw [hdk, List.getElem?_take_of_lt hjk] at h7
          exact h7
        · have h9 := (gpath_take h6).2 ⟨h5, h8⟩
          rw [hdk, List.take_take, Nat.min_eq_left (by omega)] at h9
          exact h9
    rcases hr with ⟨i0, r0, g1, g2, g3, g4⟩ | hn
    · rcases Nat.lt_trichotomy i i0 with hi | hi | hi
      · exact absurd hm2 (g4 i r hi h1)
      · subst hi
        rw [h1] at g1
        injection g1 with g1
        rw [← g1, h2] at g2
        cases g2
      · exact ⟨i0, r0, hi, g1, g2, needs_dirs (hg r0 (List.mem_of_getElem? g1)) (Wh.pathErr_zero he) g3 hd⟩
    · exact absurd hm2 (hn r (List.mem_of_getElem? h1))

set_option maxHeartbeats 4000000 in
set_option maxRecDepth 100000 in
theorem PassesDir_any {D : Nat} (f : FilterOf D) (s : ByteArray) (w : World) (hE : Env w) (hs : RulesOk w D f.rules) (hsz : s.size ≤ 9223372036854775807) :
    Calls Tryd.prog 16 #[.agg (filterArr f), .string s] w (MatRes (ckF f) (Wh.pathErr s.data.toList) (PassD f s) w) := by
  have hb1 := bAlloc (Below.refl w.heap.size w) (.cells (filterArr f) 36)
  have HQ := Lib.hid (BoxIs.new w (filterArr f) 36)
  have HK := Lib.hid (fun W (hb : Below w.heap.size w W) => checkFilter_any f W (hs.under hb))
  have HP := Lib.hid (fun W (hb : Below w.heap.size w W) => check_any s W (hE.under hb) hsz)
  have HC := Lib.hid (fun (hk : ckF f = 0) (he : Wh.pathErr s.data.toList = 0) W (hb : Below w.heap.size w W) => passesDir_any f s W (hE.under hb) (hs.under hb) (good_of_ckF hk) (Wh.path_size (Wh.pathErr_zero he)))
  generalize ckF f = K at *
  generalize Wh.pathErr s.data.toList = E at *
  generalize PassD f s = GM at *
  clear hs hE
  go_enter Tryd.func16, Tryd.ntmps16
  go_upto_region 1 with fail
  generalize w.alloc _ = w1 at *
  have c0 := HQ.out.cell (j := 0) rfl
  have c1 := HQ.out.cell (j := 1) rfl
  have c2 := HQ.out.cell (j := 2) rfl
  have c3 := HQ.out.cell (j := 3) rfl
  have c4 := HQ.out.cell (j := 4) rfl
  have c5 := HQ.out.cell (j := 5) rfl
  by_cases hK : K = 0
  case neg =>
    have hK' : (K != 0) = true := by simp [hK]
    have HKn := Lib.hid hK
    clear hK HC
    go_wp2_with fail
    refine (HK.out _ hb1).mono ?_
    rintro e w2 ⟨rfl, hb2⟩
    go_wp2_with fail
    go_ret2
    exact ⟨false, by rw [if_pos HKn.out]; rfl, ⟨fun h => absurd h Bool.false_ne_true, fun h => absurd h.1 HKn.out⟩, bTrans hb1 hb2⟩
  subst hK
  go_wp2_with fail
  refine (HK.out _ hb1).mono ?_
  rintro e w2 ⟨rfl, hb2⟩
  have HQ2 := Lib.hid (HQ.out.under hb2)
  replace hb2 := bTrans hb1 hb2
  clear c0 c1 c2 c3 c4 c5 HQ hb1 HK
  by_cases hEz : E = 0
  case neg =>
    have hE' : (E != 0) = true := by simp [hEz]
    have HEn := Lib.hid hEz
    clear hEz HC
    go_wp2_with fail
    refine (HP.out _ hb2).mono ?_
    rintro e w3 ⟨rfl, hb3⟩
    go_wp2_with fail
    go_ret2
    exact ⟨false, by rw [if_neg (by decide)]; rfl, ⟨fun h => absurd h Bool.false_ne_true, fun h => absurd h.2.1 HEn.out⟩, bTrans hb2 hb3⟩
  subst hEz
  go_wp2_with fail
  refine (HP.out _ hb2).mono ?_
  rintro e w3 ⟨rfl, hb3⟩
  have HQ3 := Lib.hid (HQ2.out.under hb3)
  replace hb3 := bTrans hb2 hb3
  have c0 := HQ3.out.cell (j := 0) rfl
  have c1 := HQ3.out.cell (j := 1) rfl
  have c2 := HQ3.out.cell (j := 2) rfl
  have c3 := HQ3.out.cell (j := 3) rfl
  have c4 := HQ3.out.cell (j := 4) rfl
  have c5 := HQ3.out.cell (j := 5) rfl
  clear HQ2 hb2 HP
  have HC := Lib.hid (HC.out (by first | rfl | trivial) (by first | rfl | trivial))
  go_wp2_with fail
  refine (HC.out _ hb3).mono ?_
  rintro e w4 ⟨b, rfl, hbq, hb4⟩
  have HB := Lib.hid hbq
  clear hbq c0 c1 c2 c3 c4 c5
  go_wp2_with fail
  go_ret2
  exact ⟨b, by rw [if_neg (by decide)]; rfl, HB.out.trans ⟨fun h => ⟨rfl, rfl, h⟩, fun h => h.2.2⟩, bTrans hb3 hb4⟩

/-- What Passes says of a file or of a directory. -/
def PassQ {D : Nat} (f : FilterOf D) (x : InfoOf) (now : Int) : Prop := if x.dir = true then PassD f x.path else PassP f x now

set_option maxHeartbeats 4000000 in
set_option maxRecDepth 100000 in
theorem Passes_any {D : Nat} (f : FilterOf D) (x : InfoOf) (now : Int) (w : World) (hE : Env w) (hs : RulesOk w D f.rules) (hsz : x.path.size ≤ 9223372036854775807) :
    Calls Tryd.prog 14 #[.agg (filterArr f), .agg (infoArr x), .int .i64 now] w (MatRes (ckF f) (Wh.pathErr x.path.data.toList) (PassQ f x now) w) := by
  have hb1 := bAlloc (bAlloc (Below.refl w.heap.size w) (.cells (filterArr f) 36)) (.cells (infoArr x) 40)
  have HX := Lib.hid ((BoxIs.new w (filterArr f) 36).under (bAlloc (Below.refl _ _) (.cells (infoArr x) 40)))
  have HY := Lib.hid (BoxIs.new (w.alloc (.cells (filterArr f) 36)) (infoArr x) 40)
  have hsz1 : (w.alloc (.cells (filterArr f) 36)).heap.size = w.heap.size + 1 := by simp
  rw [hsz1] at HY
  have HK := Lib.hid (fun W (hb : Below w.heap.size w W) => checkFilter_any f W (hs.under hb))
  have HP := Lib.hid (fun W (hb : Below w.heap.size w W) => check_any x.path W (hE.under hb) hsz)
  have HCd := Lib.hid (fun (hd : x.dir = true) (hk : ckF f = 0) (he : Wh.pathErr x.path.data.toList = 0) W (hb : Below w.heap.size w W) => (by
    have h := passesDir_any f x.path W (hE.under hb) (hs.under hb) (good_of_ckF hk) (Wh.path_size (Wh.pathErr_zero he))
    rwa [show PassD f x.path = PassQ f x now by unfold PassQ; rw [if_pos hd]] at h : Calls Tryd.prog 33 #[.agg (filterArr f), .string x.path] W (BoolRes (PassQ f x now) W)))
  have HCf := Lib.hid (fun (hd : x.dir = false) (hk : ckF f = 0) (he : Wh.pathErr x.path.data.toList = 0) W (hb : Below w.heap.size w W) => (by
    have h := passes_any f x now W (hE.under hb) (hs.under hb) (good_of_ckF hk) (Wh.path_size (Wh.pathErr_zero he))
    rwa [show PassP f x now = PassQ f x now by unfold PassQ; rw [hd, if_neg (by decide)]] at h : Calls Tryd.prog 34 #[.agg (filterArr f), .agg (infoArr x), .int .i64 now] W (BoolRes (PassQ f x now) W)))
  generalize ckF f = K at *
  generalize Wh.pathErr x.path.data.toList = E at *
  generalize PassQ f x now = GM at *
  clear hs hE hsz1
  go_enter Tryd.func14, Tryd.ntmps14
  go_upto_region 1 with fail
  generalize (w.alloc _).alloc _ = w1 at *
  have c0 := HX.out.cell (j := 0) rfl
  have c1 := HX.out.cell (j := 1) rfl
  have c2 := HX.out.cell (j := 2) rfl
  have c3 := HX.out.cell (j := 3) rfl
  have c4 := HX.out.cell (j := 4) rfl
  have c5 := HX.out.cell (j := 5) rfl
  by_cases hK : K = 0
  case neg =>
    have hK' : (K != 0) = true := by simp [hK]
    have HKn := Lib.hid hK
    clear hK HCd HCf
    go_wp2_with fail
    refine (HK.out _ hb1).mono ?_
    rintro e w2 ⟨rfl, hb2⟩
    go_wp2_with fail
    go_ret2
    exact ⟨false, by rw [if_pos HKn.out]; rfl, ⟨fun h => absurd h Bool.false_ne_true, fun h => absurd h.1 HKn.out⟩, bTrans hb1 hb2⟩
  subst hK
  go_wp2_with fail
  refine (HK.out _ hb1).mono ?_
  rintro e w2 ⟨rfl, hb2⟩
  have HX2 := Lib.hid (HX.out.under hb2)
  have HY2 := Lib.hid (HY.out.under hb2)
  replace hb2 := bTrans hb1 hb2
  clear c0 c1 c2 c3 c4 c5 HX HY hb1 HK
  have i0 := HY2.out.cell (j := 0) rfl
  by_cases hEz : E = 0
  case neg =>
    have hE' : (E != 0) = true := by simp [hEz]
    have HEn := Lib.hid hEz
    clear hEz HCd HCf
    go_wp2_with fail
    refine (HP.out _ hb2).mono ?_
    rintro e w3 ⟨rfl, hb3⟩
    go_wp2_with fail
    go_ret2
    exact ⟨false, by rw [if_neg (by decide)]; rfl, ⟨fun h => absurd h Bool.false_ne_true, fun h => absurd h.2.1 HEn.out⟩, bTrans hb2 hb3⟩
  subst hEz
  go_wp2_with fail
  refine (HP.out _ hb2).mono ?_
  rintro e w3 ⟨rfl, hb3⟩
  have HX3 := Lib.hid (HX2.out.under hb3)
  have HY3 := Lib.hid (HY2.out.under hb3)
  replace hb3 := bTrans hb2 hb3
  clear HX2 HY2 hb2 HP i0
  have c0 := HX3.out.cell (j := 0) rfl
  have c1 := HX3.out.cell (j := 1) rfl
  have c2 := HX3.out.cell (j := 2) rfl
  have c3 := HX3.out.cell (j := 3) rfl
  have c4 := HX3.out.cell (j := 4) rfl
  have c5 := HX3.out.cell (j := 5) rfl
  have i0 := HY3.out.cell (j := 0) rfl
  have i1 := HY3.out.cell (j := 1) rfl
  have i2 := HY3.out.cell (j := 2) rfl
  have i3 := HY3.out.cell (j := 3) rfl
  have i4 := HY3.out.cell (j := 4) rfl
  have i5 := HY3.out.cell (j := 5) rfl
  have i6 := HY3.out.cell (j := 6) rfl
  cases hdir : x.dir with
  | true =>
    have HC := Lib.hid (HCd.out hdir (by first | rfl | trivial) (by first | rfl | trivial))
    clear HCd HCf
    go_wp2_with fail
    refine (HC.out _ hb3).mono ?_
    rintro e w4 ⟨b, rfl, hbq, hb4⟩
    have HB := Lib.hid hbq
    clear hbq c0 c1 c2 c3 c4 c5 i0 i1 i2 i3 i4 i5 i6
    go_wp2_with fail
    go_ret2
    exact ⟨b, by rw [if_neg (by decide)]; rfl, HB.out.trans ⟨fun h => ⟨rfl, rfl, h⟩, fun h => h.2.2⟩, bTrans hb3 hb4⟩
  | false =>
    have HC := Lib.hid (HCf.out hdir (by first | rfl | trivial) (by first | rfl | trivial))
    unfold infoArr at HC
    rw [hdir] at HC
    clear HCd HCf
    go_wp2_with fail
    refine (HC.out _ hb3).mono ?_
    rintro e w4 ⟨b, rfl, hbq, hb4⟩
    have HB := Lib.hid hbq
    clear hbq c0 c1 c2 c3 c4 c5 i0 i1 i2 i3 i4 i5 i6
    go_wp2_with fail
    go_ret2
    exact ⟨b, by rw [if_neg (by decide)]; rfl, HB.out.trans ⟨fun h => ⟨rfl, rfl, h⟩, fun h => h.2.2⟩, bTrans hb3 hb4⟩

/-- A time is too far from 0. -/
def farB (n : Int) : Bool := decide (n < -4611686018427387904) || decide (4611686018427387904 < n)

set_option maxHeartbeats 1000000 in
theorem far_any (n : Int) (w : World) : Calls Tryd.prog 15 #[.int .i64 n] w fun e w' => e = .returned (.bool (farB n)) ∧ w = w' := by
  obtain ⟨b, hb⟩ : ∃ b, farB n = b := ⟨_, rfl⟩
  have HB : Hid (farB n = b) := Lib.hid hb
  clear hb
  by_cases h1 : n < -4611686018427387904
  · have HF : Hid (b = true) := Lib.hid (by rw [← HB.out]; unfold farB; simp [h1])
    rw [HB.out, HF.out]
    clear HB HF
    go_enter Tryd.func15, Tryd.ntmps15
    go_wp2
    go_ret
    exact ⟨rfl, rfl⟩
  · by_cases h2 : 4611686018427387904 < n
    · have HF : Hid (b = true) := Lib.hid (by rw [← HB.out]; unfold farB; simp [h2])
      rw [HB.out, HF.out]
      clear HB HF
      go_enter Tryd.func15, Tryd.ntmps15
      go_wp2
      go_ret
      exact ⟨by first | rfl | simp [h2], rfl⟩
    · have HF : Hid (b = false) := Lib.hid (by rw [← HB.out]; unfold farB; simp [h1, h2])
      rw [HB.out, HF.out]
      clear HB HF
      go_enter Tryd.func15, Tryd.ntmps15
      go_wp2
      go_ret
      exact ⟨by first | rfl | simp [h2], rfl⟩
end Go.Proofs.YtnpcbcnclncniaaDoor
namespace Go.Proofs.YtnpcbcnclncniaaDoor
open Go.RowKit

theorem BoxIs.setHere {w : World} {b : Nat} {vs : Array Value} {t : TypeId} (h : BoxIs w b vs t) (j : Nat) (v : Value) : BoxIs (w.setCell ⟨b, j, none⟩ v) b (vs.setIfInBounds j v) t := by
  unfold BoxIs at h ⊢
  simp [World.setCell, Array.getElem?_modify, h]

set_option maxHeartbeats 4000000 in
set_option maxRecDepth 100000 in
theorem losesNothing_walk {D : Nat} (f : FilterOf D) (x : InfoOf) (now : Int) (w : World) (hE : Env w) (hs : RulesOk w D f.rules) (hsz : x.path.size ≤ 9223372036854775807) :
    Calls Tryd.prog 5 #[.agg (filterArr f), .agg (infoArr x), .int .i64 now] w fun e w' => e = .returned (.bool true) ∧ Below w.heap.size w w' := by
  have hb1 := bAlloc (bAlloc (Below.refl w.heap.size w) (.cells (filterArr f) 36)) (.cells (infoArr x) 40)
  have HX := Lib.hid ((BoxIs.new w (filterArr f) 36).under (bAlloc (Below.refl _ _) (.cells (infoArr x) 40)))
  have HY := Lib.hid (BoxIs.new (w.alloc (.cells (filterArr f) 36)) (infoArr x) 40)
  have hsz1 : (w.alloc (.cells (filterArr f) 36)).heap.size = w.heap.size + 1 := by simp
  rw [hsz1] at HY
  have HL := Lib.hid (fun W (hb : Below w.heap.size w W) => landed_any W (hE.under hb))
  obtain ⟨y, hy⟩ : ∃ y : InfoOf, y = { x with dir := false } := ⟨_, rfl⟩
  have HC := Lib.hid (fun W (hb : Below w.heap.size w W) => Passes_any f y now W (hE.under hb) (hs.under hb) (by rw [hy]; exact hsz))
  have HD := Lib.hid (fun (he : Wh.pathErr x.path.data.toList = 0) W => above_dirs x.path W (by have := Wh.path_size (Wh.pathErr_zero he); omega))
  have HB := Lib.hid (fun (hk : ckF f = 0) (he : Wh.pathErr x.path.data.toList = 0) (hm : PassQ f y now) (d : ByteArray) (hd : d.data.toList = [] ∨ ∃ k, x.path.data.toList[k]? = some 47 ∧ d.data.toList = x.path.data.toList.take k) W (hb : Below w.heap.size w W) =>
    ((PassesDir_any f d W (hE.under hb) (hs.under hb) (by
      have h1 := Wh.path_size (Wh.pathErr_zero he)
      rw [Lib.size_eq] at h1 ⊢
      rcases hd with h | ⟨k, _, h⟩
      · rw [h]; decide
      · rw [h, List.length_take]; omega)).mono (fun e w' h => by
      obtain ⟨r, h1, h2, h3⟩ := h
      have hd0 : Wh.pathErr d.data.toList = 0 := by
        rcases hd with h | ⟨k, h4, h⟩
        · rw [h]; exact pathErr_nil
        · rw [h]; exact pathErr_take he h4
      have hm2 : PassP f y now := by
        unfold PassQ at hm
        rwa [if_neg (by rw [hy]; exact Bool.false_ne_true)] at hm
      have hr : r = true := h2.2 ⟨hk, hd0, lose_nothing (x := y) (now := now) (good_of_ckF hk) (by rw [hy]; exact he) hm2 (by rw [hy]; exact hd)⟩
      rw [hr, hk, hd0] at h1
      exact ⟨h1, h3⟩) : Calls Tryd.prog 16 #[.agg (filterArr f), .string d] W fun e w' => e = .returned (.tuple #[.bool true, .int .i64 0]) ∧ Below W.heap.size W w'))
  have HSz := Lib.hid (fun (he : Wh.pathErr x.path.data.toList = 0) => Wh.path_size (Wh.pathErr_zero he))
  have hyp : y.path = x.path := by rw [hy]
  rw [hyp] at HC
  have HYA : Hid (infoArr y = #[.string x.path, .bool false, .int .i64 x.size, .int .i64 x.time, .slice x.a4 x.n4 x.c4, .slice x.a5 x.n5 x.c5, .string x.id]) := Lib.hid (by rw [hy])
  generalize ckF f = K at *
  generalize Wh.pathErr x.path.data.toList = E at *
  generalize PassQ f y now = GM at *
  generalize infoArr y = ya at *
  obtain rfl := HYA.out
  clear hs hE hsz1 hy hyp HYA y
  go_enter Tryd.func5, Tryd.ntmps5
  go_upto_region 1 with fail
  generalize (w.alloc _).alloc _ = w1 at *
  go_wp2_with fail
  refine (HL.out _ hb1).mono ?_
  rintro e w2 ⟨rfl, hb2⟩
  have HX2 := Lib.hid (HX.out.under hb2)
  have HY2 := Lib.hid (HY.out.under hb2)
  replace hb2 := bTrans hb1 hb2
  clear HL HX HY hb1
  have HY3 := Lib.hid (HY2.out.setHere 1 (.bool false))
  have HX3 := Lib.hid (HX2.out.setOther (g := w.heap.size + 1) (by omega) 1 (.bool false))
  have hb3 : Below w.heap.size w (w2.setCell ⟨w.heap.size + 1, 1, none⟩ (.bool false)) := hb2.setCell (p := ⟨w.heap.size + 1, 1, none⟩) (by simp) _
  have i1 := HY2.out.cell (j := 1) rfl
  have f1 := Lib.frozen_of_heap HY2.out 1
  go_upto_region 4 with fail
  clear i1 f1 HX2 HY2 hb2
  change Hid (BoxIs _ _ #[.string x.path, .bool false, .int .i64 x.size, .int .i64 x.time, .slice x.a4 x.n4 x.c4, .slice x.a5 x.n5 x.c5, .string x.id] _) at HY3
  generalize World.setCell w2 _ _ = w3 at *
  have c0 := HX3.out.cell (j := 0) rfl
  have c1 := HX3.out.cell (j := 1) rfl
  have c2 := HX3.out.cell (j := 2) rfl
  have c3 := HX3.out.cell (j := 3) rfl
  have c4 := HX3.out.cell (j := 4) rfl
  have c5 := HX3.out.cell (j := 5) rfl
  have i0 := HY3.out.cell (j := 0) rfl
  have i1 := HY3.out.cell (j := 1) rfl
  have i2 := HY3.out.cell (j := 2) rfl
  have i3 := HY3.out.cell (j := 3) rfl
  have i4 := HY3.out.cell (j := 4) rfl
  have i5 := HY3.out.cell (j := 5) rfl
  have i6 := HY3.out.cell (j := 6) rfl
  go_upto_region 5 with (go_at_call 14; refine (HC.out _ hb3).mono ?_; rintro e w4 ⟨b, rfl, hbq, hb4⟩; have HBq := Lib.hid hbq; clear hbq)
  have HX4 := Lib.hid (HX3.out.under hb4)
  have HY4 := Lib.hid (HY3.out.under hb4)
  replace hb4 := bTrans hb3 hb4
  clear c0 c1 c2 c3 c4 c5 i0 i1 i2 i3 i4 i5 i6 HX3 HY3 hb3 HC
  cases b with
  | false =>
    clear HBq HB HD
    go_wp2_with fail
    all_goals (go_ret; exact ⟨rfl, hb4⟩)
  | true =>
    obtain ⟨hK, hE0, hGM⟩ := HBq.out.1 rfl
    subst hK
    subst hE0
    have hs4 : x.path.size ≤ 1024 := HSz.out (by first | rfl | trivial)
    have HD2 := Lib.hid (HD.out (by first | rfl | trivial))
    have HB2 := Lib.hid (HB.out (by first | rfl | trivial) (by first | rfl | trivial) hGM)
    first | rw [if_neg (by decide)] | rw [if_pos rfl]
    have HF1 := Lib.hid (fun W => far_any now W)
    have HF2 := Lib.hid (fun W => far_any x.time W)
    have i3 := HY4.out.cell (j := 3) rfl
    clear HD HB HBq hGM
    generalize farB now = b1 at *
    generalize farB x.time = b2 at *
    cases b1 with
    | true =>
      go_wp2_with (go_at_call 15; refine (HF1.out _).mono ?_; rintro e w5 ⟨rfl, rfl⟩)
      go_ret
      exact ⟨rfl, hb4⟩
    | false =>
      cases b2 with
      | true =>
        go_wp2_with (go_at_call 15; first | (refine (HF1.out _).mono ?_; rintro e w5 ⟨rfl, rfl⟩) | (refine (HF2.out _).mono ?_; rintro e w6 ⟨rfl, rfl⟩))
        go_ret
        exact ⟨rfl, hb4⟩
      | false =>
        go_upto_region 7 with (go_at_call 15; first | (refine (HF1.out _).mono ?_; rintro e w5 ⟨rfl, rfl⟩) | (refine (HF2.out _).mono ?_; rintro e w6 ⟨rfl, rfl⟩))
        have i0 := HY4.out.cell (j := 0) rfl
        clear i3 HF1 HF2
        go_wp2_with (go_at_call 12; refine (HD2.out _).mono ?_; rintro e w5 ⟨a, c, M, l, rfl, hlm, hm2, hst, hH, hb5⟩; have HX5 := Lib.hid (HX4.out.under hb5); have hb50 := bTrans hb4 hb5; have HH := Lib.hid hH; have HSt := Lib.hid (And.intro hlm hst); clear hlm hst hH hb5 HX4 HY4 HD2 i0)
        go_loopg [42] M (fun g i wx => ∃ k : Nat, k + g = M ∧ i = .int .i64 k ∧ Hid (Below w5.heap.size w5 wx))
        case atStart => exact ⟨0, by omega, rfl, Lib.hid (Below.refl _ _)⟩
        case round =>
          obtain ⟨k, hk, rfl, hb6⟩ := hrel
          by_cases hlt : k < M
          · obtain ⟨g, rfl⟩ : ∃ g, gk = g + 1 := ⟨gk - 1, by omega⟩
            obtain ⟨d, hd⟩ : ∃ d, ((⟨#[]⟩ : ByteArray) :: l)[k]? = some d := ⟨_, List.getElem?_eq_getElem (by rw [HSt.out.1]; exact hlt)⟩
            obtain ⟨ba, off, ha, hba, hca⟩ := (HH.out.under hb6.out).at (k := k) (u := .string d) (by rw [List.getElem?_map, hd]; rfl)
            subst ha
            have hdd : d.data.toList = [] ∨ ∃ k, x.path.data.toList[k]? = some 47 ∧ d.data.toList = x.path.data.toList.take k := by
              cases k with
              | zero =>
                injection hd with hd
                rw [← hd]
                exact .inl rfl
              | succ k =>
                have hmem : d ∈ l := List.mem_of_getElem? (i := k) hd
                obtain ⟨m, _, h1, rfl⟩ := HSt.out.2.1 d hmem
                refine .inr ⟨m, h1, ?_⟩
                rw [Lib.extract_data, Nat.sub_zero, List.drop_zero]
            have HC := Lib.hid (HB2.out d hdd wr (bTrans hb50 hb6.out))
            have HX6 := Lib.hid (HX5.out.under hb6.out)
            have c0 := HX6.out.cell (j := 0) rfl
            have c1 := HX6.out.cell (j := 1) rfl
            have c2 := HX6.out.cell (j := 2) rfl
            have c3 := HX6.out.cell (j := 3) rfl
            have c4 := HX6.out.cell (j := 4) rfl
            have c5 := HX6.out.cell (j := 5) rfl
            have hltI : (k : Int) < (M : Int) := by omega
            have hk0 : (0 : Int) ≤ (k : Int) := by omega
            have hMb : (M : Int) ≤ 9223372036854775806 := by omega
            clear hd hdd
            go_wp2_with (go_at_call 16; refine HC.out.mono ?_; rintro e w7 ⟨rfl, hb7⟩; have HNx := Lib.hid (bTrans hb6.out hb7); clear c0 c1 c2 c3 c4 c5 HX6 HC hca hb7)
            go_roundg g
            case measure => omega
            case rel => exact ⟨k + 1, by omega, by go_num, HNx⟩
          · have hltF : ¬ (k : Int) < (M : Int) := by omega
            go_wp2_with fail
            go_ret
            exact ⟨rfl, bTrans hb50 hb6.out⟩
end Go.Proofs.YtnpcbcnclncniaaDoor
