/-
  Rules and filters in memory; names.checkRules.
-/
import Derived.Test.YtnpcbcnclncniaaDoorGlobC
namespace Go.Proofs.YtnpcbcnclncniaaDoor
open Go.RowKit

structure RuleOf (D : Nat) where
  inc : Bool
  rooted : Bool
  dirs : Bool
  parts : Sl (P D)
abbrev ruleArr {D : Nat} (r : RuleOf D) : Array Value := #[.bool r.inc, .bool r.rooted, .bool r.dirs, .slice r.parts.a r.parts.xs.length r.parts.c]
def ruleCells {D : Nat} (r : RuleOf D) : List Value := [.bool r.inc, .bool r.rooted, .bool r.dirs, r.parts.val]
structure FilterOf (D : Nat) where
  rules : Sl (RuleOf D)
  minS : Int
  maxS : Int
  minA : Int
  maxA : Int
  maxD : Int
abbrev filterArr {D : Nat} (f : FilterOf D) : Array Value := #[.slice f.rules.a f.rules.xs.length f.rules.c, .int .i64 f.minS, .int .i64 f.maxS, .int .i64 f.minA, .int .i64 f.maxA, .int .i64 f.maxD]
def RulesOk (w : World) (D : Nat) (s : Sl (RuleOf D)) : Prop := SlHolds w 4 ruleCells s ∧ (∀ r ∈ s.xs, SOk w D r.parts) ∧ (s.xs.map (fun r => 1 + szL D r.parts.xs)).sum ≤ 1048576
theorem RulesOk.under {w w' : World} {D : Nat} {s : Sl (RuleOf D)} (h : RulesOk w D s) (hb : Below w.heap.size w w') : RulesOk w' D s := ⟨h.1.under hb, fun r hr => (h.2.1 r hr).under hb, h.2.2⟩
theorem RulesOk.len {w : World} {D : Nat} {s : Sl (RuleOf D)} (h : RulesOk w D s) : s.xs.length ≤ 1048576 := by
  have h1 := sum_mono (xs := s.xs) (f := fun _ => 1) (g := fun r => 1 + szL D r.parts.xs) (fun r _ => by omega)
  rw [sum_ones1] at h1
  exact Nat.le_trans h1 h.2.2
theorem RulesOk.sz {w : World} {D : Nat} {s : Sl (RuleOf D)} (h : RulesOk w D s) {r : RuleOf D} (hr : r ∈ s.xs) : szL D r.parts.xs ≤ 1048576 := by
  have h1 := le_sum (List.mem_map.2 ⟨r, hr, rfl⟩ : (1 + szL D r.parts.xs) ∈ s.xs.map (fun r => 1 + szL D r.parts.xs))
  have h2 := h.2.2
  omega
theorem ruleRow {D : Nat} {w : World} {s : Sl (RuleOf D)} (h : SlHolds w 4 ruleCells s) {k : Nat} {r : RuleOf D} (hk : s.xs[k]? = some r) :
    ∃ b off, s.a = some ⟨b, off, none⟩ ∧ b < w.heap.size ∧ w.cell? ⟨b, off + k * 4, none⟩ = some (.bool r.inc) ∧ w.cell? ⟨b, off + k * 4 + 1, none⟩ = some (.bool r.rooted) ∧ w.cell? ⟨b, off + k * 4 + 2, none⟩ = some (.bool r.dirs) ∧ w.cell? ⟨b, off + k * 4 + 3, none⟩ = some (.slice r.parts.a r.parts.xs.length r.parts.c) := by
  obtain ⟨b, off, ha, hb, hc⟩ := h.1.at (k := k) (row := ruleCells r) (by rw [List.getElem?_map, hk]; rfl)
  exact ⟨b, off, ha, hb, hc 0 _ rfl, hc 1 _ rfl, hc 2 _ rfl, hc 3 _ rfl⟩

def ckR {D : Nat} (r : RuleOf D) : Int := ckG r.rooted r.dirs D r.parts.xs
/-- The error of rules. -/
def rulesErr {D : Nat} (xs : List (RuleOf D)) : Int := if 200 < xs.length then 8 else firstErr (xs.map ckR)

set_option maxHeartbeats 2000000 in
set_option maxRecDepth 100000 in
theorem checkRules_any {D : Nat} (s : Sl (RuleOf D)) (w : World) (hs : RulesOk w D s) :
    Calls Tryd.prog 35 #[.slice s.a s.xs.length s.c] w fun e w' => e = .returned (.int .i64 (rulesErr s.xs)) ∧ Below w.heap.size w w' := by
  have hlen := hs.len
  have HS := Lib.hid hs
  have HK : Hid (rulesErr s.xs = if 200 < s.xs.length then 8 else firstErr (s.xs.map ckR)) := Lib.hid rfl
  generalize rulesErr s.xs = K at *
  clear hs
  obtain ⟨sa, sc, xs⟩ := s
  simp only [] at *
  by_cases h1 : 200 < xs.length
  · have HR : Hid (K = 8) := Lib.hid (HK.out.trans (if_pos h1))
    clear HK
    go_enter Tryd.func35, Tryd.ntmps35
    go_wp2_with fail
    go_ret
    exact ⟨ret_int HR.out.symm, Below.refl _ _⟩
  have HR : Hid (K = firstErr ((xs.map ckR).drop 0)) := Lib.hid (HK.out.trans (if_neg h1))
  clear HK
  go_enter Tryd.func35, Tryd.ntmps35
  go_wp2_with fail
  go_loopg [11] xs.length (fun g i wx => ∃ k : Nat, k + g = xs.length ∧ i = .int .i64 k ∧ Below w.heap.size w wx ∧ Hid (K = firstErr ((xs.map ckR).drop k)))
  case atStart => exact ⟨0, by omega, rfl, Below.refl _ _, HR⟩
  case round =>
    clear HR
    obtain ⟨k, hk, rfl, hb, HK⟩ := hrel
    by_cases hlt : k < xs.length
    · obtain ⟨g, rfl⟩ : ∃ g, gk = g + 1 := ⟨gk - 1, by omega⟩
      obtain ⟨r, hx⟩ : ∃ r, xs[k]? = some r := ⟨_, List.getElem?_eq_getElem hlt⟩
      obtain ⟨ba, off, ha, hba, r0, r1, r2, r3⟩ := ruleRow ((HS.out.under hb).1) hx
      have hmem := List.mem_of_getElem? hx
      rw [firstErr_step (e := ckR r) (by rw [List.getElem?_map, hx]; rfl)] at HK
      have hbx := bAlloc (Below.refl wr.heap.size wr) (.cells (ruleArr r) 56)
      have HX := Lib.hid (BoxIs.new wr (ruleArr r) 56)
      have HC := Lib.hid (checkGlob_any D r.parts r.rooted r.dirs _ (((HS.out.under (bTrans hb hbx)).2.1 r hmem)) (HS.out.sz hmem))
      change Hid (Calls _ _ _ _ fun e w' => e = .returned (.int .i64 (ckR r)) ∧ _) at HC
      generalize ckR r = C at *
      have hb5 := bTrans hb hbx
      simp only [] at ha
      subst ha
      clear hx hmem hbx
      go_upto_region 6 with fail
      generalize wr.alloc _ = w5 at *
      obtain ⟨b0, b1, b2, b3⟩ : _ ∧ _ ∧ _ ∧ _ := ⟨HX.out.cell (j := 0) rfl, HX.out.cell (j := 1) rfl, HX.out.cell (j := 2) rfl, HX.out.cell (j := 3) rfl⟩
      clear r0 r1 r2 r3
      by_cases hC : C = 0
      · subst hC
        replace HK := Lib.hid (HK.out.trans (if_pos rfl))
        go_wp2_with fail
        refine HC.out.mono ?_
        rintro e w6 ⟨rfl, hb6⟩
        clear b0 b1 b2 b3
        go_wp2_with fail
        go_roundg g
        case measure => omega
        case rel => exact ⟨k + 1, by omega, by go_num, bTrans hb5 hb6, HK⟩
      · have HR : Hid (K = C) := Lib.hid (HK.out.trans (if_neg hC))
        have hC' : (C != 0) = true := by simp [hC]
        clear hC HK
        go_wp2_with fail
        refine HC.out.mono ?_
        rintro e w6 ⟨rfl, hb6⟩
        clear b0 b1 b2 b3
        go_wp2_with fail
        go_ret
        exact ⟨ret_int HR.out.symm, bTrans hb5 hb6⟩
    · have HR : Hid (K = 0) := Lib.hid (by rw [HK.out, List.drop_of_length_le (by simp; omega)]; rfl)
      clear HK
      go_wp2_with fail
      go_ret
      exact ⟨ret_int HR.out.symm, hb⟩

def limB (most least : Int) : Bool := decide (most < -1) || (decide (most ≠ -1) && decide (most < least))
def limR (most least : Int) : Bool := decide (most < -1) || (decide (0 ≤ most) && decide (most < least))
theorem limR_eq (m l : Int) : limR m l = limB m l := by
  unfold limR limB
  rw [Bool.eq_iff_iff]
  simp
  omega
def filBad {D : Nat} (f : FilterOf D) : Bool := decide (f.minS < 0) || decide (f.minA < 0) || decide (f.maxD < 0) || limB f.maxS f.minS || limB f.maxA f.minA
/-- What CheckFilter returns. -/
def ckF {D : Nat} (f : FilterOf D) : Int := if rulesErr f.rules.xs ≠ 0 then rulesErr f.rules.xs else if filBad f then 7 else 0

theorem enters_limit : ∀ args w, (callFunc 36 args).run Tryd.prog w = .ok (.enter 36 args) w := enters_of Tryd.func36 (by kernel_rfl) rfl

set_option maxHeartbeats 1000000 in
theorem limit_any (m l : Int) (w : World) : Calls Tryd.prog 36 #[.int .i64 m, .int .i64 l] w fun e w' => e = .returned (.bool (limB m l)) ∧ w = w' := by
  have HL : Hid (limB m l = (decide (m < -1) || (decide (m ≠ -1) && decide (m < l)))) := Lib.hid rfl
  generalize limB m l = R at *
  by_cases h1 : m < -1
  · have HR : Hid (R = true) := Lib.hid (by rw [HL.out, decide_eq_true h1]; rfl)
    clear HL
    go_enter Tryd.func36, Tryd.ntmps36
    go_wp2_with fail
    go_ret
    exact ⟨ret_bool HR.out.symm, rfl⟩
  by_cases h2 : m = -1
  · have HR : Hid (R = false) := Lib.hid (by rw [HL.out, decide_eq_false h1, decide_eq_false (by omega)]; rfl)
    have hb : (m != -1) = false := by simp [h2]
    clear HL h2
    go_enter Tryd.func36, Tryd.ntmps36
    go_wp2_with fail
    go_ret
    exact ⟨ret_bool HR.out.symm, rfl⟩
  · have hb : (m != -1) = true := by simp [h2]
    have HR : Hid (R = decide (m < l)) := Lib.hid (by rw [HL.out, decide_eq_false h1, decide_eq_true (by omega)]; rfl)
    clear HL h2
    go_enter Tryd.func36, Tryd.ntmps36
    go_wp2_with fail
    go_ret
    exact ⟨ret_bool (by rw [HR.out]), rfl⟩

set_option maxHeartbeats 2000000 in
set_option maxRecDepth 100000 in
theorem checkFilter_any {D : Nat} (f : FilterOf D) (w : World) (hs : RulesOk w D f.rules) :
    Calls Tryd.prog 18 #[.agg (filterArr f)] w fun e w' => e = .returned (.int .i64 (ckF f)) ∧ Below w.heap.size w w' := by
  have hb1 := bAlloc (Below.refl w.heap.size w) (.cells (filterArr f) 36)
  have HX := Lib.hid (BoxIs.new w (filterArr f) 36)
  have HC := Lib.hid (fun W (hb : Below w.heap.size w W) => checkRules_any f.rules W (hs.under hb))
  have HK : Hid (ckF f = if rulesErr f.rules.xs ≠ 0 then rulesErr f.rules.xs else if (decide (f.minS < 0) || decide (f.minA < 0) || decide (f.maxD < 0) || limB f.maxS f.minS || limB f.maxA f.minA) then 7 else 0) := Lib.hid rfl
  generalize ckF f = K at *
  clear hs
  generalize rulesErr f.rules.xs = C at *
  obtain ⟨⟨sa, sc, xs⟩, minS, maxS, minA, maxA, maxD⟩ := f
  simp only [] at *
  have HL1 := Lib.hid (fun W => limit_any maxS minS W)
  have HL2 := Lib.hid (fun W => limit_any maxA minA W)
  generalize limB maxS minS = L1 at *
  generalize limB maxA minA = L2 at *
  go_enter Tryd.func18, Tryd.ntmps18
  go_upto_region 1 with fail
  generalize w.alloc _ = w1 at *
  have c0 := HX.out.cell (j := 0) rfl
  go_wp2_with fail
  refine (HC.out _ hb1).mono ?_
  rintro e w2 ⟨rfl, hb2⟩
  have HX2 := Lib.hid (HX.out.under hb2)
  replace hb2 := bTrans hb1 hb2
  clear c0 HX hb1 HC
  by_cases hC : C = 0
  case neg =>
    have HR : Hid (K = C) := Lib.hid (HK.out.trans (if_pos hC))
    have hC' : (C != 0) = true := by simp [hC]
    clear hC HK
    go_wp2_with fail
    go_ret
    exact ⟨ret_int HR.out.symm, hb2⟩
  subst hC
  replace HK := Lib.hid (HK.out.trans (if_neg (by decide)))
  have c1 := HX2.out.cell (j := 1) rfl
  have c2 := HX2.out.cell (j := 2) rfl
  have c3 := HX2.out.cell (j := 3) rfl
  have c4 := HX2.out.cell (j := 4) rfl
  have c5 := HX2.out.cell (j := 5) rfl
  by_cases h1 : minS < 0
  · have HR : Hid (K = 7) := Lib.hid (by rw [HK.out, decide_eq_true h1]; rfl)
    clear HK
    go_wp2_with fail
    go_ret
    exact ⟨ret_int HR.out.symm, hb2⟩
  by_cases h2 : minA < 0
  · have HR : Hid (K = 7) := Lib.hid (by rw [HK.out, decide_eq_true h2]; simp)
    clear HK
    go_wp2_with fail
    go_ret
    exact ⟨ret_int HR.out.symm, hb2⟩
  by_cases h3 : maxD < 0
  · have HR : Hid (K = 7) := Lib.hid (by rw [HK.out, decide_eq_true h3]; simp)
    clear HK
    go_wp2_with fail
    go_ret
    exact ⟨ret_int HR.out.symm, hb2⟩
  have HK2 : Hid (K = if (L1 || L2) then 7 else 0) := Lib.hid (by rw [HK.out, decide_eq_false h1, decide_eq_false h2, decide_eq_false h3]; rfl)
  clear HK
  cases L1
  · cases L2
    all_goals
      go_wp2_with fail
      refine (HL1.out _).mono ?_
      rintro e w3 ⟨rfl, rfl⟩
      go_wp2_with fail
      refine (HL2.out _).mono ?_
      rintro e w3 ⟨rfl, rfl⟩
      go_wp2_with fail
      go_ret
      exact ⟨ret_int HK2.out.symm, hb2⟩
  · have HR : Hid (K = 7) := Lib.hid (by rw [HK2.out]; rfl)
    clear HK2
    go_wp2_with fail
    refine (HL1.out _).mono ?_
    rintro e w3 ⟨rfl, rfl⟩
    go_wp2_with fail
    go_ret
    exact ⟨ret_int HR.out.symm, hb2⟩

set_option maxHeartbeats 4000000 in
set_option maxRecDepth 100000 in
theorem refCheckFilter_any {D : Nat} (f : FilterOf D) (w : World) (hs : RulesOk w D f.rules) :
    Calls Tryd.prog 17 #[.agg (filterArr f)] w fun e w' => e = .returned (.int .i64 (ckF f)) ∧ Below w.heap.size w w' := by
  have hlen := hs.len
  have hb1 := bAlloc (Below.refl w.heap.size w) (.cells (filterArr f) 36)
  have HX := Lib.hid (BoxIs.new w (filterArr f) 36)
  have HS := Lib.hid hs
  have HK : Hid (ckF f = if rulesErr f.rules.xs ≠ 0 then rulesErr f.rules.xs else if (decide (f.minS < 0) || decide (f.minA < 0) || decide (f.maxD < 0) || limR f.maxS f.minS || limR f.maxA f.minA) then 7 else 0) := Lib.hid (by rw [limR_eq, limR_eq]; rfl)
  have HRu : Hid (rulesErr f.rules.xs = if 200 < f.rules.xs.length then 8 else firstErr (f.rules.xs.map ckR)) := Lib.hid rfl
  generalize ckF f = K at *
  generalize rulesErr f.rules.xs = C0 at *
  clear hs
  obtain ⟨⟨sa, sc, xs⟩, minS, maxS, minA, maxA, maxD⟩ := f
  simp only [] at *
  go_enter Tryd.func17, Tryd.ntmps17
  go_upto_region 1 with fail
  generalize w.alloc _ = w1 at *
  have c0 := HX.out.cell (j := 0) rfl
  by_cases h1 : 200 < xs.length
  · have HR : Hid (K = 8) := Lib.hid (by rw [HK.out, HRu.out, if_pos h1]; rfl)
    clear HK HRu
    go_wp2_with fail
    go_ret
    exact ⟨ret_int HR.out.symm, hb1⟩
  have HR : Hid (C0 = firstErr ((xs.map ckR).drop 0)) := Lib.hid (HRu.out.trans (if_neg h1))
  clear HRu
  obtain ⟨wo, rfl⟩ : ∃ wo : World, wo = w1 := ⟨_, rfl⟩
  go_wp2_with fail
  clear c0
  go_loopg [13] xs.length (fun g i wx => ∃ k : Nat, k + g = xs.length ∧ i = .int .i64 k ∧ Below wo.heap.size wo wx ∧ Hid (C0 = firstErr ((xs.map ckR).drop k)))
  case atStart => exact ⟨0, by omega, rfl, Below.refl _ _, HR⟩
  case round =>
    clear HR
    obtain ⟨k, hk, rfl, hb, HC0⟩ := hrel
    by_cases hlt : k < xs.length
    · obtain ⟨g, rfl⟩ : ∃ g, gk = g + 1 := ⟨gk - 1, by omega⟩
      obtain ⟨r, hx⟩ : ∃ r, xs[k]? = some r := ⟨_, List.getElem?_eq_getElem hlt⟩
      obtain ⟨ba, off, ha, hba, r0, r1, r2, r3⟩ := ruleRow ((HS.out.under (bTrans hb1 hb)).1) hx
      have hmem := List.mem_of_getElem? hx
      rw [firstErr_step (e := ckR r) (by rw [List.getElem?_map, hx]; rfl)] at HC0
      have hbx := bAlloc (Below.refl wr.heap.size wr) (.cells (ruleArr r) 56)
      have HXr := Lib.hid (BoxIs.new wr (ruleArr r) 56)
      have HC := Lib.hid (refCheckGlob_any D r.parts r.rooted r.dirs _ (((HS.out.under (bTrans hb1 (bTrans hb hbx))).2.1 r hmem)) (HS.out.sz hmem))
      change Hid (Calls _ _ _ _ fun e w' => e = .returned (.int .i64 (ckR r)) ∧ _) at HC
      generalize ckR r = C at *
      have hb5 := bTrans hb hbx
      simp only [] at ha
      subst ha
      clear hx hmem hbx
      go_upto_region 6 with fail
      generalize wr.alloc _ = w5 at *
      obtain ⟨b0, b1, b2, b3⟩ : _ ∧ _ ∧ _ ∧ _ := ⟨HXr.out.cell (j := 0) rfl, HXr.out.cell (j := 1) rfl, HXr.out.cell (j := 2) rfl, HXr.out.cell (j := 3) rfl⟩
      clear r0 r1 r2 r3
      by_cases hC : C = 0
      · subst hC
        replace HC0 := Lib.hid (HC0.out.trans (if_pos rfl))
        go_wp2_with fail
        refine HC.out.mono ?_
        rintro e w6 ⟨rfl, hb6⟩
        clear b0 b1 b2 b3
        go_wp2_with fail
        go_roundg g
        case measure => omega
        case rel => exact ⟨k + 1, by omega, by go_num, bTrans hb5 hb6, HC0⟩
      · have HR : Hid (K = C) := Lib.hid (by
          have h := HC0.out.trans (if_neg hC)
          rw [HK.out, h, if_pos hC])
        have hC' : (C != 0) = true := by simp [hC]
        clear hC HK HC0
        go_wp2_with fail
        refine HC.out.mono ?_
        rintro e w6 ⟨rfl, hb6⟩
        clear b0 b1 b2 b3
        go_wp2_with fail
        go_ret
        exact ⟨ret_int HR.out.symm, bTrans hb1 (bTrans hb5 hb6)⟩
    · have HZ : Hid (C0 = 0) := Lib.hid (by rw [HC0.out, List.drop_of_length_le (by simp; omega)]; rfl)
      have HK1 : Hid (K = if (decide (minS < 0) || decide (minA < 0) || decide (maxD < 0) || limR maxS minS || limR maxA minA) then 7 else 0) := Lib.hid (by rw [HK.out, HZ.out]; rfl)
      have HX2 := Lib.hid (HX.out.under hb)
      have hb2 := bTrans hb1 hb
      clear HK HC0 HZ HX
      have c1 := HX2.out.cell (j := 1) rfl
      have c2 := HX2.out.cell (j := 2) rfl
      have c3 := HX2.out.cell (j := 3) rfl
      have c4 := HX2.out.cell (j := 4) rfl
      have c5 := HX2.out.cell (j := 5) rfl
      by_cases h1 : minS < 0
      · have HR : Hid (K = 7) := Lib.hid (by rw [HK1.out, decide_eq_true h1]; rfl)
        clear HK1
        go_wp2_with fail
        go_ret
        exact ⟨ret_int HR.out.symm, hb2⟩
      by_cases h2 : minA < 0
      · have HR : Hid (K = 7) := Lib.hid (by rw [HK1.out, decide_eq_true h2]; simp)
        clear HK1
        go_wp2_with fail
        go_ret
        exact ⟨ret_int HR.out.symm, hb2⟩
      by_cases h3 : maxD < 0
      · have HR : Hid (K = 7) := Lib.hid (by rw [HK1.out, decide_eq_true h3]; simp)
        clear HK1
        go_wp2_with fail
        go_ret
        exact ⟨ret_int HR.out.symm, hb2⟩
      have HK2 : Hid (K = if (limR maxS minS || limR maxA minA) then 7 else 0) := Lib.hid (by rw [HK1.out, decide_eq_false h1, decide_eq_false h2, decide_eq_false h3]; rfl)
      clear HK1
      unfold limR at HK2
      rcases (by omega : maxS < -1 ∨ (¬ maxS < -1 ∧ 0 ≤ maxS ∧ maxS < minS) ∨ (¬ maxS < -1 ∧ 0 ≤ maxS ∧ ¬ maxS < minS) ∨ (¬ maxS < -1 ∧ ¬ 0 ≤ maxS)) with d1 | ⟨d1, d2, d3⟩ | ⟨d1, d2, d3⟩ | ⟨d1, d2⟩
      · have HR : Hid (K = 7) := Lib.hid (by rw [HK2.out, decide_eq_true d1]; rfl)
        clear HK2
        go_wp2_with fail
        go_ret
        exact ⟨ret_int HR.out.symm, hb2⟩
      · have HR : Hid (K = 7) := Lib.hid (by rw [HK2.out, decide_eq_true d2, decide_eq_true d3]; simp)
        clear HK2
        go_wp2_with fail
        go_ret
        exact ⟨ret_int HR.out.symm, hb2⟩
      case' inr.inr.inl => have HK3 : Hid (K = if (decide (maxA < -1) || decide (0 ≤ maxA) && decide (maxA < minA)) then 7 else 0) := Lib.hid (by rw [HK2.out, decide_eq_false d1, decide_eq_false d3]; simp)
      case' inr.inr.inr => have HK3 : Hid (K = if (decide (maxA < -1) || decide (0 ≤ maxA) && decide (maxA < minA)) then 7 else 0) := Lib.hid (by rw [HK2.out, decide_eq_false d1, decide_eq_false d2]; simp)
      all_goals
        clear HK2
        rcases (by omega : maxA < -1 ∨ (¬ maxA < -1 ∧ 0 ≤ maxA ∧ maxA < minA) ∨ (¬ maxA < -1 ∧ 0 ≤ maxA ∧ ¬ maxA < minA) ∨ (¬ maxA < -1 ∧ ¬ 0 ≤ maxA)) with e1 | ⟨e1, e2, e3⟩ | ⟨e1, e2, e3⟩ | ⟨e1, e2⟩
        · have HR : Hid (K = 7) := Lib.hid (by rw [HK3.out, decide_eq_true e1]; rfl)
          clear HK3
          go_wp2_with fail
          go_ret
          exact ⟨ret_int HR.out.symm, hb2⟩
        · have HR : Hid (K = 7) := Lib.hid (by rw [HK3.out, decide_eq_true e2, decide_eq_true e3]; simp)
          clear HK3
          go_wp2_with fail
          go_ret
          exact ⟨ret_int HR.out.symm, hb2⟩
        · have HR : Hid (K = 0) := Lib.hid (by rw [HK3.out, decide_eq_false e1, decide_eq_false e3]; simp)
          clear HK3
          go_wp2_with fail
          go_ret
          exact ⟨ret_int HR.out.symm, hb2⟩
        · have HR : Hid (K = 0) := Lib.hid (by rw [HK3.out, decide_eq_false e1, decide_eq_false e2]; simp)
          clear HK3
          go_wp2_with fail
          go_ret
          exact ⟨ret_int HR.out.symm, hb2⟩
end Go.Proofs.YtnpcbcnclncniaaDoor
