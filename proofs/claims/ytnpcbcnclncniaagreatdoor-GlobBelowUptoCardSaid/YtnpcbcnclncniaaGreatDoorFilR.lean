/-
  The texts Fil1, GlobRow, RowFil, in one.
-/
import Derived.Test.YtnpcbcnclncniaaGreatDoorGlobC
import Derived.Test.YtnpcbcnclncniaaGreatDoorGlobMem
import Derived.OpenShut
namespace Go.Proofs.YtnpcbcnclncniaaGreatDoor
open Go.RowKit

structure RuleOf (D : Nat) where
  inc : Bool
  rooted : Bool
  dirs : Bool
  parts : Sl (P D)
abbrev ruleArr {D : Nat} (r : RuleOf D) : Array Value := #[.bool r.inc, .bool r.rooted, .bool r.dirs, .slice r.parts.a r.parts.xs.length r.parts.c]
def ruleCells {D : Nat} (r : RuleOf D) : List Value := [.bool r.inc, .bool r.rooted, .bool r.dirs, r.parts.val]
structure FilterOf (D : Nat) where
  rules : Sl (RuleOf D)
  minS : Int
  maxS : Int
  minA : Int
  maxA : Int
  maxD : Int
abbrev filterArr {D : Nat} (f : FilterOf D) : Array Value := #[.slice f.rules.a f.rules.xs.length f.rules.c, .int .i64 f.minS, .int .i64 f.maxS, .int .i64 f.minA, .int .i64 f.maxA, .int .i64 f.maxD]
def RulesOk (w : World) (D : Nat) (s : Sl (RuleOf D)) : Prop := SlHolds w 4 ruleCells s ∧ (∀ r ∈ s.xs, SOk w D r.parts) ∧ (s.xs.map (fun r => 1 + szL D r.parts.xs)).sum ≤ 1048576
theorem RulesOk.under {w w' : World} {D : Nat} {s : Sl (RuleOf D)} (h : RulesOk w D s) (hb : Below w.heap.size w w') : RulesOk w' D s := ⟨h.1.under hb, fun r hr => (h.2.1 r hr).under hb, h.2.2⟩
theorem RulesOk.len {w : World} {D : Nat} {s : Sl (RuleOf D)} (h : RulesOk w D s) : s.xs.length ≤ 1048576 := by
  have h1 := sum_mono (xs := s.xs) (f := fun _ => 1) (g := fun r => 1 + szL D r.parts.xs) (fun r _ => by omega)
  rw [sum_ones1] at h1
  exact Nat.le_trans h1 h.2.2
theorem RulesOk.sz {w : World} {D : Nat} {s : Sl (RuleOf D)} (h : RulesOk w D s) {r : RuleOf D} (hr : r ∈ s.xs) : szL D r.parts.xs ≤ 1048576 := by
  have h1 := le_sum (List.mem_map.2 ⟨r, hr, rfl⟩ : (1 + szL D r.parts.xs) ∈ s.xs.map (fun r => 1 + szL D r.parts.xs))
  have h2 := h.2.2
  omega
theorem ruleRow {D : Nat} {w : World} {s : Sl (RuleOf D)} (h : SlHolds w 4 ruleCells s) {k : Nat} {r : RuleOf D} (hk : s.xs[k]? = some r) :
    ∃ b off, s.a = some ⟨b, off, none⟩ ∧ b < w.heap.size ∧ w.cell? ⟨b, off + k * 4, none⟩ = some (.bool r.inc) ∧ w.cell? ⟨b, off + k * 4 + 1, none⟩ = some (.bool r.rooted) ∧ w.cell? ⟨b, off + k * 4 + 2, none⟩ = some (.bool r.dirs) ∧ w.cell? ⟨b, off + k * 4 + 3, none⟩ = some (.slice r.parts.a r.parts.xs.length r.parts.c) := by
  obtain ⟨b, off, ha, hb, hc⟩ := h.1.at (k := k) (row := ruleCells r) (by rw [List.getElem?_map, hk]; rfl)
  exact ⟨b, off, ha, hb, hc 0 _ rfl, hc 1 _ rfl, hc 2 _ rfl, hc 3 _ rfl⟩

def ckR {D : Nat} (r : RuleOf D) : Int := ckG r.rooted r.dirs D r.parts.xs
/-- The error of rules. -/
def rulesErr {D : Nat} (xs : List (RuleOf D)) : Int := if 200 < xs.length then 8 else firstErr (xs.map ckR)

set_option maxHeartbeats 2000000 in
set_option maxRecDepth 100000 in
theorem checkRules_any {D : Nat} (s : Sl (RuleOf D)) (w : World) (hs : RulesOk w D s) :
    Calls Tryz.prog 66 #[.slice s.a s.xs.length s.c] w fun e w' => e = .returned (.int .i64 (rulesErr s.xs)) ∧ Below w.heap.size w w' := by
  have hlen := hs.len
  have HS := Lib.hid hs
  have HK : Hid (rulesErr s.xs = if 200 < s.xs.length then 8 else firstErr (s.xs.map ckR)) := Lib.hid rfl
  generalize rulesErr s.xs = K at *
  clear hs
  obtain ⟨sa, sc, xs⟩ := s
  simp only [] at *
  by_cases h1 : 200 < xs.length
  · have HR : Hid (K = 8) := Lib.hid (HK.out.trans (if_pos h1))
    clear HK
    go_enter Tryz.func66, Tryz.ntmps66
    go_wp2_with fail
    go_ret
    exact ⟨ret_int HR.out.symm, Below.refl _ _⟩
  have HR : Hid (K = firstErr ((xs.map ckR).drop 0)) := Lib.hid (HK.out.trans (if_neg h1))
  clear HK
  go_enter Tryz.func66, Tryz.ntmps66
  go_wp2_with fail
  go_loopg [11] xs.length (fun g i wx => ∃ k : Nat, k + g = xs.length ∧ i = .int .i64 k ∧ Below w.heap.size w wx ∧ Hid (K = firstErr ((xs.map ckR).drop k)))
  case atStart => exact ⟨0, by omega, rfl, Below.refl _ _, HR⟩
  case round =>
    clear HR
    obtain ⟨k, hk, rfl, hb, HK⟩ := hrel
    by_cases hlt : k < xs.length
    · obtain ⟨g, rfl⟩ : ∃ g, gk = g + 1 := ⟨gk - 1, by omega⟩
      obtain ⟨r, hx⟩ : ∃ r, xs[k]? = some r := ⟨_, List.getElem?_eq_getElem hlt⟩
      obtain ⟨ba, off, ha, hba, r0, r1, r2, r3⟩ := ruleRow ((HS.out.under hb).1) hx
      have hmem := List.mem_of_getElem? hx
      rw [firstErr_step (e := ckR r) (by rw [List.getElem?_map, hx]; rfl)] at HK
      have hbx := bAlloc (Below.refl wr.heap.size wr) (.cells (ruleArr r) 74)
      have HX := Lib.hid (BoxIs.new wr (ruleArr r) 74)
      have HC := Lib.hid (checkGlob_any D r.parts r.rooted r.dirs _ (((HS.out.under (bTrans hb hbx)).2.1 r hmem)) (HS.out.sz hmem))
      change Hid (Calls _ _ _ _ fun e w' => e = .returned (.int .i64 (ckR r)) ∧ _) at HC
      generalize ckR r = C at *
      have hb5 := bTrans hb hbx
      simp only [] at ha
      subst ha
      clear hx hmem hbx
      go_upto_region 6 with fail
      generalize wr.alloc _ = w5 at *
      obtain ⟨b0, b1, b2, b3⟩ : _ ∧ _ ∧ _ ∧ _ := ⟨HX.out.cell (j := 0) rfl, HX.out.cell (j := 1) rfl, HX.out.cell (j := 2) rfl, HX.out.cell (j := 3) rfl⟩
      clear r0 r1 r2 r3
      by_cases hC : C = 0
      · subst hC
        replace HK := Lib.hid (HK.out.trans (if_pos rfl))
        go_wp2_with fail
        refine HC.out.mono ?_
        rintro e w6 ⟨rfl, hb6⟩
        clear b0 b1 b2 b3
        go_wp2_with fail
        go_roundg g
        case measure => omega
        case rel => exact ⟨k + 1, by omega, by go_num, bTrans hb5 hb6, HK⟩
      · have HR : Hid (K = C) := Lib.hid (HK.out.trans (if_neg hC))
        have hC' : (C != 0) = true := by simp [hC]
        clear hC HK
        go_wp2_with fail
        refine HC.out.mono ?_
        rintro e w6 ⟨rfl, hb6⟩
        clear b0 b1 b2 b3
        go_wp2_with fail
        go_ret
        exact ⟨ret_int HR.out.symm, bTrans hb5 hb6⟩
    · have HR : Hid (K = 0) := Lib.hid (by rw [HK.out, List.drop_of_length_le (by simp; omega)]; rfl)
      clear HK
      go_wp2_with fail
      go_ret
      exact ⟨ret_int HR.out.symm, hb⟩

def limB (most least : Int) : Bool := decide (most < -1) || (decide (most ≠ -1) && decide (most < least))
def limR (most least : Int) : Bool := decide (most < -1) || (decide (0 ≤ most) && decide (most < least))
theorem limR_eq (m l : Int) : limR m l = limB m l := by
  unfold limR limB
  rw [Bool.eq_iff_iff]
  simp
  omega
def filBad {D : Nat} (f : FilterOf D) : Bool := decide (f.minS < 0) || decide (f.minA < 0) || decide (f.maxD < 0) || limB f.maxS f.minS || limB f.maxA f.minA
/-- What CheckFilter returns. -/
def ckF {D : Nat} (f : FilterOf D) : Int := if rulesErr f.rules.xs ≠ 0 then rulesErr f.rules.xs else if filBad f then 7 else 0

theorem enters_limit : ∀ args w, (callFunc 67 args).run Tryz.prog w = .ok (.enter 67 args) w := enters_of Tryz.func67 (by kernel_rfl) rfl

set_option maxHeartbeats 1000000 in
theorem limit_any (m l : Int) (w : World) : Calls Tryz.prog 67 #[.int .i64 m, .int .i64 l] w fun e w' => e = .returned (.bool (limB m l)) ∧ w = w' := by
  have HL : Hid (limB m l = (decide (m < -1) || (decide (m ≠ -1) && decide (m < l)))) := Lib.hid rfl
  generalize limB m l = R at *
  by_cases h1 : m < -1
  · have HR : Hid (R = true) := Lib.hid (by rw [HL.out, decide_eq_true h1]; rfl)
    clear HL
    go_enter Tryz.func67, Tryz.ntmps67
    go_wp2_with fail
    go_ret
    exact ⟨ret_bool HR.out.symm, rfl⟩
  by_cases h2 : m = -1
  · have HR : Hid (R = false) := Lib.hid (by rw [HL.out, decide_eq_false h1, decide_eq_false (by omega)]; rfl)
    have hb : (m != -1) = false := by simp [h2]
    clear HL h2
    go_enter Tryz.func67, Tryz.ntmps67
    go_wp2_with fail
    go_ret
    exact ⟨ret_bool HR.out.symm, rfl⟩
  · have hb : (m != -1) = true := by simp [h2]
    have HR : Hid (R = decide (m < l)) := Lib.hid (by rw [HL.out, decide_eq_false h1, decide_eq_true (by omega)]; rfl)
    clear HL h2
    go_enter Tryz.func67, Tryz.ntmps67
    go_wp2_with fail
    go_ret
    exact ⟨ret_bool (by rw [HR.out]), rfl⟩

set_option maxHeartbeats 2000000 in
set_option maxRecDepth 100000 in
theorem checkFilter_any {D : Nat} (f : FilterOf D) (w : World) (hs : RulesOk w D f.rules) :
    Calls Tryz.prog 32 #[.agg (filterArr f)] w fun e w' => e = .returned (.int .i64 (ckF f)) ∧ Below w.heap.size w w' := by
  have hb1 := bAlloc (Below.refl w.heap.size w) (.cells (filterArr f) 34)
  have HX := Lib.hid (BoxIs.new w (filterArr f) 34)
  have HC := Lib.hid (fun W (hb : Below w.heap.size w W) => checkRules_any f.rules W (hs.under hb))
  have HK : Hid (ckF f = if rulesErr f.rules.xs ≠ 0 then rulesErr f.rules.xs else if (decide (f.minS < 0) || decide (f.minA < 0) || decide (f.maxD < 0) || limB f.maxS f.minS || limB f.maxA f.minA) then 7 else 0) := Lib.hid rfl
  generalize ckF f = K at *
  clear hs
  generalize rulesErr f.rules.xs = C at *
  obtain ⟨⟨sa, sc, xs⟩, minS, maxS, minA, maxA, maxD⟩ := f
  simp only [] at *
  have HL1 := Lib.hid (fun W => limit_any maxS minS W)
  have HL2 := Lib.hid (fun W => limit_any maxA minA W)
  generalize limB maxS minS = L1 at *
  generalize limB maxA minA = L2 at *
  go_enter Tryz.func32, Tryz.ntmps32
  go_upto_region 1 with fail
  generalize w.alloc _ = w1 at *
  have c0 := HX.out.cell (j := 0) rfl
  go_wp2_with fail
  refine (HC.out _ hb1).mono ?_
  rintro e w2 ⟨rfl, hb2⟩
  have HX2 := Lib.hid (HX.out.under hb2)
  replace hb2 := bTrans hb1 hb2
  clear c0 HX hb1 HC
  by_cases hC : C = 0
  case neg =>
    have HR : Hid (K = C) := Lib.hid (HK.out.trans (if_pos hC))
    have hC' : (C != 0) = true := by simp [hC]
    clear hC HK
    go_wp2_with fail
    go_ret
    exact ⟨ret_int HR.out.symm, hb2⟩
  subst hC
  replace HK := Lib.hid (HK.out.trans (if_neg (by decide)))
  have c1 := HX2.out.cell (j := 1) rfl
  have c2 := HX2.out.cell (j := 2) rfl
  have c3 := HX2.out.cell (j := 3) rfl
  have c4 := HX2.out.cell (j := 4) rfl
  have c5 := HX2.out.cell (j := 5) rfl
  by_cases h1 : minS < 0
  · have HR : Hid (K = 7) := Lib.hid (by rw [HK.out, decide_eq_true h1]; rfl)
    clear HK
    go_wp2_with fail
    go_ret
    exact ⟨ret_int HR.out.symm, hb2⟩
  by_cases h2 : minA < 0
  · have HR : Hid (K = 7) := Lib.hid (by rw [HK.out, decide_eq_true h2]; simp)
    clear HK
    go_wp2_with fail
    go_ret
    exact ⟨ret_int HR.out.symm, hb2⟩
  by_cases h3 : maxD < 0
  · have HR : Hid (K = 7) := Lib.hid (by rw [HK.out, decide_eq_true h3]; simp)
    clear HK
    go_wp2_with fail
    go_ret
    exact ⟨ret_int HR.out.symm, hb2⟩
  have HK2 : Hid (K = if (L1 || L2) then 7 else 0) := Lib.hid (by rw [HK.out, decide_eq_false h1, decide_eq_false h2, decide_eq_false h3]; rfl)
  clear HK
  cases L1
  · cases L2
    all_goals
      go_wp2_with fail
      refine (HL1.out _).mono ?_
      rintro e w3 ⟨rfl, rfl⟩
      go_wp2_with fail
      refine (HL2.out _).mono ?_
      rintro e w3 ⟨rfl, rfl⟩
      go_wp2_with fail
      go_ret
      exact ⟨ret_int HK2.out.symm, hb2⟩
  · have HR : Hid (K = 7) := Lib.hid (by rw [HK2.out]; rfl)
    clear HK2
    go_wp2_with fail
    refine (HL1.out _).mono ?_
    rintro e w3 ⟨rfl, rfl⟩
    go_wp2_with fail
    go_ret
    exact ⟨ret_int HR.out.symm, hb2⟩

set_option maxHeartbeats 4000000 in
set_option maxRecDepth 100000 in
theorem refCheckFilter_any {D : Nat} (f : FilterOf D) (w : World) (hs : RulesOk w D f.rules) :
    Calls Tryz.prog 10 #[.agg (filterArr f)] w fun e w' => e = .returned (.int .i64 (ckF f)) ∧ Below w.heap.size w w' := by
  have hlen := hs.len
  have hb1 := bAlloc (Below.refl w.heap.size w) (.cells (filterArr f) 34)
  have HX := Lib.hid (BoxIs.new w (filterArr f) 34)
  have HS := Lib.hid hs
  have HK : Hid (ckF f = if rulesErr f.rules.xs ≠ 0 then rulesErr f.rules.xs else if (decide (f.minS < 0) || decide (f.minA < 0) || decide (f.maxD < 0) || limR f.maxS f.minS || limR f.maxA f.minA) then 7 else 0) := Lib.hid (by rw [limR_eq, limR_eq]; rfl)
  have HRu : Hid (rulesErr f.rules.xs = if 200 < f.rules.xs.length then 8 else firstErr (f.rules.xs.map ckR)) := Lib.hid rfl
  generalize ckF f = K at *
  generalize rulesErr f.rules.xs = C0 at *
  clear hs
  obtain ⟨⟨sa, sc, xs⟩, minS, maxS, minA, maxA, maxD⟩ := f
  simp only [] at *
  go_enter Tryz.func10, Tryz.ntmps10
  go_upto_region 1 with fail
  generalize w.alloc _ = w1 at *
  have c0 := HX.out.cell (j := 0) rfl
  by_cases h1 : 200 < xs.length
  · have HR : Hid (K = 8) := Lib.hid (by rw [HK.out, HRu.out, if_pos h1]; rfl)
    clear HK HRu
    go_wp2_with fail
    go_ret
    exact ⟨ret_int HR.out.symm, hb1⟩
  have HR : Hid (C0 = firstErr ((xs.map ckR).drop 0)) := Lib.hid (HRu.out.trans (if_neg h1))
  clear HRu
  obtain ⟨wo, rfl⟩ : ∃ wo : World, wo = w1 := ⟨_, rfl⟩
  go_wp2_with fail
  clear c0
  go_loopg [13] xs.length (fun g i wx => ∃ k : Nat, k + g = xs.length ∧ i = .int .i64 k ∧ Below wo.heap.size wo wx ∧ Hid (C0 = firstErr ((xs.map ckR).drop k)))
  case atStart => exact ⟨0, by omega, rfl, Below.refl _ _, HR⟩
  case round =>
    clear HR
    obtain ⟨k, hk, rfl, hb, HC0⟩ := hrel
    by_cases hlt : k < xs.length
    · obtain ⟨g, rfl⟩ : ∃ g, gk = g + 1 := ⟨gk - 1, by omega⟩
      obtain ⟨r, hx⟩ : ∃ r, xs[k]? = some r := ⟨_, List.getElem?_eq_getElem hlt⟩
      obtain ⟨ba, off, ha, hba, r0, r1, r2, r3⟩ := ruleRow ((HS.out.under (bTrans hb1 hb)).1) hx
      have hmem := List.mem_of_getElem? hx
      rw [firstErr_step (e := ckR r) (by rw [List.getElem?_map, hx]; rfl)] at HC0
      have hbx := bAlloc (Below.refl wr.heap.size wr) (.cells (ruleArr r) 74)
      have HXr := Lib.hid (BoxIs.new wr (ruleArr r) 74)
      have HC := Lib.hid (refCheckGlob_any D r.parts r.rooted r.dirs _ (((HS.out.under (bTrans hb1 (bTrans hb hbx))).2.1 r hmem)) (HS.out.sz hmem))
      change Hid (Calls _ _ _ _ fun e w' => e = .returned (.int .i64 (ckR r)) ∧ _) at HC
      generalize ckR r = C at *
      have hb5 := bTrans hb hbx
      simp only [] at ha
      subst ha
      clear hx hmem hbx
      go_upto_region 6 with fail
      generalize wr.alloc _ = w5 at *
      obtain ⟨b0, b1, b2, b3⟩ : _ ∧ _ ∧ _ ∧ _ := ⟨HXr.out.cell (j := 0) rfl, HXr.out.cell (j := 1) rfl, HXr.out.cell (j := 2) rfl, HXr.out.cell (j := 3) rfl⟩
      clear r0 r1 r2 r3
      by_cases hC : C = 0
      · subst hC
        replace HC0 := Lib.hid (HC0.out.trans (if_pos rfl))
        go_wp2_with fail
        refine HC.out.mono ?_
        rintro e w6 ⟨rfl, hb6⟩
        clear b0 b1 b2 b3
        go_wp2_with fail
        go_roundg g
        case measure => omega
        case rel => exact ⟨k + 1, by omega, by go_num, bTrans hb5 hb6, HC0⟩
      · have HR : Hid (K = C) := Lib.hid (by
          have h := HC0.out.trans (if_neg hC)
          rw [HK.out, h, if_pos hC])
        have hC' : (C != 0) = true := by simp [hC]
        clear hC HK HC0
        go_wp2_with fail
        refine HC.out.mono ?_
        rintro e w6 ⟨rfl, hb6⟩
        clear b0 b1 b2 b3
        go_wp2_with fail
        go_ret
        exact ⟨ret_int HR.out.symm, bTrans hb1 (bTrans hb5 hb6)⟩
    · have HZ : Hid (C0 = 0) := Lib.hid (by rw [HC0.out, List.drop_of_length_le (by simp; omega)]; rfl)
      have HK1 : Hid (K = if (decide (minS < 0) || decide (minA < 0) || decide (maxD < 0) || limR maxS minS || limR maxA minA) then 7 else 0) := Lib.hid (by rw [HK.out, HZ.out]; rfl)
      have HX2 := Lib.hid (HX.out.under hb)
      have hb2 := bTrans hb1 hb
      clear HK HC0 HZ HX
      have c1 := HX2.out.cell (j := 1) rfl
      have c2 := HX2.out.cell (j := 2) rfl
      have c3 := HX2.out.cell (j := 3) rfl
      have c4 := HX2.out.cell (j := 4) rfl
      have c5 := HX2.out.cell (j := 5) rfl
      by_cases h1 : minS < 0
      · have HR : Hid (K = 7) := Lib.hid (by rw [HK1.out, decide_eq_true h1]; rfl)
        clear HK1
        go_wp2_with fail
        go_ret
        exact ⟨ret_int HR.out.symm, hb2⟩
      by_cases h2 : minA < 0
      · have HR : Hid (K = 7) := Lib.hid (by rw [HK1.out, decide_eq_true h2]; simp)
        clear HK1
        go_wp2_with fail
        go_ret
        exact ⟨ret_int HR.out.symm, hb2⟩
      by_cases h3 : maxD < 0
      · have HR : Hid (K = 7) := Lib.hid (by rw [HK1.out, decide_eq_true h3]; simp)
        clear HK1
        go_wp2_with fail
        go_ret
        exact ⟨ret_int HR.out.symm, hb2⟩
      have HK2 : Hid (K = if (limR maxS minS || limR maxA minA) then 7 else 0) := Lib.hid (by rw [HK1.out, decide_eq_false h1, decide_eq_false h2, decide_eq_false h3]; rfl)
      clear HK1
      unfold limR at HK2
      rcases (by omega : maxS < -1 ∨ (¬ maxS < -1 ∧ 0 ≤ maxS ∧ maxS < minS) ∨ (¬ maxS < -1 ∧ 0 ≤ maxS ∧ ¬ maxS < minS) ∨ (¬ maxS < -1 ∧ ¬ 0 ≤ maxS)) with d1 | ⟨d1, d2, d3⟩ | ⟨d1, d2, d3⟩ | ⟨d1, d2⟩
      · have HR : Hid (K = 7) := Lib.hid (by rw [HK2.out, decide_eq_true d1]; rfl)
        clear HK2
        go_wp2_with fail
        go_ret
        exact ⟨ret_int HR.out.symm, hb2⟩
      · have HR : Hid (K = 7) := Lib.hid (by rw [HK2.out, decide_eq_true d2, decide_eq_true d3]; simp)
        clear HK2
        go_wp2_with fail
        go_ret
        exact ⟨ret_int HR.out.symm, hb2⟩
      case' inr.inr.inl => have HK3 : Hid (K = if (decide (maxA < -1) || decide (0 ≤ maxA) && decide (maxA < minA)) then 7 else 0) := Lib.hid (by rw [HK2.out, decide_eq_false d1, decide_eq_false d3]; simp)
      case' inr.inr.inr => have HK3 : Hid (K = if (decide (maxA < -1) || decide (0 ≤ maxA) && decide (maxA < minA)) then 7 else 0) := Lib.hid (by rw [HK2.out, decide_eq_false d1, decide_eq_false d2]; simp)
      all_goals
        clear HK2
        rcases (by omega : maxA < -1 ∨ (¬ maxA < -1 ∧ 0 ≤ maxA ∧ maxA < minA) ∨ (¬ maxA < -1 ∧ 0 ≤ maxA ∧ ¬ maxA < minA) ∨ (¬ maxA < -1 ∧ ¬ 0 ≤ maxA)) with e1 | ⟨e1, e2, e3⟩ | ⟨e1, e2, e3⟩ | ⟨e1, e2⟩
        · have HR : Hid (K = 7) := Lib.hid (by rw [HK3.out, decide_eq_true e1]; rfl)
          clear HK3
          go_wp2_with fail
          go_ret
          exact ⟨ret_int HR.out.symm, hb2⟩
        · have HR : Hid (K = 7) := Lib.hid (by rw [HK3.out, decide_eq_true e2, decide_eq_true e3]; simp)
          clear HK3
          go_wp2_with fail
          go_ret
          exact ⟨ret_int HR.out.symm, hb2⟩
        · have HR : Hid (K = 0) := Lib.hid (by rw [HK3.out, decide_eq_false e1, decide_eq_false e3]; simp)
          clear HK3
          go_wp2_with fail
          go_ret
          exact ⟨ret_int HR.out.symm, hb2⟩
        · have HR : Hid (K = 0) := Lib.hid (by rw [HK3.out, decide_eq_false e1, decide_eq_false e2]; simp)
          clear HK3
          go_wp2_with fail
          go_ret
          exact ⟨ret_int HR.out.symm, hb2⟩
end Go.Proofs.YtnpcbcnclncniaaGreatDoor
namespace Go.Proofs.YtnpcbcnclncniaaGreatDoor
open Go.ChangeShapes Go.WideShapes Go.ChangeAt Go.RowKit Go.Deep

theorem partOne : ∃ fs : Array Field, Tryz.prog.underlying 92 = some (.struct fs) ∧ oneCellFields Tryz.prog fs = true ∧ fs.size = 5 ∧ Tryz.prog.cellsOf 92 = 5 ∧
    fs.map (·.type) = #[3, 9, 4, 89, 90] :=
  ⟨_, Tryz.underlying92, by kernel_rfl, rfl, by kernel_rfl, by simp⟩
theorem cells_pair : Tryz.prog.cellsOf 95 = 2 := by kernel_rfl
theorem cells_parts : Tryz.prog.cellsOf 22 = 1 := by kernel_rfl

abbrev okI (n : Int) : Prop := -9223372036854775808 ≤ n ∧ n ≤ 9223372036854775807
def RgIn : Type := {r : Int × Int // okI r.1 ∧ okI r.2}

theorem sum_ones {α : Type} : ∀ (xs : List α), (xs.map (fun _ => 1)).sum = xs.length
  | [] => rfl
  | _ :: xs => by
    rw [List.map_cons, List.sum_cons, sum_ones xs, List.length_cons]
    omega

theorem mapSub {α : Type} {p : α → Prop} {w : World} {n : Nat} {cells : α → List Value} {s : Sl {x : α // p x}} (h : SlHolds w n (fun x => cells x.1) s) : SlHolds w n cells ⟨s.a, s.c, s.xs.map (·.1)⟩ ∧ (∀ x ∈ s.xs.map (·.1), p x) ∧ (⟨s.a, s.c, s.xs.map (·.1)⟩ : Sl α).val = s.val := by
  refine ⟨⟨?_, ?_, h.2.2⟩, ?_, ?_⟩
  · show HoldsR w s.a n ((s.xs.map (·.1)).map cells)
    rw [List.map_map]
    exact h.1
  · show (s.xs.map (·.1)).length ≤ s.c
    rw [List.length_map]
    exact h.2.1
  · intro x hx
    obtain ⟨t, _, rfl⟩ := List.mem_map.1 hx
    exact t.2
  · simp [Sl.val]

section
variable {H : Type} {enc : TypeId × Value → H} {w : World}

set_option maxRecDepth 100000 in
theorem open_pairs {fuel : Nat} {cs : List Value} {y : DataW H × List MemPlace} (hf : DataW.trod enc Tryz.prog w 0 (fun _ => true) true fuel 89 cs = some y) :
    ∃ s : Sl (Int × Int), cs = [s.val] ∧ SlHolds w 2 rgCells s ∧ (∀ r ∈ s.xs, okI r.1 ∧ okI r.2) ∧ s.xs.length + 1 ≤ Rows.uptoBulk y.1 := by
  obtain ⟨s, hcs, hs, hbk⟩ := open_sl (α := RgIn) (fun r => rgCells r.1) (fun _ => 1) 2 Tryz.underlying89 cells_pair (by decide) (fun _ => rfl) (fun n vs z _ hl hz => by
    obtain ⟨xs, m, _, hzz, _, hxl, hx⟩ := DataW.trod_array Tryz.underlying95 hz
    match vs, hl with
    | [v0, v1], _ =>
      have h0 := hx 0 (by decide)
      have h1 := hx 1 (by decide)
      rw [cells_int, List.getElem?_eq_getElem (by omega)] at h0 h1
      obtain ⟨m0, u0, _, b0⟩ := DataW.trod_int Tryz.underlying3 h0
      obtain ⟨m1, u1, _, b1⟩ := DataW.trod_int Tryz.underlying3 h1
      simp at u0 u1
      subst u0 u1
      exact ⟨⟨(m0, m1), bounds_i64 b0, bounds_i64 b1⟩, rfl, by rw [hzz]; simp [Rows.uptoBulk]⟩) hf
  obtain ⟨h1, h2, h3⟩ := mapSub (p := fun r : Int × Int => okI r.1 ∧ okI r.2) hs
  refine ⟨_, by rw [h3]; exact hcs, h1, h2, ?_⟩
  rw [sum_ones] at hbk
  show (List.map (·.1) s.xs).length + 1 ≤ _
  rw [List.length_map]
  exact hbk

set_option maxRecDepth 100000 in
theorem open_parts : ∀ (fuel D : Nat), fuel ≤ D → ∀ {cs : List Value} {y : DataW H × List MemPlace}, DataW.trod enc Tryz.prog w 0 (fun _ => true) true fuel 22 cs = some y → ∃ s : Sl (P D), cs = [s.val] ∧ SOk w D s ∧ szL D s.xs + 1 ≤ Rows.uptoBulk y.1 := by
  intro fuel
  induction fuel using Nat.strongRecOn with
  | _ fuel ih =>
    intro D hD cs y hf
    obtain ⟨fs, hs, hone, h5, hC, hty⟩ := partOne
    obtain ⟨s, hcs, hsl, hbk⟩ := open_sl (α := {p : P D // POk w D p}) (fun p => partCells D p.1) (fun p => sz D p.1) 5 Tryz.underlying22 hC (by decide) (fun p => partCells_len D p.1) (fun n vs z hn hl hz => by
      cases D with
      | zero => omega
      | succ D =>
        obtain ⟨ys, n', hn', hzz, _, hyl, hg⟩ := DataW.trod_struct hs hz
        have hfld : ∀ (j : Nat) (f : Field), fs[j]? = some f → ∃ v y', vs[j]? = some v ∧ DataW.trod enc Tryz.prog w 0 (fun _ => true) true n' f.type [v] = some y' ∧ ys[j]? = some y' := by
          intro j f hj
          obtain ⟨ho, hk⟩ := hone_of hone j f hj
          have hjl : j < fs.size := (Array.getElem?_eq_some_iff.1 hj).1
          have h1 := hg j f hj
          rw [ho, hk] at h1
          have hone' : (vs.drop j).take 1 = [vs[j]'(by omega)] := by
            rw [List.drop_eq_getElem_cons (by omega)]
            rfl
          rw [hone'] at h1
          have hys : ys[j]? = some (ys[j]'(by omega)) := List.getElem?_eq_getElem (by omega)
          exact ⟨_, _, List.getElem?_eq_getElem (by omega), h1.trans hys, hys⟩
        obtain ⟨f0, e0, t0⟩ := field_at hty (j := 0) rfl
        obtain ⟨f1, e1, t1⟩ := field_at hty (j := 1) rfl
        obtain ⟨f2, e2, t2⟩ := field_at hty (j := 2) rfl
        obtain ⟨f3, e3, t3⟩ := field_at hty (j := 3) rfl
        obtain ⟨f4, e4, t4⟩ := field_at hty (j := 4) rfl
        obtain ⟨c0, y0, q0, z0, v0⟩ := hfld 0 f0 e0
        obtain ⟨c1, y1, q1, z1, v1⟩ := hfld 1 f1 e1
        obtain ⟨c2, y2, q2, z2, v2⟩ := hfld 2 f2 e2
        obtain ⟨c3, y3, q3, z3, v3⟩ := hfld 3 f3 e3
        obtain ⟨c4, y4, q4, z4, v4⟩ := hfld 4 f4 e4
        rw [t0] at z0
        rw [t1] at z1
        rw [t2] at z2
        rw [t3] at z3
        rw [t4] at z4
        obtain ⟨m0, u0, _, b0⟩ := DataW.trod_int Tryz.underlying3 z0
        obtain ⟨m1, u1, g1, b1⟩ := DataW.trod_string Tryz.underlying9 z1
        obtain ⟨m2, u2, _⟩ := DataW.trod_bool Tryz.underlying4 z2
        obtain ⟨rg, u3, hrg, hrb, k3⟩ := open_pairs z3
        obtain ⟨ws, u4, hws, k4⟩ := open_sl (α := {s : Sl (P D) // SOk w D s}) (fun s => [s.1.val]) (fun s => 1 + szL D s.1.xs) 1 Tryz.underlying90 cells_parts (by decide) (fun _ => rfl) (fun k vs' z' hk hl' hz' => by
          obtain ⟨s, hcs', hs', hk'⟩ := ih k (by omega) D (by omega) hz'
          exact ⟨⟨s, hs'⟩, hcs'.symm, by show 1 + szL D s.xs ≤ _; omega⟩) z4
        obtain ⟨w1, w2, w3⟩ := mapSub (p := fun s : Sl (P D) => SOk w D s) (cells := fun s => [s.val]) hws
        cases u0
        cases u1
        cases u2
        cases u3
        cases u4
        match vs, hl with
        | [d0, d1, d2, d3, d4], _ =>
          simp at q0 q1 q2 q3 q4
          subst q0 q1 q2 q3 q4
          refine ⟨⟨(⟨m0, m1, m2, rg, ⟨ws.a, ws.c, ws.xs.map (·.1)⟩⟩ : PartOf (P D)), ⟨⟨b1, bounds_i64 b0⟩, hrg, hrb, w1, fun s hs => w2 s hs⟩⟩, ?_, ?_⟩
          · show [_, _, _, _, _] = _
            rw [w3]
          · obtain ⟨r0, rfl⟩ : ∃ r0, ys = r0 := ⟨_, rfl⟩
            match ys, hyl.trans h5, hzz, v0, v1, v2, v3, v4 with
            | [x0, x1, x2, x3, x4], _, hzz, v0, v1, v2, v3, v4 =>
              simp at v0 v1 v2 v3 v4
              subst v0 v1 v2 v3 v4
              rw [hzz]
              show szOf (sz D) _ ≤ Rows.uptoBulk x0.1 + (Rows.uptoBulk x1.1 + (Rows.uptoBulk x2.1 + (Rows.uptoBulk x3.1 + (Rows.uptoBulk x4.1 + 0)))) + 1
              have j1 : Rows.uptoBulk x1.1 = m1.size + 1 := by rw [g1, Lib.size_eq]; rfl
              have j4 : (ws.xs.map (fun s => 1 + szL D s.1.xs)).sum + 1 ≤ Rows.uptoBulk x4.1 := k4
              have j5 : (List.map (fun s : Sl (P D) => 1 + (s.xs.map (sz D)).sum) (ws.xs.map (·.1))).sum = (ws.xs.map (fun s => 1 + szL D s.1.xs)).sum := by rw [List.map_map]; rfl
              unfold szOf
              simp only []
              rw [j5]
              omega) hf
    obtain ⟨h1, h2, h3⟩ := mapSub (p := fun q : P D => POk w D q) (cells := partCells D) hsl
    refine ⟨_, by rw [h3]; exact hcs, ⟨h1, h2⟩, ?_⟩
    have e : szL D (s.xs.map (·.1)) = (s.xs.map (fun p => sz D p.1)).sum := by unfold szL; rw [List.map_map]; rfl
    show szL D (s.xs.map (·.1)) + 1 ≤ _
    rw [e]
    exact hbk
end
end Go.Proofs.YtnpcbcnclncniaaGreatDoor
namespace Go.Proofs.YtnpcbcnclncniaaGreatDoor
open Go.ChangeShapes Go.WideShapes Go.ChangeAt Go.RowKit Go.Deep

theorem cells_bool1 : Tryz.prog.cellsOf 4 = 1 := by kernel_rfl
theorem cells_glob3 : Tryz.prog.cellsOf 24 = 3 := by kernel_rfl
theorem cells_rule4 : Tryz.prog.cellsOf 74 = 4 := by kernel_rfl

section
variable {H : Type} {enc : TypeId × Value → H} {w : World}

set_option maxRecDepth 100000 in
theorem open_glob3 {fuel D : Nat} (hD : fuel ≤ D) {cs : List Value} {y : DataW H × List MemPlace} (hl : cs.length = 3) (hf : DataW.trod enc Tryz.prog w 0 (fun _ => true) true fuel 24 cs = some y) :
    ∃ (rooted dirs : Bool) (s : Sl (P D)), cs = [.bool rooted, .bool dirs, s.val] ∧ SOk w D s ∧ szL D s.xs + 1 ≤ Rows.uptoBulk y.1 := by
  obtain ⟨ys, n', hn', hzz, _, hyl, hg⟩ := DataW.trod_struct Tryz.underlying24 hf
  match cs, hl with
  | [c0, c1, c2], _ =>
    match ys, hyl with
    | [x0, x1, x2], _ =>
      have h0 : DataW.trod enc Tryz.prog w 0 (fun _ => true) true n' 4 (([c0, c1, c2].drop 0).take (Tryz.prog.cellsOf 4)) = some x0 := hg 0 _ rfl
      have h1 : DataW.trod enc Tryz.prog w 0 (fun _ => true) true n' 4 (([c0, c1, c2].drop 1).take (Tryz.prog.cellsOf 4)) = some x1 := hg 1 _ rfl
      have h2 : DataW.trod enc Tryz.prog w 0 (fun _ => true) true n' 22 (([c0, c1, c2].drop 2).take (Tryz.prog.cellsOf 22)) = some x2 := hg 2 _ rfl
      rw [cells_bool1] at h0 h1
      rw [cells_parts] at h2
      obtain ⟨m0, u0, _⟩ := DataW.trod_bool Tryz.underlying4 h0
      obtain ⟨m1, u1, _⟩ := DataW.trod_bool Tryz.underlying4 h1
      obtain ⟨s, u2, hs, hk⟩ := open_parts n' D (by omega) h2
      simp at u0 u1 u2
      subst u0 u1 u2
      refine ⟨m0, m1, s, rfl, hs, ?_⟩
      rw [hzz]
      show _ ≤ Rows.uptoBulk x0.1 + (Rows.uptoBulk x1.1 + (Rows.uptoBulk x2.1 + 0)) + 1
      omega

set_option maxRecDepth 100000 in
theorem open_rules {fuel D : Nat} (hD : fuel ≤ D) {cs : List Value} {y : DataW H × List MemPlace} (hf : DataW.trod enc Tryz.prog w 0 (fun _ => true) true fuel 32 cs = some y) :
    ∃ s : Sl (RuleOf D), cs = [s.val] ∧ SlHolds w 4 ruleCells s ∧ (∀ r ∈ s.xs, SOk w D r.parts) ∧ (s.xs.map (fun r => 1 + szL D r.parts.xs)).sum + 1 ≤ Rows.uptoBulk y.1 := by
  obtain ⟨s, hcs, hsl, hbk⟩ := open_sl (α := {r : RuleOf D // SOk w D r.parts}) (fun r => ruleCells r.1) (fun r => 1 + szL D r.1.parts.xs) 4 Tryz.underlying32 cells_rule4 (by decide) (fun _ => rfl) (fun n vs z hn hl hz => by
    obtain ⟨ys, n', hn', hzz, _, hyl, hg⟩ := DataW.trod_struct Tryz.underlying74 hz
    match vs, hl with
    | [c0, c1, c2, c3], _ =>
      match ys, hyl with
      | [x0, x1], _ =>
        have h0 : DataW.trod enc Tryz.prog w 0 (fun _ => true) true n' 4 (([c0, c1, c2, c3].drop 0).take (Tryz.prog.cellsOf 4)) = some x0 := hg 0 _ rfl
        have h1 : DataW.trod enc Tryz.prog w 0 (fun _ => true) true n' 24 (([c0, c1, c2, c3].drop 1).take (Tryz.prog.cellsOf 24)) = some x1 := hg 1 _ rfl
        rw [cells_bool1] at h0
        rw [cells_glob3] at h1
        obtain ⟨m0, u0, _⟩ := DataW.trod_bool Tryz.underlying4 h0
        obtain ⟨rooted, dirs, s, u1, hs, hk⟩ := open_glob3 (D := D) (by omega) rfl h1
        simp at u0 u1
        obtain ⟨e1, e2, e3⟩ := u1
        subst u0 e1 e2 e3
        refine ⟨⟨⟨m0, rooted, dirs, s⟩, hs⟩, rfl, ?_⟩
        rw [hzz]
        show 1 + szL D s.xs ≤ Rows.uptoBulk x0.1 + (Rows.uptoBulk x1.1 + 0) + 1
        omega) hf
  obtain ⟨h1, h2, h3⟩ := mapSub (p := fun r : RuleOf D => SOk w D r.parts) (cells := ruleCells) hsl
  refine ⟨_, by rw [h3]; exact hcs, h1, h2, ?_⟩
  have e : ((s.xs.map (·.1)).map (fun r : RuleOf D => 1 + szL D r.parts.xs)).sum = (s.xs.map (fun r => 1 + szL D r.1.parts.xs)).sum := by rw [List.map_map]; rfl
  show ((s.xs.map (·.1)).map (fun r : RuleOf D => 1 + szL D r.parts.xs)).sum + 1 ≤ _
  rw [e]
  exact hbk
end

/-- An Info that came in. -/
structure InfoOf where
  path : ByteArray
  dir : Bool
  size : Int
  time : Int
  a4 : Option Addr
  n4 : Nat
  c4 : Nat
  a5 : Option Addr
  n5 : Nat
  c5 : Nat
  id : ByteArray
abbrev infoArr (x : InfoOf) : Array Value := #[.string x.path, .bool x.dir, .int .i64 x.size, .int .i64 x.time, .slice x.a4 x.n4 x.c4, .slice x.a5 x.n5 x.c5, .string x.id]

theorem six_of {cs : Array Value} {c0 c1 c2 c3 c4 c5 : Value} (h : cs.size = 6) (h0 : cs[0]? = some c0) (h1 : cs[1]? = some c1) (h2 : cs[2]? = some c2) (h3 : cs[3]? = some c3) (h4 : cs[4]? = some c4) (h5 : cs[5]? = some c5) : cs = #[c0, c1, c2, c3, c4, c5] := by
  apply Array.ext'
  obtain ⟨l⟩ := cs
  match l, h with
  | [d0, d1, d2, d3, d4, d5], _ =>
    simp at h0 h1 h2 h3 h4 h5
    subst h0 h1 h2 h3 h4 h5
    rfl
theorem seven_of {cs : Array Value} {c0 c1 c2 c3 c4 c5 c6 : Value} (h : cs.size = 7) (h0 : cs[0]? = some c0) (h1 : cs[1]? = some c1) (h2 : cs[2]? = some c2) (h3 : cs[3]? = some c3) (h4 : cs[4]? = some c4) (h5 : cs[5]? = some c5) (h6 : cs[6]? = some c6) : cs = #[c0, c1, c2, c3, c4, c5, c6] := by
  apply Array.ext'
  obtain ⟨l⟩ := cs
  match l, h with
  | [d0, d1, d2, d3, d4, d5, d6], _ =>
    simp at h0 h1 h2 h3 h4 h5 h6
    subst h0 h1 h2 h3 h4 h5 h6
    rfl

theorem filterOne : ∃ fs : Array Field, Tryz.prog.underlying 34 = some (.struct fs) ∧ oneCellFields Tryz.prog fs = true ∧ fs.size = 6 ∧ Tryz.prog.cellsOf 34 = fs.size ∧
    fs.map (·.type) = #[32, 3, 3, 3, 3, 3] :=
  ⟨_, Tryz.underlying34, by kernel_rfl, rfl, by kernel_rfl, by simp⟩
theorem infoOne : ∃ fs : Array Field, Tryz.prog.underlying 38 = some (.struct fs) ∧ oneCellFields Tryz.prog fs = true ∧ fs.size = 7 ∧ Tryz.prog.cellsOf 38 = fs.size ∧
    fs.map (·.type) = #[9, 4, 3, 3, 35, 36, 9] :=
  ⟨_, Tryz.underlying38, by kernel_rfl, rfl, by kernel_rfl, by simp⟩

theorem upto_hd {H : Type} {d : DataW H} {ds : List (DataW H)} (hk : Rows.uptoSmall H (d :: ds) = true) : Rows.uptoBulk d ≤ 1048576 := by
  have := upto_bound hk
  rw [Rows.uptoBulkAll] at this
  omega
theorem upto_tl {H : Type} {d : DataW H} {ds : List (DataW H)} (hk : Rows.uptoSmall H (d :: ds) = true) : Rows.uptoSmall H ds = true := by
  have := upto_bound hk
  rw [Rows.uptoBulkAll] at this
  exact decide_eq_true (by omega)

section
variable {H : Type} {enc : TypeId × Value → H} {w : World} {b0 : Nat} {r : Reach}

set_option maxRecDepth 100000 in
theorem open_filter {v : Value} {d : DataW H} {p : List MemPlace} (hv : Value.okWide Tryz.prog w r b0 34 v) (h : DataW.Trod enc Tryz.prog w 0 (fun _ => true) true 34 v d p) :
    ∃ (D : Nat) (f : FilterOf D), v = .agg (filterArr f) ∧ SlHolds w 4 ruleCells f.rules ∧ (∀ r ∈ f.rules.xs, SOk w D r.parts) ∧ (f.rules.xs.map (fun r => 1 + szL D r.parts.xs)).sum + 1 ≤ Rows.uptoBulk d := by
  obtain ⟨fs, hs, hone, h6, hC, hty⟩ := filterOne
  obtain ⟨cs, ys, n, rfl, hcs, hd, hyl, hg⟩ := open_struct hs hone hC hv h
  obtain ⟨f0, e0, t0⟩ := field_at hty (j := 0) rfl
  obtain ⟨f1, e1, t1⟩ := field_at hty (j := 1) rfl
  obtain ⟨f2, e2, t2⟩ := field_at hty (j := 2) rfl
  obtain ⟨f3, e3, t3⟩ := field_at hty (j := 3) rfl
  obtain ⟨f4, e4, t4⟩ := field_at hty (j := 4) rfl
  obtain ⟨f5, e5, t5⟩ := field_at hty (j := 5) rfl
  obtain ⟨c0, y0, q0, v0, z0⟩ := hg 0 f0 e0
  obtain ⟨c1, y1, q1, v1, z1⟩ := hg 1 f1 e1
  obtain ⟨c2, y2, q2, v2, z2⟩ := hg 2 f2 e2
  obtain ⟨c3, y3, q3, v3, z3⟩ := hg 3 f3 e3
  obtain ⟨c4, y4, q4, v4, z4⟩ := hg 4 f4 e4
  obtain ⟨c5, y5, q5, v5, z5⟩ := hg 5 f5 e5
  rw [t0] at z0
  rw [t1] at z1
  rw [t2] at z2
  rw [t3] at z3
  rw [t4] at z4
  rw [t5] at z5
  obtain ⟨s, u0, hsl, hso, hk⟩ := open_rules (Nat.le_refl n) z0
  obtain ⟨m1, u1, _, _⟩ := DataW.trod_int Tryz.underlying3 z1
  obtain ⟨m2, u2, _, _⟩ := DataW.trod_int Tryz.underlying3 z2
  obtain ⟨m3, u3, _, _⟩ := DataW.trod_int Tryz.underlying3 z3
  obtain ⟨m4, u4, _, _⟩ := DataW.trod_int Tryz.underlying3 z4
  obtain ⟨m5, u5, _, _⟩ := DataW.trod_int Tryz.underlying3 z5
  cases u0
  cases u1
  cases u2
  cases u3
  cases u4
  cases u5
  refine ⟨n, ⟨s, m1, m2, m3, m4, m5⟩, ?_, hsl, hso, ?_⟩
  · rw [six_of (hcs.trans h6) q0 q1 q2 q3 q4 q5]
  · match ys, hyl.trans h6, v0 with
    | [x0, x1, x2, x3, x4, x5], _, v0 =>
      simp at v0
      subst v0
      rw [hd]
      show _ ≤ Rows.uptoBulk x0.1 + (Rows.uptoBulk x1.1 + (Rows.uptoBulk x2.1 + (Rows.uptoBulk x3.1 + (Rows.uptoBulk x4.1 + (Rows.uptoBulk x5.1 + 0))))) + 1
      simp only [] at hk ⊢
      omega

set_option maxRecDepth 100000 in
theorem open_info {v : Value} {d : DataW H} {p : List MemPlace} (hv : Value.okWide Tryz.prog w r b0 38 v) (h : DataW.Trod enc Tryz.prog w 0 (fun _ => true) true 38 v d p) :
    ∃ x : InfoOf, v = .agg (infoArr x) ∧ x.path.size ≤ maxLen ∧ okI x.size ∧ okI x.time ∧ x.path.size + 1 ≤ Rows.uptoBulk d := by
  obtain ⟨fs, hs, hone, h6, hC, hty⟩ := infoOne
  obtain ⟨cs, ys, n, rfl, hcs, hd, hyl, hg⟩ := open_struct hs hone hC hv h
  obtain ⟨f0, e0, t0⟩ := field_at hty (j := 0) rfl
  obtain ⟨f1, e1, t1⟩ := field_at hty (j := 1) rfl
  obtain ⟨f2, e2, t2⟩ := field_at hty (j := 2) rfl
  obtain ⟨f3, e3, t3⟩ := field_at hty (j := 3) rfl
  obtain ⟨f4, e4, t4⟩ := field_at hty (j := 4) rfl
  obtain ⟨f5, e5, t5⟩ := field_at hty (j := 5) rfl
  obtain ⟨f6, e6, t6⟩ := field_at hty (j := 6) rfl
  obtain ⟨c0, y0, q0, v0, z0⟩ := hg 0 f0 e0
  obtain ⟨c1, y1, q1, v1, z1⟩ := hg 1 f1 e1
  obtain ⟨c2, y2, q2, v2, z2⟩ := hg 2 f2 e2
  obtain ⟨c3, y3, q3, v3, z3⟩ := hg 3 f3 e3
  obtain ⟨c4, y4, q4, v4, z4⟩ := hg 4 f4 e4
  obtain ⟨c5, y5, q5, v5, z5⟩ := hg 5 f5 e5
  obtain ⟨c6, y6, q6, v6, z6⟩ := hg 6 f6 e6
  rw [t0] at z0
  rw [t1] at z1
  rw [t2] at z2
  rw [t3] at z3
  rw [t4] at z4
  rw [t5] at z5
  rw [t6] at z6
  obtain ⟨m0, u0, g0, b0⟩ := DataW.trod_string Tryz.underlying9 z0
  obtain ⟨m1, u1, _⟩ := DataW.trod_bool Tryz.underlying4 z1
  obtain ⟨m2, u2, _, b2⟩ := DataW.trod_int Tryz.underlying3 z2
  obtain ⟨m3, u3, _, b3⟩ := DataW.trod_int Tryz.underlying3 z3
  obtain ⟨a4, n4, k4, u4⟩ : ∃ a n c, [c4] = [Value.slice a n c] := by
    rcases DataW.trod_slice Tryz.underlying35 z4 with ⟨u, _⟩ | ⟨a, len, cap, elems, rest, n, _, u, _⟩
    · exact ⟨_, _, _, u⟩
    · exact ⟨_, _, _, u⟩
  obtain ⟨a5, n5, k5, u5⟩ : ∃ a n c, [c5] = [Value.slice a n c] := by
    rcases DataW.trod_slice Tryz.underlying36 z5 with ⟨u, _⟩ | ⟨a, len, cap, elems, rest, n, _, u, _⟩
    · exact ⟨_, _, _, u⟩
    · exact ⟨_, _, _, u⟩
  obtain ⟨m6, u6, _, _⟩ := DataW.trod_string Tryz.underlying9 z6
  cases u0
  cases u1
  cases u2
  cases u3
  cases u4
  cases u5
  cases u6
  refine ⟨⟨m0, m1, m2, m3, a4, n4, k4, a5, n5, k5, m6⟩, ?_, b0, bounds_i64 b2, bounds_i64 b3, ?_⟩
  · rw [seven_of (hcs.trans h6) q0 q1 q2 q3 q4 q5 q6]
  · match ys, hyl.trans h6, v0 with
    | [x0, x1, x2, x3, x4, x5, x6], _, v0 =>
      simp at v0
      subst v0
      rw [hd]
      have j1 : Rows.uptoBulk x0.1 = m0.size + 1 := by rw [g0, Lib.size_eq]; rfl
      show _ ≤ Rows.uptoBulk x0.1 + (Rows.uptoBulk x1.1 + (Rows.uptoBulk x2.1 + (Rows.uptoBulk x3.1 + (Rows.uptoBulk x4.1 + (Rows.uptoBulk x5.1 + (Rows.uptoBulk x6.1 + 0)))))) + 1
      simp only []
      omega

set_option maxRecDepth 100000 in
theorem open_glob {v : Value} {d : DataW H} {p : List MemPlace} (hv : Value.okWide Tryz.prog w r b0 24 v) (h : DataW.Trod enc Tryz.prog w 0 (fun _ => true) true 24 v d p) :
    ∃ (D : Nat) (rooted dirs : Bool) (s : Sl (P D)), v = .agg #[.bool rooted, .bool dirs, .slice s.a s.xs.length s.c] ∧ SOk w D s ∧ szL D s.xs + 1 ≤ Rows.uptoBulk d := by
  obtain ⟨cs, rfl, hsz⟩ := okWide_struct Tryz.underlying24 hv
  obtain ⟨fuel, hf⟩ := h
  obtain ⟨rooted, dirs, s, hc, hs, hk⟩ := open_glob3 (Nat.le_refl fuel) (by show cs.toList.length = 3; rw [Array.length_toList, hsz, cells_glob3]) hf
  refine ⟨fuel, rooted, dirs, s, ?_, hs, hk⟩
  have hc : cs.toList = [.bool rooted, .bool dirs, s.val] := hc
  congr 1
  exact Array.toList_inj.1 hc
end
end Go.Proofs.YtnpcbcnclncniaaGreatDoor
