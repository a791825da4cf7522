/-
  both.Changes.
-/
import Derived.Test.YtiliijiohmeagaaGreatDoorChg3
import Derived.Test.YtiliijiohmeagaaGreatDoorChg1
namespace Wh
/-- P164: the error of two lists of marks. -/
def chgErr (y : Int) (o n : List Mark) : Int := if decide (1 ≤ y ∧ y ≤ 3) then (if rising o then (if rising n then 0 else 10) else 10) else 5
/-- P164: the changes. -/
def chgOut (y : Int) (o n : List Mark) : List Change := if chgErr y o n = 0 then mergeC y (o.length + n.length) o n else []
theorem chgOut_bad {y : Int} {o n : List Mark} (h : chgErr y o n ≠ 0) : chgOut y o n = [] := if_neg h
end Wh
namespace Go.Proofs.YtiliijiohmeagaaGreatDoor
open Go.RowKit

theorem holdsTail {w : World} {b o : Nat} {x : Wh.Mark} {xs : List Wh.Mark} (h : HoldsR w (some ⟨b, o, none⟩) 4 ((x :: xs).map markCells)) : HoldsR w (some ⟨b, o + 4, none⟩) 4 (xs.map markCells) := by
  have := h.drop 1
  simpa using this
theorem holdsLast {w : World} {a : Option Addr} {xs : List Wh.Mark} {co : Nat} (hc : xs.length + 1 ≤ co) (h1 : co = 1) : HoldsR w a 4 (xs.map markCells) := by
  obtain rfl : xs = [] := List.length_eq_zero_iff.1 (by omega)
  exact .inl rfl

/-- What both functions return. -/
def ChgPost (out : List Wh.Change) (E : Int) (w : World) (e : Ending) (w' : World) : Prop :=
  ∃ a cap, e = .returned (.tuple #[.slice a out.length cap, .int .i64 E]) ∧ HoldsR w' a 2 (out.map chgCells) ∧ Below w.heap.size w w'

theorem merge_l {y : Int} {g : Nat} {a : Wh.Mark} {oa : List Wh.Mark} {acc M : List Wh.Change} (h : M = acc ++ Wh.mergeC y (g + 1) (a :: oa) []) : M = (acc ++ [⟨3, a.path⟩]) ++ Wh.mergeC y g oa [] := by
  rw [h]; simp [Wh.mergeC, Wh.said]
theorem merge_r {y : Int} {g : Nat} {b : Wh.Mark} {nb : List Wh.Mark} {acc M : List Wh.Change} (h : M = acc ++ Wh.mergeC y (g + 1) [] (b :: nb)) : M = (acc ++ [⟨1, b.path⟩]) ++ Wh.mergeC y g [] nb := by
  rw [h]; simp [Wh.mergeC, Wh.said]
theorem merge_lt {y : Int} {g : Nat} {a b : Wh.Mark} {oa nb : List Wh.Mark} {acc M : List Wh.Change} (hc : Wh.ordB a.path b.path < 0) (h : M = acc ++ Wh.mergeC y (g + 1) (a :: oa) (b :: nb)) : M = (acc ++ [⟨3, a.path⟩]) ++ Wh.mergeC y g oa (b :: nb) := by
  rw [h]; simp [Wh.mergeC, Wh.said, hc]
theorem merge_gt {y : Int} {g : Nat} {a b : Wh.Mark} {oa nb : List Wh.Mark} {acc M : List Wh.Change} (hc : 0 < Wh.ordB a.path b.path) (h : M = acc ++ Wh.mergeC y (g + 1) (a :: oa) (b :: nb)) : M = (acc ++ [⟨1, b.path⟩]) ++ Wh.mergeC y g (a :: oa) nb := by
  have hn : ¬ Wh.ordB a.path b.path < 0 := by omega
  rw [h]; simp [Wh.mergeC, Wh.said, hc, hn]
theorem merge_eq {y : Int} {g : Nat} {a b : Wh.Mark} {oa nb : List Wh.Mark} {acc M : List Wh.Change} (hc : Wh.ordB a.path b.path = 0) (hd : Wh.differM a b y = true) (h : M = acc ++ Wh.mergeC y (g + 1) (a :: oa) (b :: nb)) : M = (acc ++ [⟨2, b.path⟩]) ++ Wh.mergeC y g oa nb := by
  rw [h]; simp [Wh.mergeC, Wh.said, hc, hd]
theorem merge_no {y : Int} {g : Nat} {a b : Wh.Mark} {oa nb : List Wh.Mark} {acc M : List Wh.Change} (hc : Wh.ordB a.path b.path = 0) (hd : Wh.differM a b y = false) (h : M = acc ++ Wh.mergeC y (g + 1) (a :: oa) (b :: nb)) : M = acc ++ Wh.mergeC y g oa nb := by
  rw [h]; simp [Wh.mergeC, Wh.said, hc, hd]
/-- One step more than is left on both sides. -/
theorem merge_fuel (y : Int) : ∀ (g : Nat) (o n : List Wh.Mark), o.length + n.length ≤ g → Wh.mergeC y (g + 1) o n = Wh.mergeC y g o n
  | 0, o, n, h => by
    have h1 : o = [] := List.length_eq_zero_iff.1 (by omega)
    have h2 : n = [] := List.length_eq_zero_iff.1 (by omega)
    subst h1 h2
    rfl
  | g + 1, [], [], _ => rfl
  | g + 1, [], b :: nb, h => by
    rw [Wh.mergeC, merge_fuel y g [] nb (by simp at h ⊢; omega), Wh.mergeC]
  | g + 1, a :: oa, [], h => by
    rw [Wh.mergeC, merge_fuel y g oa [] (by simp at h ⊢; omega), Wh.mergeC]
  | g + 1, a :: oa, b :: nb, h => by
    rw [Wh.mergeC, merge_fuel y g oa (b :: nb) (by simp at h ⊢; omega), merge_fuel y g (a :: oa) nb (by simp at h ⊢; omega), merge_fuel y g oa nb (by simp at h ⊢; omega)]
    simp only [Wh.mergeC]

theorem markAt_row {w : World} {b o : Nat} {x : Wh.Mark} {xs : List Wh.Mark} (h : HoldsR w (some ⟨b, o, none⟩) 4 ((x :: xs).map markCells)) : MarkAt w (some ⟨b, o, none⟩) (some x) := by
  obtain ⟨b', o', e, hb, h0, h1, h2, h3⟩ := markRow h (k := 0) rfl
  injection e with e
  injection e with e1 e2
  subst e1 e2
  simp only [Nat.zero_mul, Nat.add_zero] at h0 h1 h2 h3
  exact ⟨b, o, rfl, hb, h0, h1, h2, h3⟩
theorem holdsSome {w : World} {a : Option Addr} {x : Wh.Mark} {xs : List Wh.Mark} (h : HoldsR w a 4 ((x :: xs).map markCells)) : ∃ b o, a = some ⟨b, o, none⟩ := by
  obtain ⟨b, o, e, _⟩ := markRow h (k := 0) rfl
  exact ⟨b, o, e⟩
theorem MarkAt.under {w w' : World} {p : Option Addr} {m : Option Wh.Mark} (h : MarkAt w p m) (hb : Below w.heap.size w w') : MarkAt w' p m := by
  cases m with
  | none => exact h
  | some x =>
    obtain ⟨b, o, e, hl, h0, h1, h2, h3⟩ := h
    exact ⟨b, o, e, Nat.lt_of_lt_of_le hl hb.size, (hb.cell (p := ⟨b, o, none⟩) hl).trans h0, (hb.cell (p := ⟨b, o + 1, none⟩) hl).trans h1, (hb.cell (p := ⟨b, o + 2, none⟩) hl).trans h2, (hb.cell (p := ⟨b, o + 3, none⟩) hl).trans h3⟩

theorem cons_of_pos {α : Type} {l : List α} (h : 0 < l.length) : ∃ x xs, l = x :: xs := by
  cases l with
  | nil => simp at h
  | cons x xs => exact ⟨x, xs, rfl⟩

theorem markCell {w W : World} {b o : Nat} {x : Wh.Mark} (h : MarkAt w (some ⟨b, o, none⟩) (some x)) (hW : Below w.heap.size w W) : W.cell? ⟨b, o, none⟩ = some (.string x.path) := by
  obtain ⟨b', o', e, hl, h0, _⟩ := h
  injection e with e
  injection e with e1 e2
  subst e1 e2
  exact (hW.cell (p := ⟨b, o, none⟩) hl).trans h0

set_option maxHeartbeats 16000000 in
set_option maxRecDepth 100000 in
theorem bothChanges_any (olds nows : List Wh.Mark) (aO aN : Option Addr) (cO cN : Nat) (y : Int) (w : World) (hlO : olds.length ≤ 2932031007317) (hlN : nows.length ≤ 2932031007317) (hcO : olds.length ≤ cO) (hcN : nows.length ≤ cN)
    (hHO : HoldsR w aO 4 (olds.map markCells)) (hHN : HoldsR w aN 4 (nows.map markCells)) (hoO : ∀ x ∈ olds, x.path.size ≤ 9223372036854775807) (hoN : ∀ x ∈ nows, x.path.size ≤ 9223372036854775807) :
    Calls Tryz.prog 13 #[.slice aO olds.length cO, .slice aN nows.length cN, .int .i64 y] w (ChgPost (Wh.chgOut y olds nows) (Wh.chgErr y olds nows) w) := by
  have hE : Wh.chgErr y olds nows = if decide (1 ≤ y ∧ y ≤ 3) then (if Wh.rising olds then (if Wh.rising nows then 0 else 10) else 10) else 5 := rfl
  have HE := Lib.hid hE
  have HOut0 : Hid (Wh.chgErr y olds nows = 0 → Wh.chgOut y olds nows = Wh.mergeC y (olds.length + nows.length) olds nows) := Lib.hid (fun h => if_pos h)
  have HOut1 : Hid (Wh.chgErr y olds nows ≠ 0 → Wh.chgOut y olds nows = []) := Lib.hid Wh.chgOut_bad
  have HRb := Lib.hid (fun W => rightBy_any y W)
  have HRo := Lib.hid (rising_any olds aO cO w hlO hHO hoO)
  have HRn := Lib.hid (fun W (hb : Below w.heap.size w W) => rising_any nows aN cN W hlN (hHN.under hb) hoN)
  have HH := Lib.hid (And.intro hHO hHN)
  have HOk := Lib.hid (And.intro hoO hoN)
  clear hE hHO hHN hoO hoN
  generalize Wh.chgErr y olds nows = E at *
  generalize Wh.chgOut y olds nows = Out at *
  generalize hM : Wh.mergeC y (olds.length + nows.length) olds nows = M at *
  generalize decide (1 ≤ y ∧ y ≤ 3) = by' at *
  generalize Wh.rising olds = rO at *
  generalize Wh.rising nows = rN at *
  generalize hgo : olds.length = LO at *
  generalize hgn : nows.length = LN at *
  have HG := Lib.hid (And.intro hgo (And.intro hgn hM))
  clear hgo hgn hM
  cases by'
  case false =>
    have HK : Hid (E = 5) := Lib.hid (by rw [HE.out]; rfl)
    go_enter Tryz.func13, Tryz.ntmps13
    go_wp2_with (go_at_call 29; refine (HRb.out _).mono ?_; rintro e w' ⟨rfl, rfl⟩)
    go_ret2
    have e1 := HK.out
    subst e1
    have e2 := HOut1.out (by decide)
    subst e2
    exact ⟨none, 0, rfl, .inl rfl, Below.refl _ _⟩
  cases rO
  case false =>
    have HK : Hid (E = 10) := Lib.hid (by rw [HE.out]; rfl)
    go_enter Tryz.func13, Tryz.ntmps13
    go_wp2_with (first | (go_at_call 29; refine (HRb.out _).mono ?_; rintro e w' ⟨rfl, hw'⟩; subst w') | (go_at_call 30; refine HRo.out.mono ?_; rintro e w1 ⟨rfl, hb1⟩))
    go_ret2
    have e1 := HK.out
    subst e1
    have e2 := HOut1.out (by decide)
    subst e2
    exact ⟨none, 0, rfl, .inl rfl, hb1⟩
  cases rN
  case false =>
    have HK : Hid (E = 10) := Lib.hid (by rw [HE.out]; rfl)
    go_enter Tryz.func13, Tryz.ntmps13
    go_wp2_with (first | (go_at_call 29; refine (HRb.out _).mono ?_; rintro e w' ⟨rfl, hw'⟩; subst w') | (go_at_call_of 30 (Value.slice aO LO cO); refine HRo.out.mono ?_; rintro e w1 ⟨rfl, hb1⟩) | (go_at_call 30; refine (HRn.out _ hb1).mono ?_; rintro e w2 ⟨rfl, hb2⟩))
    go_ret2
    have e1 := HK.out
    subst e1
    have e2 := HOut1.out (by decide)
    subst e2
    exact ⟨none, 0, rfl, .inl rfl, bTrans hb1 hb2⟩
  have HK : Hid (E = 0) := Lib.hid (by rw [HE.out]; rfl)
  have e1 := HK.out
  subst e1
  have e2 := HOut0.out rfl
  subst e2
  clear HOut0 HOut1 HK HE
  go_enter Tryz.func13, Tryz.ntmps13
  go_wp2_with (first | (go_at_call 29; refine (HRb.out _).mono ?_; rintro e w' ⟨rfl, hw'⟩; subst w') | (go_at_call_of 30 (Value.slice aO LO cO); refine HRo.out.mono ?_; rintro e w1 ⟨rfl, hb1⟩) | (go_at_call 30; refine (HRn.out _ hb1).mono ?_; rintro e w2 ⟨rfl, hb2⟩))
  have hb12 := bTrans hb1 hb2
  have HO0 : Hid (OwnCh w w2 none 0 []) := Lib.hid (OwnCh.nil hb12)
  go_wp2_with fail
  go_loopg [0, 1, 8] (LO + LN) (fun g s0 s1 s8 wx => ∃ (ao an a : Option Addr) (lo co ln cn cap : Nat) (os ns : List Wh.Mark) (acc : List Wh.Change), s0 = .slice ao lo co ∧ s1 = .slice an ln cn ∧ s8 = .slice a acc.length cap ∧ lo + ln = g ∧ lo ≤ co ∧ ln ≤ cn ∧ acc.length + g ≤ LO + LN ∧
    Hid (lo = os.length ∧ ln = ns.length) ∧ Hid (HoldsR w ao 4 (os.map markCells) ∧ HoldsR w an 4 (ns.map markCells)) ∧ Hid ((∀ x ∈ os, x.path.size ≤ 9223372036854775807) ∧ ∀ x ∈ ns, x.path.size ≤ 9223372036854775807) ∧ Hid (OwnCh w wx a cap acc) ∧ Hid (Out = acc ++ Wh.mergeC y g os ns))
  case atStart => exact ⟨aO, aN, none, LO, cO, LN, cN, 0, olds, nows, [], rfl, rfl, rfl, rfl, hcO, hcN, by simp, Lib.hid ⟨HG.out.1.symm, HG.out.2.1.symm⟩, HH, HOk, HO0, Lib.hid HG.out.2.2.symm⟩
  case round =>
    obtain ⟨ao, an, a, lo, co, ln, cn, cap, os, ns, acc, rfl, rfl, rfl, hg, hlc, hnc, hT, HLn, HR, HPs, HO, HM⟩ := hrel
    clear HRb HRo HRn HH HOk HO0 HG hb1 hb2 hb12
    have hbw := HO.out.below
    by_cases z0 : lo = 0
    · by_cases z1 : ln = 0
      · have HF : Hid (Out = acc) := Lib.hid (by
          have e0 : os = [] := List.length_eq_zero_iff.1 (by have := HLn.out.1; omega)
          have e1 : ns = [] := List.length_eq_zero_iff.1 (by have := HLn.out.2; omega)
          obtain rfl : gk = 0 := by omega
          rw [HM.out, e0, e1]
          simp [Wh.mergeC])
        subst z0 z1
        go_wp2_with fail
        go_ret2
        obtain rfl := HF.out
        exact ⟨a, cap, rfl, HO.out.holds, HO.out.below⟩
      · obtain ⟨x, xs, hxs⟩ := cons_of_pos (l := ns) (by have := HLn.out.2; omega)
        obtain ⟨g, rfl⟩ : ∃ g, gk = g + 1 := ⟨gk - 1, by omega⟩
        have e0 : os = [] := List.length_eq_zero_iff.1 (by have := HLn.out.1; omega)
        subst hxs e0
        obtain ⟨bb, bo, rfl⟩ := holdsSome HR.out.2
        have HX := Lib.hid ((markAt_row HR.out.2).under hbw)
        have HPx := Lib.hid (fun W (hW : Below wr.heap.size wr W) => markCell HX.out hW)
        have HL2 : Hid (ln = xs.length + 1) := Lib.hid HLn.out.2
        have HHx := Lib.hid (holdsTail HR.out.2)
        have HHy := Lib.hid (fun h1 : cn = 1 => holdsLast (w := w) (a := some ⟨bb, bo, none⟩) (xs := xs) (by have := HL2.out; omega) h1)
        have HPr := Lib.hid (fun x' hx' => HPs.out.2 x' (List.mem_cons_of_mem _ hx'))
        have HM2 := Lib.hid (merge_r HM.out)
        have HCo := Lib.hid (fun W (hW : Below wr.heap.size wr W) => changeOf_any none (some ⟨bb, bo, none⟩) none (some x) y W rfl (HX.out.under hW))
        have hpos : 0 < ln := by omega
        have hle : (1 : Int) ≤ (ln : Int) := by omega
        have hacc : acc.length < 5864062014634 := by omega
        subst z0
        clear HR HPs HM HLn z1
        go_wp2_with fail
        have hS : Below wr.heap.size wr wr := Below.refl _ _
        refine wp_region_seq (Below wr.heap.size wr) [(0, true), (1, true), (2, true), (3, true), (4, true), (5, true), (6, true), (7, true), (8, true), (9, true), (10, true)] (by as_aux_lemma => kernel_rfl) (by as_aux_lemma => kernel_rfl) (by decide) (by as_aux_lemma => kernel_rfl) (drB hS) ?_
        intro OPS HOP
        refine seq_take (o := ⟨_, _, _, _, _, _⟩) (v := ?_) (by rw [HOP.out]; rfl) (by rfl) ?_ ?_
        rotate_left 1
        · first | ((intro W _; go_simp) <;> with_reducible rfl) | (intro W hW; have p1 := HPx.out _ hW; (go_simp <;> with_reducible rfl))
        try simp only [Act.put, List.setIfInBounds_toArray, List.set_cons_zero, List.set_cons_succ]
        refine seq_take (o := ⟨_, _, _, _, _, _⟩) (v := ?_) (by rw [HOP.out]; rfl) (by rfl) ?_ ?_
        rotate_left 1
        · first | ((intro W _; go_simp) <;> with_reducible rfl) | (intro W hW; have p1 := HPx.out _ hW; (go_simp <;> with_reducible rfl))
        try simp only [Act.put, List.setIfInBounds_toArray, List.set_cons_zero, List.set_cons_succ]
        refine seq_take (o := ⟨_, _, _, _, _, _⟩) (v := ?_) (by rw [HOP.out]; rfl) (by rfl) ?_ ?_
        rotate_left 1
        · first | ((intro W _; go_simp) <;> with_reducible rfl) | (intro W hW; have p1 := HPx.out _ hW; (go_simp <;> with_reducible rfl))
        try simp only [Act.put, List.setIfInBounds_toArray, List.set_cons_zero, List.set_cons_succ]
        refine seq_take (o := ⟨_, _, _, _, _, _⟩) (v := ?_) (by rw [HOP.out]; rfl) (by rfl) ?_ ?_
        rotate_left 1
        · first | ((intro W _; go_simp) <;> with_reducible rfl) | (intro W hW; have p1 := HPx.out _ hW; (go_simp <;> with_reducible rfl))
        try simp only [Act.put, List.setIfInBounds_toArray, List.set_cons_zero, List.set_cons_succ]
        refine seq_take (o := ⟨_, _, _, _, _, _⟩) (v := ?_) (by rw [HOP.out]; rfl) (by rfl) ?_ ?_
        rotate_left 1
        · first | ((intro W _; go_simp) <;> with_reducible rfl) | (intro W hW; have p1 := HPx.out _ hW; (go_simp <;> with_reducible rfl))
        try simp only [Act.put, List.setIfInBounds_toArray, List.set_cons_zero, List.set_cons_succ]
        refine seq_take (o := ⟨_, _, _, _, _, _⟩) (v := ?_) (by rw [HOP.out]; rfl) (by rfl) ?_ ?_
        rotate_left 1
        · first | ((intro W _; go_simp) <;> with_reducible rfl) | (intro W hW; have p1 := HPx.out _ hW; (go_simp <;> with_reducible rfl))
        try simp only [Act.put, List.setIfInBounds_toArray, List.set_cons_zero, List.set_cons_succ]
        refine seq_take (o := ⟨_, _, _, _, _, _⟩) (v := ?_) (by rw [HOP.out]; rfl) (by rfl) ?_ ?_
        rotate_left 1
        · first | ((intro W _; go_simp) <;> with_reducible rfl) | (intro W hW; have p1 := HPx.out _ hW; (go_simp <;> with_reducible rfl))
        try simp only [Act.put, List.setIfInBounds_toArray, List.set_cons_zero, List.set_cons_succ]
        refine seq_take (o := ⟨_, _, _, _, _, _⟩) (v := ?_) (by rw [HOP.out]; rfl) (by rfl) ?_ ?_
        rotate_left 1
        · first | ((intro W _; go_simp) <;> with_reducible rfl) | (intro W hW; have p1 := HPx.out _ hW; (go_simp <;> with_reducible rfl))
        try simp only [Act.put, List.setIfInBounds_toArray, List.set_cons_zero, List.set_cons_succ]
        refine seq_take (o := ⟨_, _, _, _, _, _⟩) (v := ?_) (by rw [HOP.out]; rfl) (by rfl) ?_ ?_
        rotate_left 1
        · first | ((intro W _; go_simp) <;> with_reducible rfl) | (intro W hW; have p1 := HPx.out _ hW; (go_simp <;> with_reducible rfl))
        try simp only [Act.put, List.setIfInBounds_toArray, List.set_cons_zero, List.set_cons_succ]
        refine seq_take (o := ⟨_, _, _, _, _, _⟩) (v := ?_) (by rw [HOP.out]; rfl) (by rfl) ?_ ?_
        rotate_left 1
        · first | ((intro W _; go_simp) <;> with_reducible rfl) | (intro W hW; have p1 := HPx.out _ hW; (go_simp <;> with_reducible rfl))
        try simp only [Act.put, List.setIfInBounds_toArray, List.set_cons_zero, List.set_cons_succ]
        refine seq_take (o := ⟨_, _, _, _, _, _⟩) (v := ?_) (by rw [HOP.out]; rfl) (by rfl) ?_ ?_
        rotate_left 1
        · first | ((intro W _; go_simp) <;> with_reducible rfl) | (intro W hW; have p1 := HPx.out _ hW; (go_simp <;> with_reducible rfl))
        try simp only [Act.put, List.setIfInBounds_toArray, List.set_cons_zero, List.set_cons_succ]
        refine seq_done ?_
        clear HOP OPS
        replace hS := drB hS
        go_wp2_with (first | (go_at_call 32; refine (HCo.out _ hS).mono ?_; rintro e w4 ⟨rfl, hb4⟩; have HO2 := Lib.hid (HO.out.under (bTrans hS hb4))) | (at_builtin; refine wp_appCh HO2.out ⟨1, x.path⟩ hacc rfl (.tmp 74) (.tmp 78) rfl rfl rfl ?_; intro g3 cap3 w9 hO9))
        all_goals
          go_roundg g
          case measure => omega
          case rel =>
            refine ⟨_, _, _, _, _, _, _, _, [], xs, acc ++ [⟨1, x.path⟩], rfl, rfl, by simp, by omega, by omega, by omega, by simp; omega, Lib.hid ?_, Lib.hid ?_, Lib.hid ?_, Lib.hid hO9, HM2⟩
            · have := HL2.out
              exact ⟨rfl, by omega⟩
            · first | exact ⟨.inl rfl, HHx.out⟩ | exact ⟨.inl rfl, HHy.out (by assumption)⟩
            · exact ⟨fun _ h => absurd h List.not_mem_nil, HPr.out⟩
    · by_cases z1 : ln = 0
      · obtain ⟨x, xs, hxs⟩ := cons_of_pos (l := os) (by have := HLn.out.1; omega)
        obtain ⟨g, rfl⟩ : ∃ g, gk = g + 1 := ⟨gk - 1, by omega⟩
        have e0 : ns = [] := List.length_eq_zero_iff.1 (by have := HLn.out.2; omega)
        subst hxs e0
        obtain ⟨bb, bo, rfl⟩ := holdsSome HR.out.1
        have HX := Lib.hid ((markAt_row HR.out.1).under hbw)
        have HPx := Lib.hid (fun W (hW : Below wr.heap.size wr W) => markCell HX.out hW)
        have HL2 : Hid (lo = xs.length + 1) := Lib.hid HLn.out.1
        have HHx := Lib.hid (holdsTail HR.out.1)
        have HHy := Lib.hid (fun h1 : co = 1 => holdsLast (w := w) (a := some ⟨bb, bo, none⟩) (xs := xs) (by have := HL2.out; omega) h1)
        have HPr := Lib.hid (fun x' hx' => HPs.out.1 x' (List.mem_cons_of_mem _ hx'))
        have HM2 := Lib.hid (merge_l HM.out)
        have HCo := Lib.hid (fun W (hW : Below wr.heap.size wr W) => changeOf_any (some ⟨bb, bo, none⟩) none (some x) none y W (HX.out.under hW) rfl)
        have hpos : 0 < lo := by omega
        have hle : (1 : Int) ≤ (lo : Int) := by omega
        have hacc : acc.length < 5864062014634 := by omega
        subst z1
        clear HR HPs HM HLn z0
        go_wp2_with fail
        have hS : Below wr.heap.size wr wr := Below.refl _ _
        refine wp_region_seq (Below wr.heap.size wr) [(0, true), (1, true), (2, true), (3, true), (4, true), (5, true), (6, true), (7, true), (8, true), (9, true), (10, true)] (by as_aux_lemma => kernel_rfl) (by as_aux_lemma => kernel_rfl) (by decide) (by as_aux_lemma => kernel_rfl) (drB hS) ?_
        intro OPS HOP
        refine seq_take (o := ⟨_, _, _, _, _, _⟩) (v := ?_) (by rw [HOP.out]; rfl) (by rfl) ?_ ?_
        rotate_left 1
        · first | ((intro W _; go_simp) <;> with_reducible rfl) | (intro W hW; have p1 := HPx.out _ hW; (go_simp <;> with_reducible rfl))
        try simp only [Act.put, List.setIfInBounds_toArray, List.set_cons_zero, List.set_cons_succ]
        refine seq_take (o := ⟨_, _, _, _, _, _⟩) (v := ?_) (by rw [HOP.out]; rfl) (by rfl) ?_ ?_
        rotate_left 1
        · first | ((intro W _; go_simp) <;> with_reducible rfl) | (intro W hW; have p1 := HPx.out _ hW; (go_simp <;> with_reducible rfl))
        try simp only [Act.put, List.setIfInBounds_toArray, List.set_cons_zero, List.set_cons_succ]
        refine seq_take (o := ⟨_, _, _, _, _, _⟩) (v := ?_) (by rw [HOP.out]; rfl) (by rfl) ?_ ?_
        rotate_left 1
        · first | ((intro W _; go_simp) <;> with_reducible rfl) | (intro W hW; have p1 := HPx.out _ hW; (go_simp <;> with_reducible rfl))
        try simp only [Act.put, List.setIfInBounds_toArray, List.set_cons_zero, List.set_cons_succ]
        refine seq_take (o := ⟨_, _, _, _, _, _⟩) (v := ?_) (by rw [HOP.out]; rfl) (by rfl) ?_ ?_
        rotate_left 1
        · first | ((intro W _; go_simp) <;> with_reducible rfl) | (intro W hW; have p1 := HPx.out _ hW; (go_simp <;> with_reducible rfl))
        try simp only [Act.put, List.setIfInBounds_toArray, List.set_cons_zero, List.set_cons_succ]
        refine seq_take (o := ⟨_, _, _, _, _, _⟩) (v := ?_) (by rw [HOP.out]; rfl) (by rfl) ?_ ?_
        rotate_left 1
        · first | ((intro W _; go_simp) <;> with_reducible rfl) | (intro W hW; have p1 := HPx.out _ hW; (go_simp <;> with_reducible rfl))
        try simp only [Act.put, List.setIfInBounds_toArray, List.set_cons_zero, List.set_cons_succ]
        refine seq_take (o := ⟨_, _, _, _, _, _⟩) (v := ?_) (by rw [HOP.out]; rfl) (by rfl) ?_ ?_
        rotate_left 1
        · first | ((intro W _; go_simp) <;> with_reducible rfl) | (intro W hW; have p1 := HPx.out _ hW; (go_simp <;> with_reducible rfl))
        try simp only [Act.put, List.setIfInBounds_toArray, List.set_cons_zero, List.set_cons_succ]
        refine seq_take (o := ⟨_, _, _, _, _, _⟩) (v := ?_) (by rw [HOP.out]; rfl) (by rfl) ?_ ?_
        rotate_left 1
        · first | ((intro W _; go_simp) <;> with_reducible rfl) | (intro W hW; have p1 := HPx.out _ hW; (go_simp <;> with_reducible rfl))
        try simp only [Act.put, List.setIfInBounds_toArray, List.set_cons_zero, List.set_cons_succ]
        refine seq_take (o := ⟨_, _, _, _, _, _⟩) (v := ?_) (by rw [HOP.out]; rfl) (by rfl) ?_ ?_
        rotate_left 1
        · first | ((intro W _; go_simp) <;> with_reducible rfl) | (intro W hW; have p1 := HPx.out _ hW; (go_simp <;> with_reducible rfl))
        try simp only [Act.put, List.setIfInBounds_toArray, List.set_cons_zero, List.set_cons_succ]
        refine seq_take (o := ⟨_, _, _, _, _, _⟩) (v := ?_) (by rw [HOP.out]; rfl) (by rfl) ?_ ?_
        rotate_left 1
        · first | ((intro W _; go_simp) <;> with_reducible rfl) | (intro W hW; have p1 := HPx.out _ hW; (go_simp <;> with_reducible rfl))
        try simp only [Act.put, List.setIfInBounds_toArray, List.set_cons_zero, List.set_cons_succ]
        refine seq_take (o := ⟨_, _, _, _, _, _⟩) (v := ?_) (by rw [HOP.out]; rfl) (by rfl) ?_ ?_
        rotate_left 1
        · first | ((intro W _; go_simp) <;> with_reducible rfl) | (intro W hW; have p1 := HPx.out _ hW; (go_simp <;> with_reducible rfl))
        try simp only [Act.put, List.setIfInBounds_toArray, List.set_cons_zero, List.set_cons_succ]
        refine seq_take (o := ⟨_, _, _, _, _, _⟩) (v := ?_) (by rw [HOP.out]; rfl) (by rfl) ?_ ?_
        rotate_left 1
        · first | ((intro W _; go_simp) <;> with_reducible rfl) | (intro W hW; have p1 := HPx.out _ hW; (go_simp <;> with_reducible rfl))
        try simp only [Act.put, List.setIfInBounds_toArray, List.set_cons_zero, List.set_cons_succ]
        refine seq_done ?_
        clear HOP OPS
        replace hS := drB hS
        go_wp2_with (first | (go_at_call 32; refine (HCo.out _ hS).mono ?_; rintro e w4 ⟨rfl, hb4⟩; have HO2 := Lib.hid (HO.out.under (bTrans hS hb4))) | (at_builtin; refine wp_appCh HO2.out ⟨3, x.path⟩ hacc rfl (.tmp 74) (.tmp 78) rfl rfl rfl ?_; intro g3 cap3 w9 hO9))
        all_goals
          go_roundg g
          case measure => omega
          case rel =>
            refine ⟨_, _, _, _, _, _, _, _, xs, [], acc ++ [⟨3, x.path⟩], rfl, rfl, by simp, by omega, by omega, by omega, by simp; omega, Lib.hid ?_, Lib.hid ?_, Lib.hid ?_, Lib.hid hO9, HM2⟩
            · have := HL2.out
              exact ⟨by omega, rfl⟩
            · first | exact ⟨HHx.out, .inl rfl⟩ | exact ⟨HHy.out (by assumption), .inl rfl⟩
            · exact ⟨HPr.out, fun _ h => absurd h List.not_mem_nil⟩
      · obtain ⟨x, xs, hxs⟩ := cons_of_pos (l := os) (by have := HLn.out.1; omega)
        obtain ⟨z, zs, hzs⟩ := cons_of_pos (l := ns) (by have := HLn.out.2; omega)
        obtain ⟨g, rfl⟩ : ∃ g, gk = g + 1 := ⟨gk - 1, by omega⟩
        subst hxs hzs
        obtain ⟨ba, ao', rfl⟩ := holdsSome HR.out.1
        obtain ⟨bb, bo, rfl⟩ := holdsSome HR.out.2
        have HXa := Lib.hid ((markAt_row HR.out.1).under hbw)
        have HXb := Lib.hid ((markAt_row HR.out.2).under hbw)
        have HPa := Lib.hid (fun W (hW : Below wr.heap.size wr W) => markCell HXa.out hW)
        have HPb := Lib.hid (fun W (hW : Below wr.heap.size wr W) => markCell HXb.out hW)
        have HLa : Hid (lo = xs.length + 1) := Lib.hid HLn.out.1
        have HLb : Hid (ln = zs.length + 1) := Lib.hid HLn.out.2
        have HH0a := HR.out.1
        have HH0b := HR.out.2
        have HHa := Lib.hid (holdsTail HR.out.1)
        have HHa1 := Lib.hid (fun h1 : co = 1 => holdsLast (w := w) (a := some ⟨ba, ao', none⟩) (xs := xs) (by have := HLa.out; omega) h1)
        have HHb := Lib.hid (holdsTail HR.out.2)
        have HHb1 := Lib.hid (fun h1 : cn = 1 => holdsLast (w := w) (a := some ⟨bb, bo, none⟩) (xs := zs) (by have := HLb.out; omega) h1)
        have HHA0 := Lib.hid HH0a
        have HHB0 := Lib.hid HH0b
        clear HH0a HH0b
        have HPra := Lib.hid (fun x' hx' => HPs.out.1 x' (List.mem_cons_of_mem _ hx'))
        have HPrb := Lib.hid (fun x' hx' => HPs.out.2 x' (List.mem_cons_of_mem _ hx'))
        have HPs0 := Lib.hid HPs.out
        have HC : Hid (∀ W, Calls Tryz.prog 31 #[.string x.path, .string z.path] W fun e w' => e = .returned (.int .i64 (Wh.ordB x.path z.path)) ∧ ∃ n, w' = W.drewN n) := Lib.hid (fun W => compare_drew x.path z.path W (HPs.out.1 x List.mem_cons_self) (HPs.out.2 z List.mem_cons_self))
        have HMl := Lib.hid (fun h => merge_lt (y := y) (g := g) (oa := xs) (nb := zs) (acc := acc) (M := Out) h HM.out)
        have HMg := Lib.hid (fun h => merge_gt (y := y) (g := g) (oa := xs) (nb := zs) (acc := acc) (M := Out) h HM.out)
        have HMe := Lib.hid (fun h h2 => merge_eq (y := y) (g := g) (oa := xs) (nb := zs) (acc := acc) (M := Out) h h2 HM.out)
        have HMn := Lib.hid (fun h h2 => merge_no (y := y) (g := g) (oa := xs) (nb := zs) (acc := acc) (M := Out) h h2 HM.out)
        have HCa := Lib.hid (fun W (hW : Below wr.heap.size wr W) => changeOf_any (some ⟨ba, ao', none⟩) none (some x) none y W (HXa.out.under hW) rfl)
        have HCb := Lib.hid (fun W (hW : Below wr.heap.size wr W) => changeOf_any none (some ⟨bb, bo, none⟩) none (some z) y W rfl (HXb.out.under hW))
        have HCc := Lib.hid (fun W (hW : Below wr.heap.size wr W) => changeOf_any (some ⟨ba, ao', none⟩) (some ⟨bb, bo, none⟩) (some x) (some z) y W (HXa.out.under hW) (HXb.out.under hW))
        have hcc : Wh.changeOf (some x) (some z) y = if Wh.differM x z y then 2 else 0 := rfl
        rw [hcc] at HCc
        clear hcc
        generalize Wh.ordB x.path z.path = R at *
        generalize Wh.differM x z y = D at *
        have hpa : 0 < lo := by omega
        have hla : (1 : Int) ≤ (lo : Int) := by omega
        have hpb : 0 < ln := by omega
        have hlb : (1 : Int) ≤ (ln : Int) := by omega
        have hacc : acc.length < 5864062014634 := by omega
        clear HR HPs HM HLn
        go_wp2_with fail
        have hS : Below wr.heap.size wr wr := Below.refl _ _
        refine wp_region_seq (Below wr.heap.size wr) [(0, true), (1, true), (2, true), (3, true), (4, true), (5, true), (6, true), (7, true), (8, false), (9, true)] (by as_aux_lemma => kernel_rfl) (by as_aux_lemma => kernel_rfl) (by decide) (by as_aux_lemma => kernel_rfl) (drB hS) ?_
        intro OPS HOP
        refine seq_take (o := ⟨_, _, _, _, _, _⟩) (v := ?_) (by rw [HOP.out]; rfl) (by rfl) ?_ ?_
        rotate_left 1
        · first | ((intro W _; go_simp) <;> with_reducible rfl) | (intro W hW; have p1 := HPa.out _ hW; have p2 := HPb.out _ hW; (go_simp <;> with_reducible rfl))
        try simp only [Act.put, List.setIfInBounds_toArray, List.set_cons_zero, List.set_cons_succ]
        refine seq_take (o := ⟨_, _, _, _, _, _⟩) (v := ?_) (by rw [HOP.out]; rfl) (by rfl) ?_ ?_
        rotate_left 1
        · first | ((intro W _; go_simp) <;> with_reducible rfl) | (intro W hW; have p1 := HPa.out _ hW; have p2 := HPb.out _ hW; (go_simp <;> with_reducible rfl))
        try simp only [Act.put, List.setIfInBounds_toArray, List.set_cons_zero, List.set_cons_succ]
        refine seq_take (o := ⟨_, _, _, _, _, _⟩) (v := ?_) (by rw [HOP.out]; rfl) (by rfl) ?_ ?_
        rotate_left 1
        · first | ((intro W _; go_simp) <;> with_reducible rfl) | (intro W hW; have p1 := HPa.out _ hW; have p2 := HPb.out _ hW; (go_simp <;> with_reducible rfl))
        try simp only [Act.put, List.setIfInBounds_toArray, List.set_cons_zero, List.set_cons_succ]
        refine seq_take (o := ⟨_, _, _, _, _, _⟩) (v := ?_) (by rw [HOP.out]; rfl) (by rfl) ?_ ?_
        rotate_left 1
        · first | ((intro W _; go_simp) <;> with_reducible rfl) | (intro W hW; have p1 := HPa.out _ hW; have p2 := HPb.out _ hW; (go_simp <;> with_reducible rfl))
        try simp only [Act.put, List.setIfInBounds_toArray, List.set_cons_zero, List.set_cons_succ]
        refine seq_take (o := ⟨_, _, _, _, _, _⟩) (v := ?_) (by rw [HOP.out]; rfl) (by rfl) ?_ ?_
        rotate_left 1
        · first | ((intro W _; go_simp) <;> with_reducible rfl) | (intro W hW; have p1 := HPa.out _ hW; have p2 := HPb.out _ hW; (go_simp <;> with_reducible rfl))
        try simp only [Act.put, List.setIfInBounds_toArray, List.set_cons_zero, List.set_cons_succ]
        refine seq_take (o := ⟨_, _, _, _, _, _⟩) (v := ?_) (by rw [HOP.out]; rfl) (by rfl) ?_ ?_
        rotate_left 1
        · first | ((intro W _; go_simp) <;> with_reducible rfl) | (intro W hW; have p1 := HPa.out _ hW; have p2 := HPb.out _ hW; (go_simp <;> with_reducible rfl))
        try simp only [Act.put, List.setIfInBounds_toArray, List.set_cons_zero, List.set_cons_succ]
        refine seq_take (o := ⟨_, _, _, _, _, _⟩) (v := ?_) (by rw [HOP.out]; rfl) (by rfl) ?_ ?_
        rotate_left 1
        · first | ((intro W _; go_simp) <;> with_reducible rfl) | (intro W hW; have p1 := HPa.out _ hW; have p2 := HPb.out _ hW; (go_simp <;> with_reducible rfl))
        try simp only [Act.put, List.setIfInBounds_toArray, List.set_cons_zero, List.set_cons_succ]
        refine seq_take (o := ⟨_, _, _, _, _, _⟩) (v := ?_) (by rw [HOP.out]; rfl) (by rfl) ?_ ?_
        rotate_left 1
        · first | ((intro W _; go_simp) <;> with_reducible rfl) | (intro W hW; have p1 := HPa.out _ hW; have p2 := HPb.out _ hW; (go_simp <;> with_reducible rfl))
        try simp only [Act.put, List.setIfInBounds_toArray, List.set_cons_zero, List.set_cons_succ]
        refine seq_do (o := ⟨_, _, _, _, _, _⟩) (by rw [HOP.out]; rfl) (by rfl) (fun K hK => ?_)
        replace hS := drB hS
        go_wp2_with (go_at_call 31; refine (HC.out _).mono ?_; rintro e w4 ⟨rfl, nd, rfl⟩; replace hS := bDrewN (Below.refl wr.heap.size wr) (1 + nd))
        refine hK.out _ _ hS (fun _ => ?_)
        clear hK K
        try simp only [Act.put, List.setIfInBounds_toArray, List.set_cons_zero, List.set_cons_succ]
        refine seq_take (o := ⟨_, _, _, _, _, _⟩) (v := ?_) (by rw [HOP.out]; rfl) (by rfl) ?_ ?_
        rotate_left 1
        · first | ((intro W _; go_simp) <;> with_reducible rfl) | (intro W hW; have p1 := HPa.out _ hW; have p2 := HPb.out _ hW; (go_simp <;> with_reducible rfl))
        try simp only [Act.put, List.setIfInBounds_toArray, List.set_cons_zero, List.set_cons_succ]
        refine seq_done ?_
        clear HOP OPS HC
        by_cases c1 : R < 0
        · have HM2 := Lib.hid (HMl.out c1)
          have c2 : R ≤ 0 := by omega
          have c3 : ¬ 0 ≤ R := by omega
          clear HMl HMg HMe HMn HCb HCc
          go_wp2_with fail
          refine wp_region_seq (Below wr.heap.size wr) [(0, true), (1, true), (2, true), (3, true), (4, true), (5, true), (6, true), (7, true), (8, true), (9, true), (10, true)] (by as_aux_lemma => kernel_rfl) (by as_aux_lemma => kernel_rfl) (by decide) (by as_aux_lemma => kernel_rfl) (drB hS) ?_
          intro OPS HOP
          refine seq_take (o := ⟨_, _, _, _, _, _⟩) (v := ?_) (by rw [HOP.out]; rfl) (by rfl) ?_ ?_
          rotate_left 1
          · first | ((intro W _; go_simp) <;> with_reducible rfl) | (intro W hW; have p1 := HPa.out _ hW; (go_simp <;> with_reducible rfl))
          try simp only [Act.put, List.setIfInBounds_toArray, List.set_cons_zero, List.set_cons_succ]
          refine seq_take (o := ⟨_, _, _, _, _, _⟩) (v := ?_) (by rw [HOP.out]; rfl) (by rfl) ?_ ?_
          rotate_left 1
          · first | ((intro W _; go_simp) <;> with_reducible rfl) | (intro W hW; have p1 := HPa.out _ hW; (go_simp <;> with_reducible rfl))
          try simp only [Act.put, List.setIfInBounds_toArray, List.set_cons_zero, List.set_cons_succ]
          refine seq_take (o := ⟨_, _, _, _, _, _⟩) (v := ?_) (by rw [HOP.out]; rfl) (by rfl) ?_ ?_
          rotate_left 1
          · first | ((intro W _; go_simp) <;> with_reducible rfl) | (intro W hW; have p1 := HPa.out _ hW; (go_simp <;> with_reducible rfl))
          try simp only [Act.put, List.setIfInBounds_toArray, List.set_cons_zero, List.set_cons_succ]
          refine seq_take (o := ⟨_, _, _, _, _, _⟩) (v := ?_) (by rw [HOP.out]; rfl) (by rfl) ?_ ?_
          rotate_left 1
          · first | ((intro W _; go_simp) <;> with_reducible rfl) | (intro W hW; have p1 := HPa.out _ hW; (go_simp <;> with_reducible rfl))
          try simp only [Act.put, List.setIfInBounds_toArray, List.set_cons_zero, List.set_cons_succ]
          refine seq_take (o := ⟨_, _, _, _, _, _⟩) (v := ?_) (by rw [HOP.out]; rfl) (by rfl) ?_ ?_
          rotate_left 1
          · first | ((intro W _; go_simp) <;> with_reducible rfl) | (intro W hW; have p1 := HPa.out _ hW; (go_simp <;> with_reducible rfl))
          try simp only [Act.put, List.setIfInBounds_toArray, List.set_cons_zero, List.set_cons_succ]
          refine seq_take (o := ⟨_, _, _, _, _, _⟩) (v := ?_) (by rw [HOP.out]; rfl) (by rfl) ?_ ?_
          rotate_left 1
          · first | ((intro W _; go_simp) <;> with_reducible rfl) | (intro W hW; have p1 := HPa.out _ hW; (go_simp <;> with_reducible rfl))
          try simp only [Act.put, List.setIfInBounds_toArray, List.set_cons_zero, List.set_cons_succ]
          refine seq_take (o := ⟨_, _, _, _, _, _⟩) (v := ?_) (by rw [HOP.out]; rfl) (by rfl) ?_ ?_
          rotate_left 1
          · first | ((intro W _; go_simp) <;> with_reducible rfl) | (intro W hW; have p1 := HPa.out _ hW; (go_simp <;> with_reducible rfl))
          try simp only [Act.put, List.setIfInBounds_toArray, List.set_cons_zero, List.set_cons_succ]
          refine seq_take (o := ⟨_, _, _, _, _, _⟩) (v := ?_) (by rw [HOP.out]; rfl) (by rfl) ?_ ?_
          rotate_left 1
          · first | ((intro W _; go_simp) <;> with_reducible rfl) | (intro W hW; have p1 := HPa.out _ hW; (go_simp <;> with_reducible rfl))
          try simp only [Act.put, List.setIfInBounds_toArray, List.set_cons_zero, List.set_cons_succ]
          refine seq_take (o := ⟨_, _, _, _, _, _⟩) (v := ?_) (by rw [HOP.out]; rfl) (by rfl) ?_ ?_
          rotate_left 1
          · first | ((intro W _; go_simp) <;> with_reducible rfl) | (intro W hW; have p1 := HPa.out _ hW; (go_simp <;> with_reducible rfl))
          try simp only [Act.put, List.setIfInBounds_toArray, List.set_cons_zero, List.set_cons_succ]
          refine seq_take (o := ⟨_, _, _, _, _, _⟩) (v := ?_) (by rw [HOP.out]; rfl) (by rfl) ?_ ?_
          rotate_left 1
          · first | ((intro W _; go_simp) <;> with_reducible rfl) | (intro W hW; have p1 := HPa.out _ hW; (go_simp <;> with_reducible rfl))
          try simp only [Act.put, List.setIfInBounds_toArray, List.set_cons_zero, List.set_cons_succ]
          refine seq_take (o := ⟨_, _, _, _, _, _⟩) (v := ?_) (by rw [HOP.out]; rfl) (by rfl) ?_ ?_
          rotate_left 1
          · first | ((intro W _; go_simp) <;> with_reducible rfl) | (intro W hW; have p1 := HPa.out _ hW; (go_simp <;> with_reducible rfl))
          try simp only [Act.put, List.setIfInBounds_toArray, List.set_cons_zero, List.set_cons_succ]
          refine seq_done ?_
          clear HOP OPS
          replace hS := drB hS
          go_wp2_with (first | (go_at_call 32; refine (HCa.out _ hS).mono ?_; rintro e w4 ⟨rfl, hb4⟩; have HO2 := Lib.hid (HO.out.under (bTrans hS hb4))) | (at_builtin; refine wp_appCh HO2.out ⟨3, x.path⟩ hacc rfl (.tmp 74) (.tmp 78) rfl rfl rfl ?_; intro g3 cap3 w9 hO9))
          all_goals
            go_roundg g
            case measure => omega
            case rel =>
              refine ⟨_, _, _, _, _, _, _, _, xs, z :: zs, acc ++ [⟨3, x.path⟩], rfl, rfl, by simp, by omega, by omega, by omega, by first | omega | (simp <;> omega), Lib.hid ?_, Lib.hid ?_, Lib.hid ?_, Lib.hid hO9, HM2⟩
              · have := HLa.out
                have := HLb.out
                exact ⟨by omega, HLb.out⟩
              · first | exact ⟨HHa.out, HHB0.out⟩ | exact ⟨HHa1.out (by assumption), HHB0.out⟩
              · exact ⟨HPra.out, HPs0.out.2⟩
        by_cases c2 : 0 < R
        · have HM2 := Lib.hid (HMg.out c2)
          have c3 : ¬ R ≤ 0 := by omega
          have c4 : 0 ≤ R := by omega
          clear HMl HMg HMe HMn HCa HCc
          go_wp2_with fail
          refine wp_region_seq (Below wr.heap.size wr) [(0, true), (1, true), (2, true), (3, true), (4, true), (5, true), (6, true), (7, true), (8, true), (9, true), (10, true)] (by as_aux_lemma => kernel_rfl) (by as_aux_lemma => kernel_rfl) (by decide) (by as_aux_lemma => kernel_rfl) (drB hS) ?_
          intro OPS HOP
          refine seq_take (o := ⟨_, _, _, _, _, _⟩) (v := ?_) (by rw [HOP.out]; rfl) (by rfl) ?_ ?_
          rotate_left 1
          · first | ((intro W _; go_simp) <;> with_reducible rfl) | (intro W hW; have p1 := HPb.out _ hW; (go_simp <;> with_reducible rfl))
          try simp only [Act.put, List.setIfInBounds_toArray, List.set_cons_zero, List.set_cons_succ]
          refine seq_take (o := ⟨_, _, _, _, _, _⟩) (v := ?_) (by rw [HOP.out]; rfl) (by rfl) ?_ ?_
          rotate_left 1
          · first | ((intro W _; go_simp) <;> with_reducible rfl) | (intro W hW; have p1 := HPb.out _ hW; (go_simp <;> with_reducible rfl))
          try simp only [Act.put, List.setIfInBounds_toArray, List.set_cons_zero, List.set_cons_succ]
          refine seq_take (o := ⟨_, _, _, _, _, _⟩) (v := ?_) (by rw [HOP.out]; rfl) (by rfl) ?_ ?_
          rotate_left 1
          · first | ((intro W _; go_simp) <;> with_reducible rfl) | (intro W hW; have p1 := HPb.out _ hW; (go_simp <;> with_reducible rfl))
          try simp only [Act.put, List.setIfInBounds_toArray, List.set_cons_zero, List.set_cons_succ]
          refine seq_take (o := ⟨_, _, _, _, _, _⟩) (v := ?_) (by rw [HOP.out]; rfl) (by rfl) ?_ ?_
          rotate_left 1
          · first | ((intro W _; go_simp) <;> with_reducible rfl) | (intro W hW; have p1 := HPb.out _ hW; (go_simp <;> with_reducible rfl))
          try simp only [Act.put, List.setIfInBounds_toArray, List.set_cons_zero, List.set_cons_succ]
          refine seq_take (o := ⟨_, _, _, _, _, _⟩) (v := ?_) (by rw [HOP.out]; rfl) (by rfl) ?_ ?_
          rotate_left 1
          · first | ((intro W _; go_simp) <;> with_reducible rfl) | (intro W hW; have p1 := HPb.out _ hW; (go_simp <;> with_reducible rfl))
          try simp only [Act.put, List.setIfInBounds_toArray, List.set_cons_zero, List.set_cons_succ]
          refine seq_take (o := ⟨_, _, _, _, _, _⟩) (v := ?_) (by rw [HOP.out]; rfl) (by rfl) ?_ ?_
          rotate_left 1
          · first | ((intro W _; go_simp) <;> with_reducible rfl) | (intro W hW; have p1 := HPb.out _ hW; (go_simp <;> with_reducible rfl))
          try simp only [Act.put, List.setIfInBounds_toArray, List.set_cons_zero, List.set_cons_succ]
          refine seq_take (o := ⟨_, _, _, _, _, _⟩) (v := ?_) (by rw [HOP.out]; rfl) (by rfl) ?_ ?_
          rotate_left 1
          · first | ((intro W _; go_simp) <;> with_reducible rfl) | (intro W hW; have p1 := HPb.out _ hW; (go_simp <;> with_reducible rfl))
          try simp only [Act.put, List.setIfInBounds_toArray, List.set_cons_zero, List.set_cons_succ]
          refine seq_take (o := ⟨_, _, _, _, _, _⟩) (v := ?_) (by rw [HOP.out]; rfl) (by rfl) ?_ ?_
          rotate_left 1
          · first | ((intro W _; go_simp) <;> with_reducible rfl) | (intro W hW; have p1 := HPb.out _ hW; (go_simp <;> with_reducible rfl))
          try simp only [Act.put, List.setIfInBounds_toArray, List.set_cons_zero, List.set_cons_succ]
          refine seq_take (o := ⟨_, _, _, _, _, _⟩) (v := ?_) (by rw [HOP.out]; rfl) (by rfl) ?_ ?_
          rotate_left 1
          · first | ((intro W _; go_simp) <;> with_reducible rfl) | (intro W hW; have p1 := HPb.out _ hW; (go_simp <;> with_reducible rfl))
          try simp only [Act.put, List.setIfInBounds_toArray, List.set_cons_zero, List.set_cons_succ]
          refine seq_take (o := ⟨_, _, _, _, _, _⟩) (v := ?_) (by rw [HOP.out]; rfl) (by rfl) ?_ ?_
          rotate_left 1
          · first | ((intro W _; go_simp) <;> with_reducible rfl) | (intro W hW; have p1 := HPb.out _ hW; (go_simp <;> with_reducible rfl))
          try simp only [Act.put, List.setIfInBounds_toArray, List.set_cons_zero, List.set_cons_succ]
          refine seq_take (o := ⟨_, _, _, _, _, _⟩) (v := ?_) (by rw [HOP.out]; rfl) (by rfl) ?_ ?_
          rotate_left 1
          · first | ((intro W _; go_simp) <;> with_reducible rfl) | (intro W hW; have p1 := HPb.out _ hW; (go_simp <;> with_reducible rfl))
          try simp only [Act.put, List.setIfInBounds_toArray, List.set_cons_zero, List.set_cons_succ]
          refine seq_done ?_
          clear HOP OPS
          replace hS := drB hS
          go_wp2_with (first | (go_at_call 32; refine (HCb.out _ hS).mono ?_; rintro e w4 ⟨rfl, hb4⟩; have HO2 := Lib.hid (HO.out.under (bTrans hS hb4))) | (at_builtin; refine wp_appCh HO2.out ⟨1, z.path⟩ hacc rfl (.tmp 74) (.tmp 78) rfl rfl rfl ?_; intro g3 cap3 w9 hO9))
          all_goals
            go_roundg g
            case measure => omega
            case rel =>
              refine ⟨_, _, _, _, _, _, _, _, x :: xs, zs, acc ++ [⟨1, z.path⟩], rfl, rfl, by simp, by omega, by omega, by omega, by first | omega | (simp <;> omega), Lib.hid ?_, Lib.hid ?_, Lib.hid ?_, Lib.hid hO9, HM2⟩
              · have := HLa.out
                have := HLb.out
                exact ⟨HLa.out, by omega⟩
              · first | exact ⟨HHA0.out, HHb.out⟩ | exact ⟨HHA0.out, HHb1.out (by assumption)⟩
              · exact ⟨HPs0.out.1, HPrb.out⟩
        · obtain rfl : R = 0 := by omega
          clear c1 c2 HMl HMg HCa HCb
          obtain ⟨g2, rfl⟩ : ∃ g2, g = g2 + 1 := ⟨g - 1, by omega⟩
          have HFu := Lib.hid (merge_fuel y g2 xs zs (by have := HLa.out; have := HLb.out; omega))
          cases D
          · have HM2 := Lib.hid ((HMn.out rfl rfl).trans (by rw [HFu.out]))
            clear HMe HMn
            go_wp2_with fail
            refine wp_region_seq (Below wr.heap.size wr) [(0, true), (1, true), (2, true), (3, true), (4, true), (5, true), (6, true), (7, true), (8, true), (9, true), (10, true)] (by as_aux_lemma => kernel_rfl) (by as_aux_lemma => kernel_rfl) (by decide) (by as_aux_lemma => kernel_rfl) (drB hS) ?_
            intro OPS HOP
            refine seq_take (o := ⟨_, _, _, _, _, _⟩) (v := ?_) (by rw [HOP.out]; rfl) (by rfl) ?_ ?_
            rotate_left 1
            · first | ((intro W _; go_simp) <;> with_reducible rfl) | (intro W hW; have p1 := HPa.out _ hW; (go_simp <;> with_reducible rfl))
            try simp only [Act.put, List.setIfInBounds_toArray, List.set_cons_zero, List.set_cons_succ]
            refine seq_take (o := ⟨_, _, _, _, _, _⟩) (v := ?_) (by rw [HOP.out]; rfl) (by rfl) ?_ ?_
            rotate_left 1
            · first | ((intro W _; go_simp) <;> with_reducible rfl) | (intro W hW; have p1 := HPa.out _ hW; (go_simp <;> with_reducible rfl))
            try simp only [Act.put, List.setIfInBounds_toArray, List.set_cons_zero, List.set_cons_succ]
            refine seq_take (o := ⟨_, _, _, _, _, _⟩) (v := ?_) (by rw [HOP.out]; rfl) (by rfl) ?_ ?_
            rotate_left 1
            · first | ((intro W _; go_simp) <;> with_reducible rfl) | (intro W hW; have p1 := HPa.out _ hW; (go_simp <;> with_reducible rfl))
            try simp only [Act.put, List.setIfInBounds_toArray, List.set_cons_zero, List.set_cons_succ]
            refine seq_take (o := ⟨_, _, _, _, _, _⟩) (v := ?_) (by rw [HOP.out]; rfl) (by rfl) ?_ ?_
            rotate_left 1
            · first | ((intro W _; go_simp) <;> with_reducible rfl) | (intro W hW; have p1 := HPa.out _ hW; (go_simp <;> with_reducible rfl))
            try simp only [Act.put, List.setIfInBounds_toArray, List.set_cons_zero, List.set_cons_succ]
            refine seq_take (o := ⟨_, _, _, _, _, _⟩) (v := ?_) (by rw [HOP.out]; rfl) (by rfl) ?_ ?_
            rotate_left 1
            · first | ((intro W _; go_simp) <;> with_reducible rfl) | (intro W hW; have p1 := HPa.out _ hW; (go_simp <;> with_reducible rfl))
            try simp only [Act.put, List.setIfInBounds_toArray, List.set_cons_zero, List.set_cons_succ]
            refine seq_take (o := ⟨_, _, _, _, _, _⟩) (v := ?_) (by rw [HOP.out]; rfl) (by rfl) ?_ ?_
            rotate_left 1
            · first | ((intro W _; go_simp) <;> with_reducible rfl) | (intro W hW; have p1 := HPa.out _ hW; (go_simp <;> with_reducible rfl))
            try simp only [Act.put, List.setIfInBounds_toArray, List.set_cons_zero, List.set_cons_succ]
            refine seq_take (o := ⟨_, _, _, _, _, _⟩) (v := ?_) (by rw [HOP.out]; rfl) (by rfl) ?_ ?_
            rotate_left 1
            · first | ((intro W _; go_simp) <;> with_reducible rfl) | (intro W hW; have p1 := HPa.out _ hW; (go_simp <;> with_reducible rfl))
            try simp only [Act.put, List.setIfInBounds_toArray, List.set_cons_zero, List.set_cons_succ]
            refine seq_take (o := ⟨_, _, _, _, _, _⟩) (v := ?_) (by rw [HOP.out]; rfl) (by rfl) ?_ ?_
            rotate_left 1
            · first | ((intro W _; go_simp) <;> with_reducible rfl) | (intro W hW; have p1 := HPa.out _ hW; (go_simp <;> with_reducible rfl))
            try simp only [Act.put, List.setIfInBounds_toArray, List.set_cons_zero, List.set_cons_succ]
            refine seq_take (o := ⟨_, _, _, _, _, _⟩) (v := ?_) (by rw [HOP.out]; rfl) (by rfl) ?_ ?_
            rotate_left 1
            · first | ((intro W _; go_simp) <;> with_reducible rfl) | (intro W hW; have p1 := HPa.out _ hW; (go_simp <;> with_reducible rfl))
            try simp only [Act.put, List.setIfInBounds_toArray, List.set_cons_zero, List.set_cons_succ]
            refine seq_take (o := ⟨_, _, _, _, _, _⟩) (v := ?_) (by rw [HOP.out]; rfl) (by rfl) ?_ ?_
            rotate_left 1
            · first | ((intro W _; go_simp) <;> with_reducible rfl) | (intro W hW; have p1 := HPa.out _ hW; (go_simp <;> with_reducible rfl))
            try simp only [Act.put, List.setIfInBounds_toArray, List.set_cons_zero, List.set_cons_succ]
            refine seq_take (o := ⟨_, _, _, _, _, _⟩) (v := ?_) (by rw [HOP.out]; rfl) (by rfl) ?_ ?_
            rotate_left 1
            · first | ((intro W _; go_simp) <;> with_reducible rfl) | (intro W hW; have p1 := HPa.out _ hW; (go_simp <;> with_reducible rfl))
            try simp only [Act.put, List.setIfInBounds_toArray, List.set_cons_zero, List.set_cons_succ]
            refine seq_done ?_
            clear HOP OPS
            replace hS := drB hS
            go_wp2_with fail
            all_goals
              refine wp_region_seq (Below wr.heap.size wr) [(0, true), (1, true), (2, true), (3, true), (4, true), (5, true), (6, true), (7, true), (8, true), (9, true), (10, true)] (by as_aux_lemma => kernel_rfl) (by as_aux_lemma => kernel_rfl) (by decide) (by as_aux_lemma => kernel_rfl) (drB hS) ?_
              intro OPS HOP
              refine seq_take (o := ⟨_, _, _, _, _, _⟩) (v := ?_) (by rw [HOP.out]; rfl) (by rfl) ?_ ?_
              rotate_left 1
              · first | ((intro W _; go_simp) <;> with_reducible rfl) | (intro W hW; have p1 := HPb.out _ hW; (go_simp <;> with_reducible rfl))
              try simp only [Act.put, List.setIfInBounds_toArray, List.set_cons_zero, List.set_cons_succ]
              refine seq_take (o := ⟨_, _, _, _, _, _⟩) (v := ?_) (by rw [HOP.out]; rfl) (by rfl) ?_ ?_
              rotate_left 1
              · first | ((intro W _; go_simp) <;> with_reducible rfl) | (intro W hW; have p1 := HPb.out _ hW; (go_simp <;> with_reducible rfl))
              try simp only [Act.put, List.setIfInBounds_toArray, List.set_cons_zero, List.set_cons_succ]
              refine seq_take (o := ⟨_, _, _, _, _, _⟩) (v := ?_) (by rw [HOP.out]; rfl) (by rfl) ?_ ?_
              rotate_left 1
              · first | ((intro W _; go_simp) <;> with_reducible rfl) | (intro W hW; have p1 := HPb.out _ hW; (go_simp <;> with_reducible rfl))
              try simp only [Act.put, List.setIfInBounds_toArray, List.set_cons_zero, List.set_cons_succ]
              refine seq_take (o := ⟨_, _, _, _, _, _⟩) (v := ?_) (by rw [HOP.out]; rfl) (by rfl) ?_ ?_
              rotate_left 1
              · first | ((intro W _; go_simp) <;> with_reducible rfl) | (intro W hW; have p1 := HPb.out _ hW; (go_simp <;> with_reducible rfl))
              try simp only [Act.put, List.setIfInBounds_toArray, List.set_cons_zero, List.set_cons_succ]
              refine seq_take (o := ⟨_, _, _, _, _, _⟩) (v := ?_) (by rw [HOP.out]; rfl) (by rfl) ?_ ?_
              rotate_left 1
              · first | ((intro W _; go_simp) <;> with_reducible rfl) | (intro W hW; have p1 := HPb.out _ hW; (go_simp <;> with_reducible rfl))
              try simp only [Act.put, List.setIfInBounds_toArray, List.set_cons_zero, List.set_cons_succ]
              refine seq_take (o := ⟨_, _, _, _, _, _⟩) (v := ?_) (by rw [HOP.out]; rfl) (by rfl) ?_ ?_
              rotate_left 1
              · first | ((intro W _; go_simp) <;> with_reducible rfl) | (intro W hW; have p1 := HPb.out _ hW; (go_simp <;> with_reducible rfl))
              try simp only [Act.put, List.setIfInBounds_toArray, List.set_cons_zero, List.set_cons_succ]
              refine seq_take (o := ⟨_, _, _, _, _, _⟩) (v := ?_) (by rw [HOP.out]; rfl) (by rfl) ?_ ?_
              rotate_left 1
              · first | ((intro W _; go_simp) <;> with_reducible rfl) | (intro W hW; have p1 := HPb.out _ hW; (go_simp <;> with_reducible rfl))
              try simp only [Act.put, List.setIfInBounds_toArray, List.set_cons_zero, List.set_cons_succ]
              refine seq_take (o := ⟨_, _, _, _, _, _⟩) (v := ?_) (by rw [HOP.out]; rfl) (by rfl) ?_ ?_
              rotate_left 1
              · first | ((intro W _; go_simp) <;> with_reducible rfl) | (intro W hW; have p1 := HPb.out _ hW; (go_simp <;> with_reducible rfl))
              try simp only [Act.put, List.setIfInBounds_toArray, List.set_cons_zero, List.set_cons_succ]
              refine seq_take (o := ⟨_, _, _, _, _, _⟩) (v := ?_) (by rw [HOP.out]; rfl) (by rfl) ?_ ?_
              rotate_left 1
              · first | ((intro W _; go_simp) <;> with_reducible rfl) | (intro W hW; have p1 := HPb.out _ hW; (go_simp <;> with_reducible rfl))
              try simp only [Act.put, List.setIfInBounds_toArray, List.set_cons_zero, List.set_cons_succ]
              refine seq_take (o := ⟨_, _, _, _, _, _⟩) (v := ?_) (by rw [HOP.out]; rfl) (by rfl) ?_ ?_
              rotate_left 1
              · first | ((intro W _; go_simp) <;> with_reducible rfl) | (intro W hW; have p1 := HPb.out _ hW; (go_simp <;> with_reducible rfl))
              try simp only [Act.put, List.setIfInBounds_toArray, List.set_cons_zero, List.set_cons_succ]
              refine seq_take (o := ⟨_, _, _, _, _, _⟩) (v := ?_) (by rw [HOP.out]; rfl) (by rfl) ?_ ?_
              rotate_left 1
              · first | ((intro W _; go_simp) <;> with_reducible rfl) | (intro W hW; have p1 := HPb.out _ hW; (go_simp <;> with_reducible rfl))
              try simp only [Act.put, List.setIfInBounds_toArray, List.set_cons_zero, List.set_cons_succ]
              refine seq_done ?_
              clear HOP OPS
              replace hS := drB hS
              go_wp2_with (go_at_call 32; refine (HCc.out _ hS).mono ?_; rintro e w4 ⟨rfl, hb4⟩; have HO2 := Lib.hid (HO.out.under (bTrans hS hb4)))
            all_goals
              go_roundg g2
              case measure => omega
              case rel =>
                refine ⟨_, _, _, _, _, _, _, _, xs, zs, acc, rfl, rfl, by simp, by omega, by omega, by omega, by first | omega | (simp <;> omega), Lib.hid ?_, Lib.hid ?_, Lib.hid ?_, Lib.hid HO2.out, HM2⟩
                · have := HLa.out
                  have := HLb.out
                  exact ⟨by omega, by omega⟩
                · first | exact ⟨HHa.out, HHb.out⟩ | exact ⟨HHa1.out (by assumption), HHb.out⟩ | exact ⟨HHa.out, HHb1.out (by assumption)⟩ | exact ⟨HHa1.out (by assumption), HHb1.out (by assumption)⟩
                · exact ⟨HPra.out, HPrb.out⟩
          · have HM2 := Lib.hid ((HMe.out rfl rfl).trans (by rw [HFu.out]))
            clear HMe HMn
            go_wp2_with fail
            refine wp_region_seq (Below wr.heap.size wr) [(0, true), (1, true), (2, true), (3, true), (4, true), (5, true), (6, true), (7, true), (8, true), (9, true), (10, true)] (by as_aux_lemma => kernel_rfl) (by as_aux_lemma => kernel_rfl) (by decide) (by as_aux_lemma => kernel_rfl) (drB hS) ?_
            intro OPS HOP
            refine seq_take (o := ⟨_, _, _, _, _, _⟩) (v := ?_) (by rw [HOP.out]; rfl) (by rfl) ?_ ?_
            rotate_left 1
            · first | ((intro W _; go_simp) <;> with_reducible rfl) | (intro W hW; have p1 := HPa.out _ hW; (go_simp <;> with_reducible rfl))
            try simp only [Act.put, List.setIfInBounds_toArray, List.set_cons_zero, List.set_cons_succ]
            refine seq_take (o := ⟨_, _, _, _, _, _⟩) (v := ?_) (by rw [HOP.out]; rfl) (by rfl) ?_ ?_
            rotate_left 1
            · first | ((intro W _; go_simp) <;> with_reducible rfl) | (intro W hW; have p1 := HPa.out _ hW; (go_simp <;> with_reducible rfl))
            try simp only [Act.put, List.setIfInBounds_toArray, List.set_cons_zero, List.set_cons_succ]
            refine seq_take (o := ⟨_, _, _, _, _, _⟩) (v := ?_) (by rw [HOP.out]; rfl) (by rfl) ?_ ?_
            rotate_left 1
            · first | ((intro W _; go_simp) <;> with_reducible rfl) | (intro W hW; have p1 := HPa.out _ hW; (go_simp <;> with_reducible rfl))
            try simp only [Act.put, List.setIfInBounds_toArray, List.set_cons_zero, List.set_cons_succ]
            refine seq_take (o := ⟨_, _, _, _, _, _⟩) (v := ?_) (by rw [HOP.out]; rfl) (by rfl) ?_ ?_
            rotate_left 1
            · first | ((intro W _; go_simp) <;> with_reducible rfl) | (intro W hW; have p1 := HPa.out _ hW; (go_simp <;> with_reducible rfl))
            try simp only [Act.put, List.setIfInBounds_toArray, List.set_cons_zero, List.set_cons_succ]
            refine seq_take (o := ⟨_, _, _, _, _, _⟩) (v := ?_) (by rw [HOP.out]; rfl) (by rfl) ?_ ?_
            rotate_left 1
            · first | ((intro W _; go_simp) <;> with_reducible rfl) | (intro W hW; have p1 := HPa.out _ hW; (go_simp <;> with_reducible rfl))
            try simp only [Act.put, List.setIfInBounds_toArray, List.set_cons_zero, List.set_cons_succ]
            refine seq_take (o := ⟨_, _, _, _, _, _⟩) (v := ?_) (by rw [HOP.out]; rfl) (by rfl) ?_ ?_
            rotate_left 1
            · first | ((intro W _; go_simp) <;> with_reducible rfl) | (intro W hW; have p1 := HPa.out _ hW; (go_simp <;> with_reducible rfl))
            try simp only [Act.put, List.setIfInBounds_toArray, List.set_cons_zero, List.set_cons_succ]
            refine seq_take (o := ⟨_, _, _, _, _, _⟩) (v := ?_) (by rw [HOP.out]; rfl) (by rfl) ?_ ?_
            rotate_left 1
            · first | ((intro W _; go_simp) <;> with_reducible rfl) | (intro W hW; have p1 := HPa.out _ hW; (go_simp <;> with_reducible rfl))
            try simp only [Act.put, List.setIfInBounds_toArray, List.set_cons_zero, List.set_cons_succ]
            refine seq_take (o := ⟨_, _, _, _, _, _⟩) (v := ?_) (by rw [HOP.out]; rfl) (by rfl) ?_ ?_
            rotate_left 1
            · first | ((intro W _; go_simp) <;> with_reducible rfl) | (intro W hW; have p1 := HPa.out _ hW; (go_simp <;> with_reducible rfl))
            try simp only [Act.put, List.setIfInBounds_toArray, List.set_cons_zero, List.set_cons_succ]
            refine seq_take (o := ⟨_, _, _, _, _, _⟩) (v := ?_) (by rw [HOP.out]; rfl) (by rfl) ?_ ?_
            rotate_left 1
            · first | ((intro W _; go_simp) <;> with_reducible rfl) | (intro W hW; have p1 := HPa.out _ hW; (go_simp <;> with_reducible rfl))
            try simp only [Act.put, List.setIfInBounds_toArray, List.set_cons_zero, List.set_cons_succ]
            refine seq_take (o := ⟨_, _, _, _, _, _⟩) (v := ?_) (by rw [HOP.out]; rfl) (by rfl) ?_ ?_
            rotate_left 1
            · first | ((intro W _; go_simp) <;> with_reducible rfl) | (intro W hW; have p1 := HPa.out _ hW; (go_simp <;> with_reducible rfl))
            try simp only [Act.put, List.setIfInBounds_toArray, List.set_cons_zero, List.set_cons_succ]
            refine seq_take (o := ⟨_, _, _, _, _, _⟩) (v := ?_) (by rw [HOP.out]; rfl) (by rfl) ?_ ?_
            rotate_left 1
            · first | ((intro W _; go_simp) <;> with_reducible rfl) | (intro W hW; have p1 := HPa.out _ hW; (go_simp <;> with_reducible rfl))
            try simp only [Act.put, List.setIfInBounds_toArray, List.set_cons_zero, List.set_cons_succ]
            refine seq_done ?_
            clear HOP OPS
            replace hS := drB hS
            go_wp2_with fail
            all_goals
              refine wp_region_seq (Below wr.heap.size wr) [(0, true), (1, true), (2, true), (3, true), (4, true), (5, true), (6, true), (7, true), (8, true), (9, true), (10, true)] (by as_aux_lemma => kernel_rfl) (by as_aux_lemma => kernel_rfl) (by decide) (by as_aux_lemma => kernel_rfl) (drB hS) ?_
              intro OPS HOP
              refine seq_take (o := ⟨_, _, _, _, _, _⟩) (v := ?_) (by rw [HOP.out]; rfl) (by rfl) ?_ ?_
              rotate_left 1
              · first | ((intro W _; go_simp) <;> with_reducible rfl) | (intro W hW; have p1 := HPb.out _ hW; (go_simp <;> with_reducible rfl))
              try simp only [Act.put, List.setIfInBounds_toArray, List.set_cons_zero, List.set_cons_succ]
              refine seq_take (o := ⟨_, _, _, _, _, _⟩) (v := ?_) (by rw [HOP.out]; rfl) (by rfl) ?_ ?_
              rotate_left 1
              · first | ((intro W _; go_simp) <;> with_reducible rfl) | (intro W hW; have p1 := HPb.out _ hW; (go_simp <;> with_reducible rfl))
              try simp only [Act.put, List.setIfInBounds_toArray, List.set_cons_zero, List.set_cons_succ]
              refine seq_take (o := ⟨_, _, _, _, _, _⟩) (v := ?_) (by rw [HOP.out]; rfl) (by rfl) ?_ ?_
              rotate_left 1
              · first | ((intro W _; go_simp) <;> with_reducible rfl) | (intro W hW; have p1 := HPb.out _ hW; (go_simp <;> with_reducible rfl))
              try simp only [Act.put, List.setIfInBounds_toArray, List.set_cons_zero, List.set_cons_succ]
              refine seq_take (o := ⟨_, _, _, _, _, _⟩) (v := ?_) (by rw [HOP.out]; rfl) (by rfl) ?_ ?_
              rotate_left 1
              · first | ((intro W _; go_simp) <;> with_reducible rfl) | (intro W hW; have p1 := HPb.out _ hW; (go_simp <;> with_reducible rfl))
              try simp only [Act.put, List.setIfInBounds_toArray, List.set_cons_zero, List.set_cons_succ]
              refine seq_take (o := ⟨_, _, _, _, _, _⟩) (v := ?_) (by rw [HOP.out]; rfl) (by rfl) ?_ ?_
              rotate_left 1
              · first | ((intro W _; go_simp) <;> with_reducible rfl) | (intro W hW; have p1 := HPb.out _ hW; (go_simp <;> with_reducible rfl))
              try simp only [Act.put, List.setIfInBounds_toArray, List.set_cons_zero, List.set_cons_succ]
              refine seq_take (o := ⟨_, _, _, _, _, _⟩) (v := ?_) (by rw [HOP.out]; rfl) (by rfl) ?_ ?_
              rotate_left 1
              · first | ((intro W _; go_simp) <;> with_reducible rfl) | (intro W hW; have p1 := HPb.out _ hW; (go_simp <;> with_reducible rfl))
              try simp only [Act.put, List.setIfInBounds_toArray, List.set_cons_zero, List.set_cons_succ]
              refine seq_take (o := ⟨_, _, _, _, _, _⟩) (v := ?_) (by rw [HOP.out]; rfl) (by rfl) ?_ ?_
              rotate_left 1
              · first | ((intro W _; go_simp) <;> with_reducible rfl) | (intro W hW; have p1 := HPb.out _ hW; (go_simp <;> with_reducible rfl))
              try simp only [Act.put, List.setIfInBounds_toArray, List.set_cons_zero, List.set_cons_succ]
              refine seq_take (o := ⟨_, _, _, _, _, _⟩) (v := ?_) (by rw [HOP.out]; rfl) (by rfl) ?_ ?_
              rotate_left 1
              · first | ((intro W _; go_simp) <;> with_reducible rfl) | (intro W hW; have p1 := HPb.out _ hW; (go_simp <;> with_reducible rfl))
              try simp only [Act.put, List.setIfInBounds_toArray, List.set_cons_zero, List.set_cons_succ]
              refine seq_take (o := ⟨_, _, _, _, _, _⟩) (v := ?_) (by rw [HOP.out]; rfl) (by rfl) ?_ ?_
              rotate_left 1
              · first | ((intro W _; go_simp) <;> with_reducible rfl) | (intro W hW; have p1 := HPb.out _ hW; (go_simp <;> with_reducible rfl))
              try simp only [Act.put, List.setIfInBounds_toArray, List.set_cons_zero, List.set_cons_succ]
              refine seq_take (o := ⟨_, _, _, _, _, _⟩) (v := ?_) (by rw [HOP.out]; rfl) (by rfl) ?_ ?_
              rotate_left 1
              · first | ((intro W _; go_simp) <;> with_reducible rfl) | (intro W hW; have p1 := HPb.out _ hW; (go_simp <;> with_reducible rfl))
              try simp only [Act.put, List.setIfInBounds_toArray, List.set_cons_zero, List.set_cons_succ]
              refine seq_take (o := ⟨_, _, _, _, _, _⟩) (v := ?_) (by rw [HOP.out]; rfl) (by rfl) ?_ ?_
              rotate_left 1
              · first | ((intro W _; go_simp) <;> with_reducible rfl) | (intro W hW; have p1 := HPb.out _ hW; (go_simp <;> with_reducible rfl))
              try simp only [Act.put, List.setIfInBounds_toArray, List.set_cons_zero, List.set_cons_succ]
              refine seq_done ?_
              clear HOP OPS
              replace hS := drB hS
              go_wp2_with (first | (go_at_call 32; refine (HCc.out _ hS).mono ?_; rintro e w4 ⟨rfl, hb4⟩; have HO2 := Lib.hid (HO.out.under (bTrans hS hb4))) | (at_builtin; refine wp_appCh HO2.out ⟨2, z.path⟩ hacc rfl (.tmp 74) (.tmp 78) rfl rfl rfl ?_; intro g3 cap3 w9 hO9))
            all_goals
              go_roundg g2
              case measure => omega
              case rel =>
                refine ⟨_, _, _, _, _, _, _, _, xs, zs, acc ++ [⟨2, z.path⟩], rfl, rfl, by simp, by omega, by omega, by omega, by first | omega | (simp <;> omega), Lib.hid ?_, Lib.hid ?_, Lib.hid ?_, Lib.hid hO9, HM2⟩
                · have := HLa.out
                  have := HLb.out
                  exact ⟨by omega, by omega⟩
                · first | exact ⟨HHa.out, HHb.out⟩ | exact ⟨HHa1.out (by assumption), HHb.out⟩ | exact ⟨HHa.out, HHb1.out (by assumption)⟩ | exact ⟨HHa1.out (by assumption), HHb1.out (by assumption)⟩
                · exact ⟨HPra.out, HPrb.out⟩
end Go.Proofs.YtiliijiohmeagaaGreatDoor
