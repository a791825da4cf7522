/-
  Both differ; changeOf, rising, rightBy.
-/
import Derived.Test.YtiliijiohmeagaaGreatDoorChg2
import Derived.Test.YtiliijiohmeagaaGreatDoorOrd
import Derived.Test.YtiliijiohmeagaaGreatDoorSeq
import Derived.BigQuiet
namespace Go.Proofs.YtiliijiohmeagaaGreatDoor
open Go.RowKit

/-- A callee that draws, and lays nothing, met inside a quiet region. -/
theorem quietDraws {P : Program} {f : FuncId} {args : Array Value} {w : World} {a n : Nat} {v : Value}
    (h : Calls P f args (w.drewN (a + n)) fun e w' => e = .returned v ∧ ∃ k, w' = (w.drewN (a + n)).drewN k) :
    Calls P f args (w.drewN (a + n)) fun e w'' => e = .returned v ∧ ∃ m, w'' = w.drewN (a + m) :=
  h.mono fun _ _ hh => ⟨hh.1, by obtain ⟨k, hk⟩ := hh.2; exact ⟨n + k, by rw [hk, World.drewN_drewN, Nat.add_assoc]⟩⟩
theorem drB {B : Nat} {a b : World} (h : Below B a b) : Below B a b.drew := ⟨h.os, h.tape, h.output, h.size, h.block⟩


set_option maxHeartbeats 2000000 in
theorem differ_any (a b : Wh.Mark) (y : Int) (w : World) :
    Calls Tryz.prog 79 #[markVal a, markVal b, .int .i64 y] w fun e w' => e = .returned (.bool (Wh.differM a b y)) ∧ Below w.heap.size w w' := by
  have hb1 : Below w.heap.size w ((w.alloc (markObj a)).alloc (markObj b)) := bAlloc (bAlloc (Below.refl _ _) _) _
  have HA := Lib.hid ((markBox_new w a).under (bAlloc (Below.refl _ _) (markObj b)))
  have HB := Lib.hid (markBox_new (w.alloc (markObj a)) b)
  have hE : Wh.differM a b y = (a.size != b.size || (y == 2 && a.time != b.time) || (y == 3 && !(a.sum.toList == b.sum.toList))) := Wh.differM_eq a b y
  have HE := Lib.hid hE
  clear hE
  generalize Wh.differM a b y = E at *
  have hs : (w.alloc (markObj a)).heap.size = w.heap.size + 1 := by simp
  rw [hs] at HB
  unfold markObj at *
  go_enter Tryz.func79, Tryz.ntmps79
  go_upto_region 1 with fail
  generalize (w.alloc _).alloc _ = w1 at *
  obtain ⟨p0, p1, p2, p3, p4⟩ := HA.out
  obtain ⟨q0, q1, q2, q3, q4⟩ := HB.out
  clear HA HB
  generalize a.size = sa at *
  generalize b.size = sb at *
  generalize a.time = ta at *
  generalize b.time = tb at *
  by_cases c1 : sa = sb
  case neg =>
    have n1 : (sa != sb) = true := by simp [c1]
    have HK : Hid (E = true) := Lib.hid (by rw [HE.out, n1]; rfl)
    clear c1
    go_wp2_with fail
    go_ret
    obtain rfl := HK.out
    exact ⟨rfl, hb1⟩
  have n1 : (sa != sb) = false := by simp [c1]
  clear c1
  rw [n1, Bool.false_or] at HE
  by_cases d2 : y = 2
  · subst d2
    by_cases c2 : ta = tb
    · have n2 : (ta != tb) = false := by simp [c2]
      have HK : Hid (E = false) := Lib.hid (by rw [HE.out, n2]; rfl)
      clear c2
      go_wp2_with fail
      go_ret
      obtain rfl := HK.out
      exact ⟨rfl, hb1⟩
    · have n2 : (ta != tb) = true := by simp [c2]
      have HK : Hid (E = true) := Lib.hid (by rw [HE.out, n2]; rfl)
      clear c2
      go_wp2_with fail
      go_ret
      obtain rfl := HK.out
      exact ⟨rfl, hb1⟩
  have m2 : (y == 2) = false := by simp [d2]
  clear d2
  rw [m2, Bool.false_and, Bool.false_or] at HE
  by_cases d3 : y = 3
  · subst d3
    go_wp2_with fail
    go_ret
    exact ⟨ret_bool (by rw [HE.out]; rfl), hb1⟩
  · have m3 : (y == 3) = false := by simp [d3]
    have HK : Hid (E = false) := Lib.hid (by rw [HE.out, m3]; rfl)
    clear d3
    go_wp2_with fail
    go_ret
    obtain rfl := HK.out
    exact ⟨rfl, hb1⟩


set_option maxHeartbeats 2000000 in
theorem refDiffer_any (a b : Wh.Mark) (y : Int) (w : World) :
    Calls Tryz.prog 37 #[markVal a, markVal b, .int .i64 y] w fun e w' => e = .returned (.bool (Wh.differM a b y)) ∧ Below w.heap.size w w' := by
  have hb1 : Below w.heap.size w ((w.alloc (markObj a)).alloc (markObj b)) := bAlloc (bAlloc (Below.refl _ _) _) _
  have HA := Lib.hid ((markBox_new w a).under (bAlloc (Below.refl _ _) (markObj b)))
  have HB := Lib.hid (markBox_new (w.alloc (markObj a)) b)
  have hE : Wh.differM a b y = (a.size != b.size || (y == 2 && a.time != b.time) || (y == 3 && !(a.sum.toList == b.sum.toList))) := Wh.differM_eq a b y
  have HE := Lib.hid hE
  clear hE
  generalize Wh.differM a b y = E at *
  have hs : (w.alloc (markObj a)).heap.size = w.heap.size + 1 := by simp
  rw [hs] at HB
  unfold markObj at *
  go_enter Tryz.func37, Tryz.ntmps37
  go_upto_region 1 with fail
  generalize (w.alloc _).alloc _ = w1 at *
  obtain ⟨p0, p1, p2, p3, p4⟩ := HA.out
  obtain ⟨q0, q1, q2, q3, q4⟩ := HB.out
  clear HA HB
  generalize a.size = sa at *
  generalize b.size = sb at *
  generalize a.time = ta at *
  generalize b.time = tb at *
  by_cases c1 : sa = sb
  case neg =>
    have n1 : (sa != sb) = true := by simp [c1]
    have HK : Hid (E = true) := Lib.hid (by rw [HE.out, n1]; rfl)
    clear c1
    go_wp2_with fail
    go_ret
    obtain rfl := HK.out
    exact ⟨rfl, hb1⟩
  have n1 : (sa != sb) = false := by simp [c1]
  clear c1
  rw [n1, Bool.false_or] at HE
  by_cases d2 : y = 2
  · subst d2
    by_cases c2 : ta = tb
    · have n2 : (ta != tb) = false := by simp [c2]
      have HK : Hid (E = false) := Lib.hid (by rw [HE.out, n2]; rfl)
      clear c2
      go_wp2_with fail
      go_ret
      obtain rfl := HK.out
      exact ⟨rfl, hb1⟩
    · have n2 : (ta != tb) = true := by simp [c2]
      have HK : Hid (E = true) := Lib.hid (by rw [HE.out, n2]; rfl)
      clear c2
      go_wp2_with fail
      go_ret
      obtain rfl := HK.out
      exact ⟨rfl, hb1⟩
  have m2 : (y == 2) = false := by simp [d2]
  clear d2
  rw [m2, Bool.false_and, Bool.false_or] at HE
  by_cases d3 : y = 3
  · subst d3
    go_wp2_with fail
    go_ret
    exact ⟨ret_bool (by rw [HE.out]; rfl), hb1⟩
  · have m3 : (y == 3) = false := by simp [d3]
    have HK : Hid (E = false) := Lib.hid (by rw [HE.out, m3]; rfl)
    clear d3
    go_wp2_with fail
    go_ret
    obtain rfl := HK.out
    exact ⟨rfl, hb1⟩


/-- A pointer to a mark, or none. -/
def MarkAt (w : World) (p : Option Addr) (m : Option Wh.Mark) : Prop :=
  match m with
  | none => p = none
  | some x => ∃ b off, p = some ⟨b, off, none⟩ ∧ b < w.heap.size ∧ w.cell? ⟨b, off, none⟩ = some (.string x.path) ∧ w.cell? ⟨b, off + 1, none⟩ = some (.int .i64 x.size) ∧ w.cell? ⟨b, off + 2, none⟩ = some (.int .i64 x.time) ∧ w.cell? ⟨b, off + 3, none⟩ = some (.string x.sum)

set_option maxHeartbeats 2000000 in
theorem changeOf_any (pa pb : Option Addr) (a b : Option Wh.Mark) (y : Int) (w : World) (ha : MarkAt w pa a) (hb : MarkAt w pb b) :
    Calls Tryz.prog 32 #[.pointer pa, .pointer pb, .int .i64 y] w fun e w' => e = .returned (.int .i64 (Wh.changeOf a b y)) ∧ Below w.heap.size w w' := by
  cases a with
  | none =>
    cases b with
    | none =>
      obtain rfl := ha
      obtain rfl := hb
      go_enter Tryz.func32, Tryz.ntmps32
      go_wp2_with fail
      go_ret
      exact ⟨rfl, Below.refl _ _⟩
    | some b =>
      obtain rfl := ha
      obtain ⟨bb, bo, rfl, _⟩ := hb
      go_enter Tryz.func32, Tryz.ntmps32
      go_wp2_with fail
      go_ret
      exact ⟨rfl, Below.refl _ _⟩
  | some a =>
    cases b with
    | none =>
      obtain ⟨ab, ao, rfl, _⟩ := ha
      obtain rfl := hb
      go_enter Tryz.func32, Tryz.ntmps32
      go_wp2_with fail
      go_ret
      exact ⟨rfl, Below.refl _ _⟩
    | some b =>
      obtain ⟨ab, ao, rfl, p0, p1, p2, p3, p4⟩ := ha
      obtain ⟨bb, bo, rfl, q0, q1, q2, q3, q4⟩ := hb
      have hE : Wh.changeOf (some a) (some b) y = if Wh.differM a b y then 2 else 0 := rfl
      have HE := Lib.hid hE
      have HD := Lib.hid (fun W => differ_any a b y W)
      clear hE
      generalize Wh.changeOf (some a) (some b) y = E at *
      generalize Wh.differM a b y = D at *
      go_enter Tryz.func32, Tryz.ntmps32
      have HP := Lib.hid (fun W (hW : Below w.heap.size w W) => And.intro ((hW.cell (p := ⟨ab, ao, none⟩) p0).trans p1) (And.intro ((hW.cell (p := ⟨ab, ao + 1, none⟩) p0).trans p2) (And.intro ((hW.cell (p := ⟨ab, ao + 2, none⟩) p0).trans p3) ((hW.cell (p := ⟨ab, ao + 3, none⟩) p0).trans p4))))
      have HQ := Lib.hid (fun W (hW : Below w.heap.size w W) => And.intro ((hW.cell (p := ⟨bb, bo, none⟩) q0).trans q1) (And.intro ((hW.cell (p := ⟨bb, bo + 1, none⟩) q0).trans q2) (And.intro ((hW.cell (p := ⟨bb, bo + 2, none⟩) q0).trans q3) ((hW.cell (p := ⟨bb, bo + 3, none⟩) q0).trans q4))))
      clear p0 p1 p2 p3 p4 q0 q1 q2 q3 q4
      go_upto_region 7 with fail
      have hS : Below w.heap.size w w := Below.refl _ _
      refine wp_region_seq (Below w.heap.size w) [(0, true), (1, true), (2, true), (3, true), (4, true), (5, true), (6, true), (7, false), (8, true)] (by as_aux_lemma => kernel_rfl) (by as_aux_lemma => kernel_rfl) (by decide) (by as_aux_lemma => kernel_rfl) (drB hS) ?_
      intro OPS HO
      refine seq_take (o := ⟨_, _, _, _, _, _⟩) (v := ?_) (by rw [HO.out]; rfl) (by rfl) ?_ ?_
      rotate_left 1
      · first | ((intro W _; go_simp) <;> with_reducible rfl) | (intro W hW; obtain ⟨p1, p2, p3, p4⟩ := HP.out _ hW; obtain ⟨q1, q2, q3, q4⟩ := HQ.out _ hW; (go_simp <;> with_reducible rfl))
      try simp only [Act.put, List.setIfInBounds_toArray, List.set_cons_zero, List.set_cons_succ]
      refine seq_take (o := ⟨_, _, _, _, _, _⟩) (v := ?_) (by rw [HO.out]; rfl) (by rfl) ?_ ?_
      rotate_left 1
      · first | ((intro W _; go_simp) <;> with_reducible rfl) | (intro W hW; obtain ⟨p1, p2, p3, p4⟩ := HP.out _ hW; obtain ⟨q1, q2, q3, q4⟩ := HQ.out _ hW; (go_simp <;> with_reducible rfl))
      try simp only [Act.put, List.setIfInBounds_toArray, List.set_cons_zero, List.set_cons_succ]
      refine seq_take (o := ⟨_, _, _, _, _, _⟩) (v := ?_) (by rw [HO.out]; rfl) (by rfl) ?_ ?_
      rotate_left 1
      · first | ((intro W _; go_simp) <;> with_reducible rfl) | (intro W hW; obtain ⟨p1, p2, p3, p4⟩ := HP.out _ hW; obtain ⟨q1, q2, q3, q4⟩ := HQ.out _ hW; (go_simp <;> with_reducible rfl))
      try simp only [Act.put, List.setIfInBounds_toArray, List.set_cons_zero, List.set_cons_succ]
      refine seq_take (o := ⟨_, _, _, _, _, _⟩) (v := ?_) (by rw [HO.out]; rfl) (by rfl) ?_ ?_
      rotate_left 1
      · first | ((intro W _; go_simp) <;> with_reducible rfl) | (intro W hW; obtain ⟨p1, p2, p3, p4⟩ := HP.out _ hW; obtain ⟨q1, q2, q3, q4⟩ := HQ.out _ hW; (go_simp <;> with_reducible rfl))
      try simp only [Act.put, List.setIfInBounds_toArray, List.set_cons_zero, List.set_cons_succ]
      refine seq_take (o := ⟨_, _, _, _, _, _⟩) (v := ?_) (by rw [HO.out]; rfl) (by rfl) ?_ ?_
      rotate_left 1
      · first | ((intro W _; go_simp) <;> with_reducible rfl) | (intro W hW; obtain ⟨p1, p2, p3, p4⟩ := HP.out _ hW; obtain ⟨q1, q2, q3, q4⟩ := HQ.out _ hW; (go_simp <;> with_reducible rfl))
      try simp only [Act.put, List.setIfInBounds_toArray, List.set_cons_zero, List.set_cons_succ]
      refine seq_take (o := ⟨_, _, _, _, _, _⟩) (v := ?_) (by rw [HO.out]; rfl) (by rfl) ?_ ?_
      rotate_left 1
      · first | ((intro W _; go_simp) <;> with_reducible rfl) | (intro W hW; obtain ⟨p1, p2, p3, p4⟩ := HP.out _ hW; obtain ⟨q1, q2, q3, q4⟩ := HQ.out _ hW; (go_simp <;> with_reducible rfl))
      try simp only [Act.put, List.setIfInBounds_toArray, List.set_cons_zero, List.set_cons_succ]
      refine seq_take (o := ⟨_, _, _, _, _, _⟩) (v := ?_) (by rw [HO.out]; rfl) (by rfl) ?_ ?_
      rotate_left 1
      · first | ((intro W _; go_simp) <;> with_reducible rfl) | (intro W hW; obtain ⟨p1, p2, p3, p4⟩ := HP.out _ hW; obtain ⟨q1, q2, q3, q4⟩ := HQ.out _ hW; (go_simp <;> with_reducible rfl))
      try simp only [Act.put, List.setIfInBounds_toArray, List.set_cons_zero, List.set_cons_succ]
      refine seq_do (o := ⟨_, _, _, _, _, _⟩) (by rw [HO.out]; rfl) (by rfl) (fun K hK => ?_)
      replace hS := drB hS
      go_wp2_with (go_at_call 79; refine (HD.out _).mono ?_; rintro e w4 ⟨rfl, hb4⟩; replace hS := bTrans hS hb4; clear hb4)
      refine hK.out _ _ hS (fun _ => ?_)
      clear hK K
      try simp only [Act.put, List.setIfInBounds_toArray, List.set_cons_zero, List.set_cons_succ]
      refine seq_take (o := ⟨_, _, _, _, _, _⟩) (v := ?_) (by rw [HO.out]; rfl) (by rfl) ?_ ?_
      rotate_left 1
      · first | ((intro W _; go_simp) <;> with_reducible rfl) | (intro W hW; obtain ⟨p1, p2, p3, p4⟩ := HP.out _ hW; obtain ⟨q1, q2, q3, q4⟩ := HQ.out _ hW; (go_simp <;> with_reducible rfl))
      try simp only [Act.put, List.setIfInBounds_toArray, List.set_cons_zero, List.set_cons_succ]
      refine seq_done ?_
      clear HO OPS
      cases D
      all_goals
        have HK := HE.out
        go_wp2_with fail
        go_ret
        exact ⟨ret_int (by first | rfl | (rw [HK]; rfl)), hS⟩

theorem markRow' {w : World} {a : Option Addr} {xs : List Wh.Mark} (h : HoldsR w a 4 (xs.map markCells)) {k : Nat} {x : Wh.Mark} (hk : xs[k]? = some x) :
    ∃ b off, a = some ⟨b, off, none⟩ ∧ b < w.heap.size ∧ w.cell? ⟨b, off + k * 4, none⟩ = some (.string x.path) := by
  obtain ⟨b, off, ha, hb, h0, _⟩ := markRow h hk
  exact ⟨b, off, ha, hb, h0⟩

set_option maxHeartbeats 2000000 in
theorem rightBy_any (y : Int) (w : World) :
    Calls Tryz.prog 29 #[.int .i64 y] w fun e w' => e = .returned (.bool (decide (1 ≤ y ∧ y ≤ 3))) ∧ w' = w := by
  by_cases d1 : y = 1
  · subst d1
    go_enter Tryz.func29, Tryz.ntmps29
    go_wp2
    go_ret
    exact ⟨rfl, rfl⟩
  by_cases d2 : y = 2
  · subst d2
    go_enter Tryz.func29, Tryz.ntmps29
    go_wp2
    go_ret
    exact ⟨rfl, rfl⟩
  by_cases d3 : y = 3
  · subst d3
    go_enter Tryz.func29, Tryz.ntmps29
    go_wp2
    go_ret
    exact ⟨rfl, rfl⟩
  have n1 : (y == 1) = false := by simp [d1]
  have n2 : (y == 2) = false := by simp [d2]
  have n3 : (y == 3) = false := by simp [d3]
  have HK : Hid (decide (1 ≤ y ∧ y ≤ 3) = false) := Lib.hid (by simp; omega)
  clear d1 d2 d3
  go_enter Tryz.func29, Tryz.ntmps29
  go_wp2
  go_ret
  exact ⟨ret_bool HK.out.symm, rfl⟩

set_option maxHeartbeats 2000000 in
theorem rising_any (xs : List Wh.Mark) (a : Option Addr) (c : Nat) (w : World) (hl : xs.length ≤ 2932031007317) (hH : HoldsR w a 4 (xs.map markCells)) (hok : ∀ x ∈ xs, x.path.size ≤ 9223372036854775807) :
    Calls Tryz.prog 30 #[.slice a xs.length c] w fun e w' => e = .returned (.bool (Wh.rising xs)) ∧ Below w.heap.size w w' := by
  have HH := Lib.hid hH
  have HO := Lib.hid hok
  clear hH hok
  go_enter Tryz.func30, Tryz.ntmps30
  go_wp2_with fail
  go_loopg [3] (xs.length - 1) (fun g i wx => ∃ k : Nat, k + 1 + g = max xs.length 1 ∧ i = .int .i64 (k + 1 : Nat) ∧ Below w.heap.size w wx ∧ Hid (Wh.rising xs = Wh.rising (xs.drop k)))
  case atStart => exact ⟨0, by omega, rfl, Below.refl _ _, Lib.hid rfl⟩
  case round =>
    obtain ⟨k, hk, rfl, hb, HR⟩ := hrel
    by_cases hlt : k + 1 < xs.length
    · obtain ⟨g, rfl⟩ : ∃ g, gk = g + 1 := ⟨gk - 1, by omega⟩
      obtain ⟨x, hx⟩ : ∃ x, xs[k]? = some x := ⟨_, List.getElem?_eq_getElem (by omega)⟩
      obtain ⟨z, hz⟩ : ∃ z, xs[k + 1]? = some z := ⟨_, List.getElem?_eq_getElem hlt⟩
      obtain ⟨ba, off, ha, hba, hc0⟩ := markRow' (HH.out.under hb) hx
      obtain ⟨ba', off', ha', hba', hd0⟩ := markRow' (HH.out.under hb) hz
      rw [ha] at ha'
      injection ha' with e
      injection e with e1 e2
      subst e1 e2
      subst ha
      have hdr : xs.drop k = x :: z :: xs.drop (k + 2) := by
        rw [List.drop_eq_getElem_cons (by omega), (List.getElem?_eq_some_iff.1 hx).2, List.drop_eq_getElem_cons (by omega), (List.getElem?_eq_some_iff.1 hz).2]
      have hdr1 : xs.drop (k + 1) = z :: xs.drop (k + 2) := by
        rw [List.drop_eq_getElem_cons (by omega), (List.getElem?_eq_some_iff.1 hz).2]
      have hst : Wh.rising (xs.drop k) = (decide (Wh.ordB x.path z.path < 0) && Wh.rising (xs.drop (k + 1))) := by rw [hdr, hdr1]; rfl
      rw [hst] at HR
      have HC := Lib.hid (fun W => compare_drew x.path z.path W (HO.out x (List.mem_of_getElem? hx)) (HO.out z (List.mem_of_getElem? hz)))
      clear hx hz hdr hdr1 hst
      have HC' : Hid (∀ W, Calls Tryz.prog 31 #[.string x.path, .string z.path] W fun e w' => e = .returned (.int .i64 (Wh.ordB x.path z.path)) ∧ ∃ n, w' = W.drewN n) := HC
      clear HC
      generalize Wh.ordB x.path z.path = R at *
      have hk1 : k < xs.length := by omega
      have hk2 : (0 : Int) ≤ (k : Int) + 1 := by omega
      have hwk : IntKind.i64.wrap (k : Int) = k := by simp [IntKind.wrap, IntKind.bits, IntKind.signed]; omega
      have HP := Lib.hid (fun W (hW : Below wr.heap.size wr W) => And.intro ((hW.cell (p := ⟨ba, off + k * 4, none⟩) hba).trans hc0) ((hW.cell (p := ⟨ba, off + (k + 1) * 4, none⟩) hba).trans hd0))
      clear hc0 hd0 hba hba'
      go_wp2_with fail
      have hS : Below wr.heap.size wr wr := Below.refl _ _
      refine wp_region_seq (Below wr.heap.size wr) [(0, true), (1, true), (2, true), (3, true), (4, true), (5, true), (6, true), (7, true), (8, true), (9, true), (10, true), (11, false), (12, true)] (by as_aux_lemma => kernel_rfl) (by as_aux_lemma => kernel_rfl) (by decide) (by as_aux_lemma => kernel_rfl) (drB hS) ?_
      intro OPS HO
      refine seq_take (o := ⟨_, _, _, _, _, _⟩) (v := ?_) (by rw [HO.out]; rfl) (by rfl) ?_ ?_
      rotate_left 1
      · first | ((intro W _; go_simp) <;> with_reducible rfl) | (intro W hW; obtain ⟨p1, p2⟩ := HP.out _ hW; (go_simp <;> with_reducible rfl))
      try simp only [Act.put, List.setIfInBounds_toArray, List.set_cons_zero, List.set_cons_succ]
      refine seq_take (o := ⟨_, _, _, _, _, _⟩) (v := ?_) (by rw [HO.out]; rfl) (by rfl) ?_ ?_
      rotate_left 1
      · first | ((intro W _; go_simp) <;> with_reducible rfl) | (intro W hW; obtain ⟨p1, p2⟩ := HP.out _ hW; (go_simp <;> with_reducible rfl))
      try simp only [Act.put, List.setIfInBounds_toArray, List.set_cons_zero, List.set_cons_succ]
      refine seq_take (o := ⟨_, _, _, _, _, _⟩) (v := ?_) (by rw [HO.out]; rfl) (by rfl) ?_ ?_
      rotate_left 1
      · first | ((intro W _; go_simp) <;> with_reducible rfl) | (intro W hW; obtain ⟨p1, p2⟩ := HP.out _ hW; (go_simp <;> with_reducible rfl))
      try simp only [Act.put, List.setIfInBounds_toArray, List.set_cons_zero, List.set_cons_succ]
      refine seq_take (o := ⟨_, _, _, _, _, _⟩) (v := ?_) (by rw [HO.out]; rfl) (by rfl) ?_ ?_
      rotate_left 1
      · first | ((intro W _; go_simp) <;> with_reducible rfl) | (intro W hW; obtain ⟨p1, p2⟩ := HP.out _ hW; (go_simp <;> with_reducible rfl))
      try simp only [Act.put, List.setIfInBounds_toArray, List.set_cons_zero, List.set_cons_succ]
      refine seq_take (o := ⟨_, _, _, _, _, _⟩) (v := ?_) (by rw [HO.out]; rfl) (by rfl) ?_ ?_
      rotate_left 1
      · first | ((intro W _; go_simp) <;> with_reducible rfl) | (intro W hW; obtain ⟨p1, p2⟩ := HP.out _ hW; (go_simp <;> with_reducible rfl))
      try simp only [Act.put, List.setIfInBounds_toArray, List.set_cons_zero, List.set_cons_succ]
      refine seq_take (o := ⟨_, _, _, _, _, _⟩) (v := ?_) (by rw [HO.out]; rfl) (by rfl) ?_ ?_
      rotate_left 1
      · first | ((intro W _; go_simp) <;> with_reducible rfl) | (intro W hW; obtain ⟨p1, p2⟩ := HP.out _ hW; (go_simp <;> with_reducible rfl))
      try simp only [Act.put, List.setIfInBounds_toArray, List.set_cons_zero, List.set_cons_succ]
      refine seq_take (o := ⟨_, _, _, _, _, _⟩) (v := ?_) (by rw [HO.out]; rfl) (by rfl) ?_ ?_
      rotate_left 1
      · first | ((intro W _; go_simp) <;> with_reducible rfl) | (intro W hW; obtain ⟨p1, p2⟩ := HP.out _ hW; (go_simp <;> with_reducible rfl))
      try simp only [Act.put, List.setIfInBounds_toArray, List.set_cons_zero, List.set_cons_succ]
      refine seq_take (o := ⟨_, _, _, _, _, _⟩) (v := ?_) (by rw [HO.out]; rfl) (by rfl) ?_ ?_
      rotate_left 1
      · first | ((intro W _; go_simp) <;> with_reducible rfl) | (intro W hW; obtain ⟨p1, p2⟩ := HP.out _ hW; (go_simp <;> with_reducible rfl))
      try simp only [Act.put, List.setIfInBounds_toArray, List.set_cons_zero, List.set_cons_succ]
      refine seq_take (o := ⟨_, _, _, _, _, _⟩) (v := ?_) (by rw [HO.out]; rfl) (by rfl) ?_ ?_
      rotate_left 1
      · first | ((intro W _; go_simp) <;> with_reducible rfl) | (intro W hW; obtain ⟨p1, p2⟩ := HP.out _ hW; (go_simp <;> with_reducible rfl))
      try simp only [Act.put, List.setIfInBounds_toArray, List.set_cons_zero, List.set_cons_succ]
      refine seq_take (o := ⟨_, _, _, _, _, _⟩) (v := ?_) (by rw [HO.out]; rfl) (by rfl) ?_ ?_
      rotate_left 1
      · first | ((intro W _; go_simp) <;> with_reducible rfl) | (intro W hW; obtain ⟨p1, p2⟩ := HP.out _ hW; (go_simp <;> with_reducible rfl))
      try simp only [Act.put, List.setIfInBounds_toArray, List.set_cons_zero, List.set_cons_succ]
      refine seq_take (o := ⟨_, _, _, _, _, _⟩) (v := ?_) (by rw [HO.out]; rfl) (by rfl) ?_ ?_
      rotate_left 1
      · first | ((intro W _; go_simp) <;> with_reducible rfl) | (intro W hW; obtain ⟨p1, p2⟩ := HP.out _ hW; (go_simp <;> with_reducible rfl))
      try simp only [Act.put, List.setIfInBounds_toArray, List.set_cons_zero, List.set_cons_succ]
      refine seq_do (o := ⟨_, _, _, _, _, _⟩) (by rw [HO.out]; rfl) (by rfl) (fun K hK => ?_)
      replace hS := drB hS
      go_wp2_with (go_at_call 31; refine (HC'.out _).mono ?_; rintro e w4 ⟨rfl, nd, rfl⟩; replace hS := bDrewN (Below.refl wr.heap.size wr) (1 + nd))
      refine hK.out _ _ hS (fun _ => ?_)
      clear hK K
      try simp only [Act.put, List.setIfInBounds_toArray, List.set_cons_zero, List.set_cons_succ]
      refine seq_take (o := ⟨_, _, _, _, _, _⟩) (v := ?_) (by rw [HO.out]; rfl) (by rfl) ?_ ?_
      rotate_left 1
      · first | ((intro W _; go_simp) <;> with_reducible rfl) | (intro W hW; obtain ⟨p1, p2⟩ := HP.out _ hW; (go_simp <;> with_reducible rfl))
      try simp only [Act.put, List.setIfInBounds_toArray, List.set_cons_zero, List.set_cons_succ]
      refine seq_done ?_
      clear HO OPS
      by_cases hR : R < 0
      · have HR2 : Hid (Wh.rising xs = Wh.rising (xs.drop (k + 1))) := Lib.hid (by rw [HR.out]; simp [hR])
        go_wp2_with fail
        go_roundg g
        case measure => omega
        case rel => exact ⟨k + 1, by omega, by go_num, bTrans hb hS, HR2⟩
      · have HR2 : Hid (Wh.rising xs = false) := Lib.hid (by rw [HR.out]; simp [hR])
        go_wp2_with fail
        go_ret
        exact ⟨ret_bool HR2.out.symm, bTrans hb hS⟩
    · go_wp2_with fail
      go_ret
      refine ⟨ret_bool ?_, hb⟩
      rw [HR.out]
      match hm : xs.drop k with
      | [] => rfl
      | [_] => rfl
      | _ :: _ :: _ =>
        have := congrArg List.length hm
        simp at this
        omega
end Go.Proofs.YtiliijiohmeagaaGreatDoor
