/-
  The reference's Changes: its closures, and itself.
-/
import Derived.Test.YtiliijiohmeagaaGreatDoorChg5
import Derived.Test.YtiliijiohmeagaaGreatDoorChg7
namespace Go.Proofs.YtiliijiohmeagaaGreatDoor
open Go.RowKit

theorem enters_chg1 : ∀ args w, (callFunc 34 args).run Tryz.prog w = .ok (.enter 34 args) w := enters_of Tryz.func34 (by kernel_rfl) rfl
theorem enters_chg11 : ∀ args w, (callFunc 36 args).run Tryz.prog w = .ok (.enter 36 args) w := enters_of Tryz.func36 (by kernel_rfl) rfl

set_option maxHeartbeats 1000000 in
theorem chg11_any (x : Wh.Mark) (p : ByteArray) (pb : Nat) (w : World) (hb : pb < w.heap.size) (hc : w.cell? ⟨pb, 0, none⟩ = some (.string p)) :
    Calls Tryz.prog 36 #[markVal x, .pointer (some ⟨pb, 0, none⟩)] w fun e w' => e = .returned (.bool (x.path.toList == p.toList)) ∧ Below w.heap.size w w' := by
  have hne : w.heap.size ≠ pb := by omega
  go_enter Tryz.func36, Tryz.ntmps36
  go_wp2
  go_ret
  exact ⟨rfl, bAlloc (Below.refl _ _) _⟩

/-- The place of a path, or -1. -/
def findRes (l : List Wh.Mark) (p : ByteArray) : Int := match Wh.findM l p with | some k => (k : Int) | none => -1
theorem findRes_idx (l : List Wh.Mark) (p : ByteArray) : idxP (fun m => m.path.toList == p.toList) l = findRes l p := rfl

set_option maxHeartbeats 1000000 in
theorem find_any (xs : List Wh.Mark) (a : Option Addr) (c : Nat) (p : ByteArray) (w : World) (hl : xs.length ≤ 9223372036854775807) (hH : HoldsR w a 4 (xs.map markCells)) :
    Calls Tryz.prog 34 #[.slice a xs.length c, .string p] w fun e w' => e = .returned (.int .i64 (findRes xs p)) ∧ Below w.heap.size w w' := by
  have hb1 : Below w.heap.size w (w.alloc (.cells #[.string p] 9)) := bAlloc (Below.refl _ _) _
  have hc : (w.alloc (.cells #[.string p] 9)).cell? ⟨w.heap.size, 0, none⟩ = some (.string p) := by rw [World.cell?_alloc_at _ _ _ _ rfl]; rfl
  have hlt : w.heap.size < (w.alloc (.cells #[.string p] 9)).heap.size := by simp
  have HI := Lib.hid (indexFunc_mark 36 (.pointer (some ⟨w.heap.size, 0, none⟩)) (fun m => m.path.toList == p.toList) a c xs _ enters_chg11 hl (hH.under hb1) (fun x _ W hW => chg11_any x p w.heap.size W (Nat.lt_of_lt_of_le hlt hW.size) ((hW.cell (p := ⟨w.heap.size, 0, none⟩) hlt).trans hc)))
  rw [findRes_idx] at HI
  clear hH hc
  generalize findRes xs p = R at *
  go_enter Tryz.func34, Tryz.ntmps34
  go_upto_region 1 with fail
  go_wp2_with (go_at_call 35; refine HI.out.mono ?_; rintro e w2 ⟨rfl, hb2⟩)
  go_ret
  exact ⟨rfl, bTrans hb1 hb2⟩

theorem markOf {w : World} {a : Option Addr} {xs : List Wh.Mark} (h : HoldsR w a 4 (xs.map markCells)) {k : Nat} {x : Wh.Mark} (hk : xs[k]? = some x) : ∃ b off, a = some ⟨b, off, none⟩ ∧ MarkAt w (some ⟨b, off + k * 4, none⟩) (some x) := by
  obtain ⟨b, off, ha, hb, h0, h1, h2, h3⟩ := markRow h hk
  exact ⟨b, off, ha, b, off + k * 4, rfl, hb, h0, h1, h2, h3⟩

theorem markCells4 {w W : World} {b o : Nat} {x : Wh.Mark} (h : MarkAt w (some ⟨b, o, none⟩) (some x)) (hW : Below w.heap.size w W) :
    W.cell? ⟨b, o, none⟩ = some (.string x.path) ∧ W.cell? ⟨b, o + 1, none⟩ = some (.int .i64 x.size) ∧ W.cell? ⟨b, o + 2, none⟩ = some (.int .i64 x.time) ∧ W.cell? ⟨b, o + 3, none⟩ = some (.string x.sum) := by
  obtain ⟨b', o', e, hl, h0, h1, h2, h3⟩ := h.under hW
  injection e with e
  injection e with e1 e2
  subst e1 e2
  exact ⟨h0, h1, h2, h3⟩

theorem flat_step {α β : Type} {f : α → List β} {l : List α} {k : Nat} {x : α} (h : l[k]? = some x) : (l.take (k + 1)).flatMap f = (l.take k).flatMap f ++ f x := by
  have hlt := (List.getElem?_eq_some_iff.1 h).1
  rw [List.take_add_one, h]
  simp
theorem sayNow_none {o : List Wh.Mark} {y : Int} {m : Wh.Mark} (h : Wh.findM o m.path = none) : Wh.sayNow o y m = [⟨1, m.path⟩] := by unfold Wh.sayNow; rw [h]
theorem sayNow_some {o : List Wh.Mark} {y : Int} {m x : Wh.Mark} {j : Nat} (h : Wh.findM o m.path = some j) (hx : o[j]? = some x) : Wh.sayNow o y m = if Wh.differM x m y then [⟨2, m.path⟩] else [] := by unfold Wh.sayNow; rw [h]; simp only [hx]
theorem sayOld_none {n : List Wh.Mark} {m : Wh.Mark} (h : Wh.findM n m.path = none) : Wh.sayOld n m = [⟨3, m.path⟩] := by unfold Wh.sayOld; rw [h]; rfl
theorem sayOld_some {n : List Wh.Mark} {m : Wh.Mark} {j : Nat} (h : Wh.findM n m.path = some j) : Wh.sayOld n m = [] := by unfold Wh.sayOld; rw [h]; rfl

theorem rising_step {xs : List Wh.Mark} {k : Nat} {x z : Wh.Mark} (hx : xs[k]? = some x) (hz : xs[k + 1]? = some z) : Wh.rising (xs.drop k) = (decide (Wh.ordB x.path z.path < 0) && Wh.rising (xs.drop (k + 1))) := by
  have l1 := (List.getElem?_eq_some_iff.1 hx).1
  have l2 := (List.getElem?_eq_some_iff.1 hz).1
  have hdr : xs.drop k = x :: z :: xs.drop (k + 2) := by
    rw [List.drop_eq_getElem_cons l1, (List.getElem?_eq_some_iff.1 hx).2, List.drop_eq_getElem_cons l2, (List.getElem?_eq_some_iff.1 hz).2]
  have hdr1 : xs.drop (k + 1) = z :: xs.drop (k + 2) := by
    rw [List.drop_eq_getElem_cons l2, (List.getElem?_eq_some_iff.1 hz).2]
  rw [hdr, hdr1]
  rfl
theorem rising_end {xs : List Wh.Mark} {k : Nat} (h : xs.length ≤ k + 1) : Wh.rising (xs.drop k) = true := by
  match hm : xs.drop k with
  | [] => rfl
  | [_] => rfl
  | _ :: _ :: _ =>
    have := congrArg List.length hm
    simp at this
    omega

set_option maxHeartbeats 4000000 in
set_option maxRecDepth 100000 in
theorem refChanges_any (olds nows : List Wh.Mark) (aO aN : Option Addr) (cO cN : Nat) (y : Int) (w : World) (hlO : olds.length ≤ 2932031007317) (hlN : nows.length ≤ 2932031007317)
    (hHO : HoldsR w aO 4 (olds.map markCells)) (hHN : HoldsR w aN 4 (nows.map markCells)) (hoO : ∀ x ∈ olds, x.path.size ≤ 9223372036854775807) (hoN : ∀ x ∈ nows, x.path.size ≤ 9223372036854775807) :
    Calls Tryz.prog 14 #[.slice aO olds.length cO, .slice aN nows.length cN, .int .i64 y] w (ChgPost (Wh.chgOut y olds nows) (Wh.chgErr y olds nows) w) := by
  have hE : Wh.chgErr y olds nows = if decide (1 ≤ y ∧ y ≤ 3) then (if Wh.rising olds then (if Wh.rising nows then 0 else 10) else 10) else 5 := rfl
  have HE := Lib.hid hE
  have HOut0 : Hid (Wh.chgErr y olds nows = 0 → Wh.chgOut y olds nows = Wh.mergeC y (olds.length + nows.length) olds nows) := Lib.hid (fun h => if_pos h)
  have HOut1 : Hid (Wh.chgErr y olds nows ≠ 0 → Wh.chgOut y olds nows = []) := Lib.hid Wh.chgOut_bad
  have HLaw := Lib.hid (fun (ho : Wh.rising olds = true) (hn : Wh.rising nows = true) (d : List Wh.Change) hm hs => Wh.sorted_is_merge (y := y) ho hn (d := d) hm hs)
  have HNd := Lib.hid (fun (ho : Wh.rising olds = true) (hn : Wh.rising nows = true) => Wh.refC_nodup (y := y) (Wh.rising_up ho) (Wh.rising_up hn))
  have HFo := Lib.hid (fun p W (hb : Below w.heap.size w W) => find_any olds aO cO p W (by omega) (hHO.under hb))
  have HFn := Lib.hid (fun p W (hb : Below w.heap.size w W) => find_any nows aN cN p W (by omega) (hHN.under hb))
  have HHO := Lib.hid hHO
  have HHN := Lib.hid hHN
  have HoO := Lib.hid hoO
  have HoN := Lib.hid hoN
  have HTell0 : Hid (Wh.rising olds = true → ∀ c ∈ Wh.refC y olds nows, (∃ m ∈ olds, m.path = c.path) ∨ ∃ m ∈ nows, m.path = c.path) := Lib.hid (fun h c hc => Wh.tells_in ((Wh.refC_mem (Wh.rising_up h)).1 hc))
  have HRef : Hid (Wh.refC y olds nows = nows.flatMap (Wh.sayNow olds y) ++ olds.flatMap (Wh.sayOld nows)) := Lib.hid rfl
  clear hE hHO hHN hoO hoN
  generalize Wh.refC y olds nows = RC at *
  generalize Wh.chgErr y olds nows = E at *
  generalize Wh.chgOut y olds nows = Out at *
  have HE3 : Hid (E = if decide (1 ≤ y ∧ y ≤ 3) then (if Wh.rising olds then (if Wh.rising nows then 0 else 10) else 10) else 5) := HE
  have HTell : Hid (Wh.rising olds = true → ∀ c ∈ RC, (∃ m ∈ olds, m.path = c.path) ∨ ∃ m ∈ nows, m.path = c.path) := Lib.hid (fun h c hc => HTell0.out h c hc)
  clear HTell0
  generalize hgo : olds.length = LO at *
  generalize hgn : nows.length = LN at *
  have HGo := Lib.hid hgo
  have HGn := Lib.hid hgn
  clear hgo hgn
  have hen1 := enters_chg1
  by_cases hy : 1 ≤ y ∧ y ≤ 3
  case neg =>
    have HK : Hid (E = 5) := Lib.hid (by rw [HE.out, if_neg (by simpa using hy)])
    have e1 := HK.out
    subst e1
    have e2 := HOut1.out (by decide)
    subst e2
    by_cases y1 : y < 1
    · go_enter Tryz.func14, Tryz.ntmps14
      go_wp2_with fail
      go_ret2
      exact ⟨none, 0, rfl, .inl rfl, Below.refl _ _⟩
    · have y2 : 3 < y := by omega
      go_enter Tryz.func14, Tryz.ntmps14
      go_wp2_with fail
      go_ret2
      exact ⟨none, 0, rfl, .inl rfl, Below.refl _ _⟩
  obtain ⟨y1, y2⟩ := hy
  have y3 : ¬ y < 1 := by omega
  have y4 : ¬ 3 < y := by omega
  have HE2 : Hid (E = if Wh.rising olds then (if Wh.rising nows then 0 else 10) else 10) := Lib.hid (by rw [HE.out, if_pos (by simpa using And.intro y1 y2)])
  have hdy : decide (1 ≤ y ∧ y ≤ 3) = true := by simpa using And.intro y1 y2
  rw [hdy] at HE3
  clear HE hdy
  have hb1 : Below w.heap.size w (w.alloc (.cells #[.slice aO LO cO, .slice aN LN cN] 44)) := bAlloc (Below.refl _ _) _
  have HS0 := Lib.hid (show (w.alloc (.cells #[.slice aO LO cO, .slice aN LN cN] 44)).cell? ⟨w.heap.size, 0, none⟩ = some (.slice aO LO cO) by rw [World.cell?_alloc_at _ _ _ _ rfl]; rfl)
  have HS1 := Lib.hid (show (w.alloc (.cells #[.slice aO LO cO, .slice aN LN cN] 44)).cell? ⟨w.heap.size, 1, none⟩ = some (.slice aN LN cN) by rw [World.cell?_alloc_at _ _ _ _ rfl]; rfl)
  have hlt1 : w.heap.size < (w.alloc (.cells #[.slice aO LO cO, .slice aN LN cN] 44)).heap.size := by simp
  go_enter Tryz.func14, Tryz.ntmps14
  go_wp2_with fail
  generalize w.alloc _ = w1 at *
  have k0 := HS0.out
  have k1 := HS1.out
  go_loopg [28] 2 (fun g s28 wx => ∃ i : Nat, s28 = .int .i64 i ∧ i + g = 2 ∧ Below w1.heap.size w1 wx ∧ Hid ((0 < i → Wh.rising olds = true) ∧ (1 < i → Wh.rising nows = true)))
  case atStart => exact ⟨0, rfl, rfl, Below.refl _ _, Lib.hid ⟨fun h => absurd h (by decide), fun h => absurd h (by decide)⟩⟩
  case round =>
    obtain ⟨i, rfl, hi, hbA, HI⟩ := hrel
    by_cases hi2 : i < 2
    · obtain ⟨xs, ax, cx, L, hcell, HHx, Hox, HGx, hL, HBad, HGood⟩ : ∃ (xs : List Wh.Mark) (ax : Option Addr) (cx L : Nat), wr.cell? ⟨w.heap.size, i, none⟩ = some (.slice ax L cx) ∧ Hid (HoldsR w ax 4 (xs.map markCells)) ∧ Hid (∀ x ∈ xs, x.path.size ≤ 9223372036854775807) ∧ Hid (xs.length = L) ∧ L ≤ 2932031007317 ∧
          Hid (Wh.rising xs = false → E = 10) ∧ Hid (Wh.rising xs = true → (0 < i + 1 → Wh.rising olds = true) ∧ (1 < i + 1 → Wh.rising nows = true)) := by
        rcases (by omega : i = 0 ∨ i = 1) with rfl | rfl
        · exact ⟨olds, aO, cO, LO, (hbA.cell (p := ⟨w.heap.size, 0, none⟩) hlt1).trans HS0.out, HHO, HoO, HGo, hlO, Lib.hid (fun h => by rw [HE2.out, h]; rfl), Lib.hid (fun h => ⟨fun _ => h, fun h2 => absurd h2 (by decide)⟩)⟩
        · exact ⟨nows, aN, cN, LN, (hbA.cell (p := ⟨w.heap.size, 1, none⟩) hlt1).trans HS1.out, HHN, HoN, HGn, hlN, Lib.hid (fun h => by rw [HE2.out, HI.out.1 (by decide), h]; rfl), Lib.hid (fun h => ⟨fun _ => HI.out.1 (by decide), fun _ => h⟩)⟩
      obtain ⟨g0, rfl⟩ : ∃ g0, gk = g0 + 1 := ⟨gk - 1, by omega⟩
      have hi3 : i + 1 + g0 = 2 := by omega
      have hi2' : (i : Int) < 2 := by omega
      have hi4 : (0 : Int) ≤ (i : Int) := by omega
      have hd2 : decide ((i : Int) < 2) = true := by simpa using hi2'
      clear HI HS0 HS1 HE2 k0 k1
      go_wp2_with fail
      go_loopg [35] (L - 1) (fun g s35 wx => ∃ k : Nat, k + 1 + g = max L 1 ∧ s35 = .int .i64 k ∧ Below w1.heap.size w1 wx ∧ Hid (Wh.rising xs = Wh.rising (xs.drop k)))
      case atStart => exact ⟨0, by omega, rfl, hbA, Lib.hid rfl⟩
      case round =>
        obtain ⟨k, hk, rfl, hb, HR⟩ := hrel
        by_cases hlt : k + 1 < L
        · obtain ⟨g, rfl⟩ : ∃ g, gk = g + 1 := ⟨gk - 1, by omega⟩
          obtain ⟨x, hx⟩ : ∃ x, xs[k]? = some x := ⟨_, List.getElem?_eq_getElem (by rw [HGx.out]; omega)⟩
          obtain ⟨z, hz⟩ : ∃ z, xs[k + 1]? = some z := ⟨_, List.getElem?_eq_getElem (by rw [HGx.out]; omega)⟩
          obtain ⟨ba, off, ha, hba, hc0⟩ := markRow' (HHx.out.under (bTrans hb1 hb)) hx
          obtain ⟨ba', off', ha', hba', hd0⟩ := markRow' (HHx.out.under (bTrans hb1 hb)) hz
          rw [ha] at ha'
          injection ha' with e
          injection e with e1 e2
          subst e1 e2
          subst ha
          have hst := rising_step hx hz
          rw [hst] at HR
          have HC : Hid (∀ W, Calls Tryz.prog 33 #[.string x.path, .string z.path] W fun e w' => e = .returned (.int .i64 (Wh.ordB x.path z.path)) ∧ ∃ n, w' = W.drewN n) := Lib.hid (fun W => order_drew x.path z.path W (Hox.out x (List.mem_of_getElem? hx)) (Hox.out z (List.mem_of_getElem? hz)))
          clear hx hz hst
          generalize Wh.ordB x.path z.path = R at *
          have hk1 : k < L := by omega
          have hk2 : (0 : Int) ≤ (k : Int) + 1 := by omega
          have hk3 : (k : Int) + 1 < (L : Int) := by omega
          have HWK := Lib.hid (show IntKind.i64.wrap ((k : Int) + 1) = (k : Int) + 1 by simp [IntKind.wrap, IntKind.bits, IntKind.signed]; omega)
          have hlt' : (k : Int) < (L : Int) - 1 := by omega
          have HP := Lib.hid (fun W (hW : Below wr.heap.size wr W) => And.intro ((hW.cell (p := ⟨ba, off + k * 4, none⟩) hba).trans hc0) ((hW.cell (p := ⟨ba, off + (k + 1) * 4, none⟩) hba).trans hd0))
          clear hc0 hd0 hba hba'
          go_wp2_with fail
          have hS : Below wr.heap.size wr wr := Below.refl _ _
          refine wp_region_seq (Below wr.heap.size wr) [(0, true), (1, true), (2, true), (3, true), (4, true), (5, true), (6, true), (7, true), (8, true), (9, true), (10, true), (11, false), (12, true)] (by as_aux_lemma => kernel_rfl) (by as_aux_lemma => kernel_rfl) (by decide) (by as_aux_lemma => kernel_rfl) (drB hS) ?_
          intro OPS HOP
          refine seq_take (o := ⟨_, _, _, _, _, _⟩) (v := ?_) (by rw [HOP.out]; rfl) (by rfl) ?_ ?_
          rotate_left 1
          · first | ((intro W _; go_simp) <;> with_reducible rfl) | (intro W hW; obtain ⟨p1, p2⟩ := HP.out _ hW; (go_simp <;> with_reducible rfl))
          try simp only [Act.put, List.setIfInBounds_toArray, List.set_cons_zero, List.set_cons_succ]
          refine seq_take (o := ⟨_, _, _, _, _, _⟩) (v := ?_) (by rw [HOP.out]; rfl) (by rfl) ?_ ?_
          rotate_left 1
          · first | ((intro W _; go_simp) <;> with_reducible rfl) | (intro W hW; obtain ⟨p1, p2⟩ := HP.out _ hW; (go_simp <;> with_reducible rfl))
          try simp only [Act.put, List.setIfInBounds_toArray, List.set_cons_zero, List.set_cons_succ]
          refine seq_take (o := ⟨_, _, _, _, _, _⟩) (v := ?_) (by rw [HOP.out]; rfl) (by rfl) ?_ ?_
          rotate_left 1
          · first | ((intro W _; go_simp) <;> with_reducible rfl) | (intro W hW; obtain ⟨p1, p2⟩ := HP.out _ hW; (go_simp <;> with_reducible rfl))
          try simp only [Act.put, List.setIfInBounds_toArray, List.set_cons_zero, List.set_cons_succ]
          refine seq_take (o := ⟨_, _, _, _, _, _⟩) (v := ?_) (by rw [HOP.out]; rfl) (by rfl) ?_ ?_
          rotate_left 1
          · first | ((intro W _; go_simp) <;> with_reducible rfl) | (intro W hW; obtain ⟨p1, p2⟩ := HP.out _ hW; (go_simp <;> with_reducible rfl))
          try simp only [Act.put, List.setIfInBounds_toArray, List.set_cons_zero, List.set_cons_succ]
          refine seq_take (o := ⟨_, _, _, _, _, _⟩) (v := ?_) (by rw [HOP.out]; rfl) (by rfl) ?_ ?_
          rotate_left 1
          · first | ((intro W _; go_simp) <;> with_reducible rfl) | (intro W hW; obtain ⟨p1, p2⟩ := HP.out _ hW; (go_simp <;> with_reducible rfl))
          try simp only [Act.put, List.setIfInBounds_toArray, List.set_cons_zero, List.set_cons_succ]
          refine seq_take (o := ⟨_, _, _, _, _, _⟩) (v := ?_) (by rw [HOP.out]; rfl) (by rfl) ?_ ?_
          rotate_left 1
          · first | ((intro W _; go_simp) <;> with_reducible rfl) | (intro W hW; obtain ⟨p1, p2⟩ := HP.out _ hW; (go_simp <;> with_reducible rfl))
          try simp only [Act.put, List.setIfInBounds_toArray, List.set_cons_zero, List.set_cons_succ]
          refine seq_take (o := ⟨_, _, _, _, _, _⟩) (v := ?_) (by rw [HOP.out]; rfl) (by rfl) ?_ ?_
          rotate_left 1
          · first | ((intro W _; go_simp) <;> with_reducible rfl) | (intro W hW; obtain ⟨p1, p2⟩ := HP.out _ hW; (go_simp <;> with_reducible rfl))
          try simp only [Act.put, List.setIfInBounds_toArray, List.set_cons_zero, List.set_cons_succ]
          refine seq_take (o := ⟨_, _, _, _, _, _⟩) (v := ?_) (by rw [HOP.out]; rfl) (by rfl) ?_ ?_
          rotate_left 1
          · first | ((intro W _; go_simp) <;> with_reducible rfl) | (intro W hW; obtain ⟨p1, p2⟩ := HP.out _ hW; (go_simp <;> with_reducible rfl))
          try simp only [Act.put, List.setIfInBounds_toArray, List.set_cons_zero, List.set_cons_succ]
          have hwk := HWK.out
          simp only [hwk]
          clear hwk
          refine seq_take (o := ⟨_, _, _, _, _, _⟩) (v := ?_) (by rw [HOP.out]; rfl) (by rfl) ?_ ?_
          rotate_left 1
          · first | ((intro W _; go_simp) <;> with_reducible rfl) | (intro W hW; obtain ⟨p1, p2⟩ := HP.out _ hW; (go_simp <;> with_reducible rfl))
          try simp only [Act.put, List.setIfInBounds_toArray, List.set_cons_zero, List.set_cons_succ]
          refine seq_take (o := ⟨_, _, _, _, _, _⟩) (v := ?_) (by rw [HOP.out]; rfl) (by rfl) ?_ ?_
          rotate_left 1
          · first | ((intro W _; go_simp) <;> with_reducible rfl) | (intro W hW; obtain ⟨p1, p2⟩ := HP.out _ hW; (go_simp <;> with_reducible rfl))
          try simp only [Act.put, List.setIfInBounds_toArray, List.set_cons_zero, List.set_cons_succ]
          refine seq_take (o := ⟨_, _, _, _, _, _⟩) (v := ?_) (by rw [HOP.out]; rfl) (by rfl) ?_ ?_
          rotate_left 1
          · first | ((intro W _; go_simp) <;> with_reducible rfl) | (intro W hW; obtain ⟨p1, p2⟩ := HP.out _ hW; (go_simp <;> with_reducible rfl))
          try simp only [Act.put, List.setIfInBounds_toArray, List.set_cons_zero, List.set_cons_succ]
          refine seq_do (o := ⟨_, _, _, _, _, _⟩) (by rw [HOP.out]; rfl) (by rfl) (fun K hK => ?_)
          replace hS := drB hS
          go_wp2_with (go_at_call 33; refine (HC.out _).mono ?_; rintro e w4 ⟨rfl, nd, rfl⟩; replace hS := bDrewN (Below.refl wr.heap.size wr) (1 + nd))
          refine hK.out _ _ hS (fun _ => ?_)
          clear hK K
          try simp only [Act.put, List.setIfInBounds_toArray, List.set_cons_zero, List.set_cons_succ]
          refine seq_take (o := ⟨_, _, _, _, _, _⟩) (v := ?_) (by rw [HOP.out]; rfl) (by rfl) ?_ ?_
          rotate_left 1
          · first | ((intro W _; go_simp) <;> with_reducible rfl) | (intro W hW; obtain ⟨p1, p2⟩ := HP.out _ hW; (go_simp <;> with_reducible rfl))
          try simp only [Act.put, List.setIfInBounds_toArray, List.set_cons_zero, List.set_cons_succ]
          refine seq_done ?_
          clear HOP OPS
          by_cases hR : R < 0
          · have HR2 : Hid (Wh.rising xs = Wh.rising (xs.drop (k + 1))) := Lib.hid (by rw [HR.out]; simp [hR])
            go_wp2_with fail
            go_roundg g
            case measure => omega
            case rel => exact ⟨k + 1, by omega, by go_num, bTrans hb hS, HR2⟩
          · have HR2 : Hid (Wh.rising xs = false) := Lib.hid (by rw [HR.out]; simp [hR])
            have HK : Hid (E = 10) := Lib.hid (HBad.out HR2.out)
            go_wp2_with fail
            go_ret2
            have e1 := HK.out
            subst e1
            have e2 := HOut1.out (by decide)
            subst e2
            exact ⟨none, 0, rfl, .inl rfl, bTrans hb1 (bTrans hb hS)⟩
        · have HTL : Hid (Wh.rising xs = true) := Lib.hid (by rw [HR.out]; exact rising_end (by rw [HGx.out]; omega))
          clear HR
          have hlt' : ¬ (k : Int) < (L : Int) - 1 := by omega
          have HI2 := Lib.hid (HGood.out HTL.out)
          clear HTL hlt hk HGood HBad HHx Hox
          go_wp2_with fail
          go_roundg g0
          case measure => omega
          case rel => exact ⟨i + 1, by go_num, hi3, hb, HI2⟩

    · obtain rfl : i = 2 := by omega
      have HTLO : Hid (Wh.rising olds = true) := Lib.hid (HI.out.1 (by decide))
      have HTLN : Hid (Wh.rising nows = true) := Lib.hid (HI.out.2 (by decide))
      have hbw : Below w.heap.size w wr := bTrans hb1 hbA
      clear hbA HI HOut1 hi2 hi k0 k1 HS0 HS1 HE2
      go_wp2_with fail
      go_loopg [55, 12] LN (fun g s55 s12 wx => ∃ (k : Nat) (a : Option Addr) (cap : Nat) (acc : List Wh.Change), s55 = .int .i64 k ∧ s12 = .slice a acc.length cap ∧ k + g = LN ∧ acc.length ≤ k ∧ Hid (OwnCh w wx a cap acc) ∧ Hid (acc = (nows.take k).flatMap (Wh.sayNow olds y)))
      case atStart => exact ⟨0, none, 0, [], rfl, rfl, by omega, by simp, Lib.hid (OwnCh.nil hbw), Lib.hid rfl⟩
      case round =>
        clear hbw
        obtain ⟨k, a, cap, acc, rfl, rfl, hk, hak, HO, HA⟩ := hrel
        by_cases hlt : k < LN
        · have hltI : (k : Int) < (LN : Int) := by omega
          have hk0 : (0 : Int) ≤ (k : Int) := by omega
          obtain ⟨g, rfl⟩ : ∃ g, gk = g + 1 := ⟨gk - 1, by omega⟩
          obtain ⟨m, hm⟩ : ∃ m, nows[k]? = some m := ⟨_, List.getElem?_eq_getElem (by rw [HGn.out]; omega)⟩
          obtain ⟨bb, off, ha, hMA⟩ := markOf (HHN.out.under HO.out.below) hm
          obtain ⟨c0, c1, c2, c3⟩ := markCells4 hMA (Below.refl _ _)
          subst ha
          have Hm := Lib.hid hm
          clear hm hMA
          have hacc : acc.length < 5864062014634 := by omega
          have hb5 : Below wr.heap.size wr (wr.alloc (markObj m)) := bAlloc (Below.refl _ _) _
          have HB5 := Lib.hid (markBox_new wr m)
          unfold markObj at *
          go_upto_region 18 with fail
          clear c0 c1 c2 c3
          generalize wr.alloc _ = w5 at *
          have HO5 := Lib.hid (HO.out.under hb5)
          obtain ⟨p0, p1, p2, p3, p4⟩ := HB5.out

          have HSt := Lib.hid (flat_step (f := Wh.sayNow olds y) Hm.out)
          have HFi := Lib.hid (HFo.out m.path w5 HO5.out.below)
          cases hf : Wh.findM olds m.path with
          | none =>
            have hr : findRes olds m.path = -1 := by unfold findRes; rw [hf]
            have HA2 : Hid (acc ++ [⟨1, m.path⟩] = (nows.take (k + 1)).flatMap (Wh.sayNow olds y)) := Lib.hid (by rw [HSt.out, ← HA.out, sayNow_none hf])
            rw [hr] at HFi
            clear hr hf
            go_upto_region 19 with (go_at_call 34; refine HFi.out.mono ?_; rintro e w6 ⟨rfl, hb6⟩)
            have HO6 := Lib.hid (HO5.out.under hb6)
            obtain ⟨q0, q1, q2, q3, q4⟩ := HB5.out.under hb6
            clear p0 p1 p2 p3 p4
            go_wp2_with (at_builtin; refine wp_appCh HO6.out ⟨1, m.path⟩ hacc rfl (.tmp 67) (.tmp 71) rfl rfl rfl ?_; intro g3 cap3 w9 hO9)
            go_roundg g
            case measure => omega
            case rel => exact ⟨k + 1, _, _, acc ++ [⟨1, m.path⟩], by go_num, by simp, by omega, by simp; omega, Lib.hid hO9, HA2⟩
          | some j =>
            have hr : findRes olds m.path = (j : Int) := by unfold findRes; rw [hf]
            obtain ⟨x, hxj, -, -⟩ := Wh.findM_some hf
            have hjl : j < LO := by have := (List.getElem?_eq_some_iff.1 hxj).1; rw [HGo.out] at this; exact this
            have HA2 : Hid (acc ++ (if Wh.differM x m y then [⟨2, m.path⟩] else []) = (nows.take (k + 1)).flatMap (Wh.sayNow olds y)) := Lib.hid (by rw [HSt.out, ← HA.out, sayNow_some hf hxj])
            rw [hr] at HFi
            clear hr hf
            go_upto_region 19 with (go_at_call 34; refine HFi.out.mono ?_; rintro e w6 ⟨rfl, hb6⟩)
            have HO6 := Lib.hid (HO5.out.under hb6)
            have HB6 := Lib.hid (HB5.out.under hb6)
            obtain ⟨q0, q1, q2, q3, q4⟩ := HB6.out
            clear p0 p1 p2 p3 p4
            obtain ⟨bo, oo, hao, hMO⟩ := markOf (HHO.out.under HO6.out.below) hxj
            subst hao
            have HPo := Lib.hid (fun W (hW : Below w6.heap.size w6 W) => markCells4 hMO hW)
            have HPb := Lib.hid (fun W (hW : Below w6.heap.size w6 W) => (HB6.out.under hW).2)
            have HD := Lib.hid (fun W => refDiffer_any x m y W)
            clear hMO hxj
            generalize Wh.differM x m y = D at *
            have hj0 : ¬ (j : Int) < 0 := by omega
            have hj1 : (0 : Int) ≤ (j : Int) := by omega
            have hj2 : (j : Int) < (LO : Int) := by omega
            go_upto_region 21 with fail
            have hS : Below w6.heap.size w6 w6 := Below.refl _ _
            refine wp_region_seq (Below w6.heap.size w6) [(0, true), (1, true), (2, true), (3, true), (4, true), (5, true), (6, false), (7, true)] (by as_aux_lemma => kernel_rfl) (by as_aux_lemma => kernel_rfl) (by decide) (by as_aux_lemma => kernel_rfl) (drB hS) ?_
            intro OPS HOP
            refine seq_take (o := ⟨_, _, _, _, _, _⟩) (v := ?_) (by rw [HOP.out]; rfl) (by rfl) ?_ ?_
            rotate_left 1
            · first | ((intro W _; go_simp) <;> with_reducible rfl) | (intro W hW; obtain ⟨r0, r1, r2, r3⟩ := HPo.out _ hW; obtain ⟨s0, s1, s2, s3⟩ := HPb.out _ hW; (go_simp <;> with_reducible rfl))
            try simp only [Act.put, List.setIfInBounds_toArray, List.set_cons_zero, List.set_cons_succ]
            refine seq_take (o := ⟨_, _, _, _, _, _⟩) (v := ?_) (by rw [HOP.out]; rfl) (by rfl) ?_ ?_
            rotate_left 1
            · first | ((intro W _; go_simp) <;> with_reducible rfl) | (intro W hW; obtain ⟨r0, r1, r2, r3⟩ := HPo.out _ hW; obtain ⟨s0, s1, s2, s3⟩ := HPb.out _ hW; (go_simp <;> with_reducible rfl))
            try simp only [Act.put, List.setIfInBounds_toArray, List.set_cons_zero, List.set_cons_succ]
            refine seq_take (o := ⟨_, _, _, _, _, _⟩) (v := ?_) (by rw [HOP.out]; rfl) (by rfl) ?_ ?_
            rotate_left 1
            · first | ((intro W _; go_simp) <;> with_reducible rfl) | (intro W hW; obtain ⟨r0, r1, r2, r3⟩ := HPo.out _ hW; obtain ⟨s0, s1, s2, s3⟩ := HPb.out _ hW; (go_simp <;> with_reducible rfl))
            try simp only [Act.put, List.setIfInBounds_toArray, List.set_cons_zero, List.set_cons_succ]
            refine seq_take (o := ⟨_, _, _, _, _, _⟩) (v := ?_) (by rw [HOP.out]; rfl) (by rfl) ?_ ?_
            rotate_left 1
            · first | ((intro W _; go_simp) <;> with_reducible rfl) | (intro W hW; obtain ⟨r0, r1, r2, r3⟩ := HPo.out _ hW; obtain ⟨s0, s1, s2, s3⟩ := HPb.out _ hW; (go_simp <;> with_reducible rfl))
            try simp only [Act.put, List.setIfInBounds_toArray, List.set_cons_zero, List.set_cons_succ]
            refine seq_take (o := ⟨_, _, _, _, _, _⟩) (v := ?_) (by rw [HOP.out]; rfl) (by rfl) ?_ ?_
            rotate_left 1
            · first | ((intro W _; go_simp) <;> with_reducible rfl) | (intro W hW; obtain ⟨r0, r1, r2, r3⟩ := HPo.out _ hW; obtain ⟨s0, s1, s2, s3⟩ := HPb.out _ hW; (go_simp <;> with_reducible rfl))
            try simp only [Act.put, List.setIfInBounds_toArray, List.set_cons_zero, List.set_cons_succ]
            refine seq_take (o := ⟨_, _, _, _, _, _⟩) (v := ?_) (by rw [HOP.out]; rfl) (by rfl) ?_ ?_
            rotate_left 1
            · first | ((intro W _; go_simp) <;> with_reducible rfl) | (intro W hW; obtain ⟨r0, r1, r2, r3⟩ := HPo.out _ hW; obtain ⟨s0, s1, s2, s3⟩ := HPb.out _ hW; (go_simp <;> with_reducible rfl))
            try simp only [Act.put, List.setIfInBounds_toArray, List.set_cons_zero, List.set_cons_succ]
            refine seq_do (o := ⟨_, _, _, _, _, _⟩) (by rw [HOP.out]; rfl) (by rfl) (fun K hK => ?_)
            replace hS := drB hS
            go_wp2_with (go_at_call 37; refine (HD.out _).mono ?_; rintro e w7 ⟨rfl, hb7⟩; replace hS := bTrans hS hb7; clear hb7)
            refine hK.out _ _ hS (fun _ => ?_)
            clear hK K
            try simp only [Act.put, List.setIfInBounds_toArray, List.set_cons_zero, List.set_cons_succ]
            refine seq_take (o := ⟨_, _, _, _, _, _⟩) (v := ?_) (by rw [HOP.out]; rfl) (by rfl) ?_ ?_
            rotate_left 1
            · first | ((intro W _; go_simp) <;> with_reducible rfl) | (intro W hW; obtain ⟨r0, r1, r2, r3⟩ := HPo.out _ hW; obtain ⟨s0, s1, s2, s3⟩ := HPb.out _ hW; (go_simp <;> with_reducible rfl))
            try simp only [Act.put, List.setIfInBounds_toArray, List.set_cons_zero, List.set_cons_succ]
            refine seq_done ?_
            clear HOP OPS
            replace HO6 := Lib.hid (HO6.out.under hS)
            obtain ⟨s0, s1, s2, s3⟩ := HPb.out _ hS
            clear q0 q1 q2 q3 q4
            cases D
            · replace HA2 : Hid (acc = (nows.take (k + 1)).flatMap (Wh.sayNow olds y)) := Lib.hid (by rw [← HA2.out]; simp)
              go_wp2_with fail
              go_roundg g
              case measure => omega
              case rel => exact ⟨k + 1, _, _, acc, by go_num, rfl, by omega, by omega, HO6, HA2⟩
            · replace HA2 : Hid (acc ++ [⟨2, m.path⟩] = (nows.take (k + 1)).flatMap (Wh.sayNow olds y)) := Lib.hid (by rw [← HA2.out]; simp)
              go_wp2_with (at_builtin; refine wp_appCh HO6.out ⟨2, m.path⟩ hacc rfl (.tmp 81) (.tmp 85) rfl rfl rfl ?_; intro g3 cap3 w9 hO9)
              go_roundg g
              case measure => omega
              case rel => exact ⟨k + 1, _, _, acc ++ [⟨2, m.path⟩], by go_num, by simp, by omega, by simp; omega, Lib.hid hO9, HA2⟩
        · have HA1 : Hid (acc = nows.flatMap (Wh.sayNow olds y)) := Lib.hid (by rw [HA.out, List.take_of_length_le (by rw [HGn.out]; omega)])
          have hak2 : acc.length ≤ LN := by omega
          have hltF : ¬ (k : Int) < (LN : Int) := by omega
          clear HA hak hk hlt
          go_wp2_with fail
          clear hltF
          go_loopg [90, 12] LO (fun g s90 s12 wx => ∃ (k : Nat) (a : Option Addr) (cap : Nat) (acc : List Wh.Change), s90 = .int .i64 k ∧ s12 = .slice a acc.length cap ∧ k + g = LO ∧ acc.length ≤ LN + k ∧ Hid (OwnCh w wx a cap acc) ∧ Hid (acc = nows.flatMap (Wh.sayNow olds y) ++ (olds.take k).flatMap (Wh.sayOld nows)))
          case atStart => exact ⟨0, a, cap, acc, rfl, rfl, by omega, by omega, HO, Lib.hid (by rw [← HA1.out]; simp)⟩
          case round =>
            clear HA1 HO hak2
            obtain ⟨k, a, cap, acc, rfl, rfl, hk, hak, HO, HA⟩ := hrel
            by_cases hlt : k < LO
            · have hltI : (k : Int) < (LO : Int) := by omega
              have hk0 : (0 : Int) ≤ (k : Int) := by omega
              obtain ⟨g, rfl⟩ : ∃ g, gk = g + 1 := ⟨gk - 1, by omega⟩
              obtain ⟨m, hm⟩ : ∃ m, olds[k]? = some m := ⟨_, List.getElem?_eq_getElem (by rw [HGo.out]; omega)⟩
              obtain ⟨bb, off, ha, hMA⟩ := markOf (HHO.out.under HO.out.below) hm
              obtain ⟨c0, c1, c2, c3⟩ := markCells4 hMA (Below.refl _ _)
              subst ha
              have Hm := Lib.hid hm
              clear hm hMA
              have hacc : acc.length < 5864062014634 := by omega
              have hb5 : Below wr.heap.size wr (wr.alloc (markObj m)) := bAlloc (Below.refl _ _) _
              have HB5 := Lib.hid (markBox_new wr m)
              unfold markObj at *
              go_upto_region 27 with fail
              clear c0 c1 c2 c3
              generalize wr.alloc _ = w5 at *
              have HO5 := Lib.hid (HO.out.under hb5)
              obtain ⟨p0, p1, p2, p3, p4⟩ := HB5.out

              have HSt := Lib.hid (flat_step (f := Wh.sayOld nows) Hm.out)
              have HFi := Lib.hid (HFn.out m.path w5 HO5.out.below)
              cases hf : Wh.findM nows m.path with
              | none =>
                have hr : findRes nows m.path = -1 := by unfold findRes; rw [hf]
                have HA2 : Hid (acc ++ [⟨3, m.path⟩] = nows.flatMap (Wh.sayNow olds y) ++ (olds.take (k + 1)).flatMap (Wh.sayOld nows)) := Lib.hid (by rw [HSt.out, HA.out, sayOld_none hf, List.append_assoc])
                rw [hr] at HFi
                clear hr hf
                go_upto_region 28 with (go_at_call 34; refine HFi.out.mono ?_; rintro e w6 ⟨rfl, hb6⟩)
                have HO6 := Lib.hid (HO5.out.under hb6)
                obtain ⟨q0, q1, q2, q3, q4⟩ := HB5.out.under hb6
                clear p0 p1 p2 p3 p4
                go_wp2_with (at_builtin; refine wp_appCh HO6.out ⟨3, m.path⟩ hacc rfl (.tmp 100) (.tmp 104) rfl rfl rfl ?_; intro g3 cap3 w9 hO9)
                go_roundg g
                case measure => omega
                case rel => exact ⟨k + 1, _, _, acc ++ [⟨3, m.path⟩], by go_num, by simp, by omega, by simp; omega, Lib.hid hO9, HA2⟩
              | some j =>
                have hr : findRes nows m.path = (j : Int) := by unfold findRes; rw [hf]
                have HA2 : Hid (acc = nows.flatMap (Wh.sayNow olds y) ++ (olds.take (k + 1)).flatMap (Wh.sayOld nows)) := Lib.hid (by rw [HSt.out, sayOld_some hf, List.append_nil]; exact HA.out)
                rw [hr] at HFi
                clear hr hf
                have hj0 : ¬ (j : Int) < 0 := by omega
                go_wp2_with (go_at_call 34; refine HFi.out.mono ?_; rintro e w6 ⟨rfl, hb6⟩)
                go_roundg g
                case measure => omega
                case rel => exact ⟨k + 1, _, _, acc, by go_num, rfl, by omega, by omega, Lib.hid (HO5.out.under hb6), HA2⟩
            · have HA1 : Hid (acc = RC) := Lib.hid (by rw [HA.out, List.take_of_length_le (by rw [HGo.out]; omega)]; exact HRef.out.symm)
              have hpr := HNd.out HTLO.out HTLN.out
              rw [← HA1.out] at hpr
              have hsz : ∀ c ∈ acc, c.path.size ≤ 9223372036854775807 := by
                intro c hc
                rw [HA1.out] at hc
                rcases HTell.out HTLO.out c hc with ⟨m, hm, e⟩ | ⟨m, hm, e⟩
                · rw [← e]; exact HoO.out m hm
                · rw [← e]; exact HoN.out m hm
              have HSo := Lib.hid (sortCh_any HO.out hpr hsz (by omega))
              clear hpr hsz
              have HF : Hid (∀ d : List Wh.Change, d.length = acc.length → Wh.UpC d → (∀ c, c ∈ d ↔ c ∈ acc) → d = Out ∧ E = 0) := Lib.hid (fun d _ h2 h3 => by
                have hE0 : E = 0 := by rw [HE3.out, HTLO.out, HTLN.out]; rfl
                refine ⟨?_, hE0⟩
                rw [HOut0.out hE0]
                exact HLaw.out HTLO.out HTLN.out d (fun c => by rw [h3 c, HA1.out]) h2)
              have hltF : ¬ (k : Int) < (LO : Int) := by omega
              clear HA HA1 HO hlt hk hak
              go_wp2_with (go_at_call 38; refine HSo.out.mono ?_; rintro e w8 ⟨rfl, d, hd1, hd2, hd3, hd4, hd5⟩)
              go_ret2
              obtain ⟨rfl, rfl⟩ := HF.out d hd1 hd2 hd3
              rw [← hd1]
              exact ⟨a, cap, rfl, hd4, hd5⟩


end Go.Proofs.YtiliijiohmeagaaGreatDoor
