/-
 The texts Ru5, Ru6, Ru7, Ru8, in one.
-/
import Derived.Test.YtfenmeacimfiaaaGreatDoorRuA
namespace Go.Proofs.YtfenmeacimfiaaaGreatDoor
open Go.RowKit

theorem cells6 {W : World} {b1 b2 : Nat} {v0 v1 v2 u0 u1 u2 : Value} {y z : TypeId} (h : BoxIs W b1 #[v0, v1, v2] y ∧ BoxIs W b2 #[u0, u1, u2] z) : W.cell? ⟨b1, 0, none⟩ = some v0 ∧ W.cell? ⟨b1, 1, none⟩ = some v1 ∧ W.cell? ⟨b1, 2, none⟩ = some v2 ∧ W.cell? ⟨b2, 0, none⟩ = some u0 ∧ W.cell? ⟨b2, 1, none⟩ = some u1 ∧ W.cell? ⟨b2, 2, none⟩ = some u2 := ⟨h.1.cell rfl, h.1.cell rfl, h.1.cell rfl, h.2.cell rfl, h.2.cell rfl, h.2.cell rfl⟩
theorem cells8 {W : World} {b1 b2 : Nat} {v0 v1 v2 v3 u0 u1 u2 u3 : Value} {y z : TypeId} (h : BoxIs W b1 #[v0, v1, v2, v3] y ∧ BoxIs W b2 #[u0, u1, u2, u3] z) : W.cell? ⟨b1, 0, none⟩ = some v0 ∧ W.cell? ⟨b1, 1, none⟩ = some v1 ∧ W.cell? ⟨b1, 2, none⟩ = some v2 ∧ W.cell? ⟨b1, 3, none⟩ = some v3 ∧ W.cell? ⟨b2, 0, none⟩ = some u0 ∧ W.cell? ⟨b2, 1, none⟩ = some u1 ∧ W.cell? ⟨b2, 2, none⟩ = some u2 ∧ W.cell? ⟨b2, 3, none⟩ = some u3 := ⟨h.1.cell rfl, h.1.cell rfl, h.1.cell rfl, h.1.cell rfl, h.2.cell rfl, h.2.cell rfl, h.2.cell rfl, h.2.cell rfl⟩
theorem cells10 {W : World} {b1 b2 : Nat} {v0 v1 v2 v3 v4 u0 u1 u2 u3 u4 : Value} {y z : TypeId} (h : BoxIs W b1 #[v0, v1, v2, v3, v4] y ∧ BoxIs W b2 #[u0, u1, u2, u3, u4] z) : W.cell? ⟨b1, 0, none⟩ = some v0 ∧ W.cell? ⟨b1, 1, none⟩ = some v1 ∧ W.cell? ⟨b1, 2, none⟩ = some v2 ∧ W.cell? ⟨b1, 3, none⟩ = some v3 ∧ W.cell? ⟨b1, 4, none⟩ = some v4 ∧ W.cell? ⟨b2, 0, none⟩ = some u0 ∧ W.cell? ⟨b2, 1, none⟩ = some u1 ∧ W.cell? ⟨b2, 2, none⟩ = some u2 ∧ W.cell? ⟨b2, 3, none⟩ = some u3 ∧ W.cell? ⟨b2, 4, none⟩ = some u4 := ⟨h.1.cell rfl, h.1.cell rfl, h.1.cell rfl, h.1.cell rfl, h.1.cell rfl, h.2.cell rfl, h.2.cell rfl, h.2.cell rfl, h.2.cell rfl, h.2.cell rfl⟩
open Classical in
noncomputable def dq (P : Prop) : Bool := decide P
theorem dq_t {P : Prop} (h : P) : dq P = true := by
 unfold dq
 simp [h]
theorem dq_f {P : Prop} (h : ¬ P) : dq P = false := by
 unfold dq
 simp [h]
theorem of_dq {P : Prop} (h : dq P = true) : P := by
 unfold dq at h
 simpa using h
theorem dq_iff {P Q : Prop} (h : P ↔ Q) : dq P = dq Q := by rw [propext h]
abbrev DecP (Q : Prop) (w : World) (e : Ending) (w' : World) : Prop := e = .returned (.bool (dq Q)) ∧ Below w.heap.size w w'
theorem all2_of2 {α β : Type} {R : α → β → Prop} : ∀ {xs : List α} {ys : List β}, xs.length = ys.length → (∀ (i : Nat) (p : α) (q : β), xs[i]? = some p → ys[i]? = some q → R p q) → All2 R xs ys
 | [], [], _, _ => .nil
 | [], _ :: _, h, _ => by cases h
 | _ :: _, [], h, _ => by cases h
 | x :: xs, y :: ys, h, hr => .cons (hr 0 x y rfl rfl) (all2_of2 (by simpa using h) (fun i p q hp hq => hr (i + 1) p q hp hq))
theorem neqRg2 (a b c d : Int) (w : World) : (binOp .neq 164 (.agg #[.int .i64 a, .int .i64 b]) (.agg #[.int .i64 c, .int .i64 d])).run Tryz.prog w = .ok (.bool (!((a == c) && (b == d)))) w := by
 have u0 := Tryz.underlying3
 have hu : Tryz.prog.underlying 164 = some (.array 2 3) := by kernel_rfl
 have hc : Tryz.prog.cellsOf 3 = 1 := by kernel_rfl
 obtain ⟨i, hi⟩ : ∃ i, Tryz.prog.info? 3 = some i := Option.isSome_iff_exists.1 (by kernel_rfl)
 rw [run_neq_struct, show (10000 : Nat) = 9999 + 1 from rfl, run_equalIn_array w 9999 _ _ hu hi, show List.range 2 = [0, 1] from rfl]
 simp only [Op.eqItems, hc]
 cases h1 : (a == c) <;> cases h2 : (b == d) <;> go_simp

set_option maxHeartbeats 2000000 in
set_option maxRecDepth 100000 in
theorem equalRg2 (s t : Sl (Int × Int)) (w : World) (h1 : SlHolds w 2 rgCells s) (h2 : SlHolds w 2 rgCells t) :
  Calls Tryz.prog 222 #[.slice s.a s.xs.length s.c, .slice t.a t.xs.length t.c] w (DecP (s.xs = t.xs) w) := by
 obtain ⟨sa, sc, xs⟩ := s
 obtain ⟨ta, tc, ys⟩ := t
 have H1 := Lib.hid h1
 have H2 := Lib.hid h2
 have hg : Tryz.prog.eqGuardType Tryz.prog.depth 164 = false := by kernel_rfl
 have hl : xs.length ≤ maxLen := Nat.le_trans h1.2.1 h1.2.2
 have hl2 : ys.length ≤ maxLen := Nat.le_trans h2.2.1 h2.2.2
 unfold maxLen at hl hl2
 clear h1 h2
 dsimp only
 have HT := Lib.hid (fun (h : xs.length = ys.length) (h2 : ∀ (i : Nat) (p q : Int × Int), xs[i]? = some p → ys[i]? = some q → p = q) => (show dq (xs = ys) = true from dq_t (by
  refine List.ext_getElem? fun i => ?_
  by_cases hi : i < xs.length
  ·rw [List.getElem?_eq_getElem hi, List.getElem?_eq_getElem (by omega), h2 i _ _ (List.getElem?_eq_getElem hi) (List.getElem?_eq_getElem (by omega))]
  ·rw [List.getElem?_eq_none (by omega), List.getElem?_eq_none (by omega)])))
 have HF := Lib.hid (fun (h : xs.length ≠ ys.length) => (show dq (xs = ys) = false from dq_f (fun h2 => h (by rw [h2]))))
 have HG := Lib.hid (fun (i : Nat) (p q : Int × Int) (hp : xs[i]? = some p) (hq : ys[i]? = some q) (h : p ≠ q) => (show dq (xs = ys) = false from dq_f (fun h2 => h (by rw [h2, hq] at hp; injection hp with hp; exact hp.symm))))
 unfold DecP
 generalize dq (xs = ys) = res at *
 obtain ⟨N, hN⟩ : ∃ N, xs.length = N := ⟨_, rfl⟩
 obtain ⟨N2, hN2⟩ : ∃ N2, ys.length = N2 := ⟨_, rfl⟩
 rw [hN, hN2] at HT HF ⊢
 rw [hN] at hl
 rw [hN2] at hl2
 have HN := Lib.hid hN
 have HN2 := Lib.hid hN2
 clear hN hN2
 by_cases hlen : N = N2
 rotate_left 1
 ·have hne : ((N : Int) != (N2 : Int)) = true := by
   have : ¬ (N : Int) = (N2 : Int) := by omega
   simpa using this
  have hne2 : ((N : Int) == (N2 : Int)) = false := by
   have : ¬ (N : Int) = (N2 : Int) := by omega
   simpa using this
  have HF2 := Lib.hid (HF.out hlen)
  clear hlen
  go_enter Tryz.func222, Tryz.ntmps222
  go_wp2_with fail
  go_ret
  exact ⟨by rw [HF2.out] <;> rfl, Below.refl _ _⟩
 subst hlen
 go_enter Tryz.func222, Tryz.ntmps222
 go_wp2_with fail
 go_loopg [13] N (fun g i wx => ∃ k : Nat, k + g = N ∧ i = .int .i64 k ∧ Below w.heap.size w wx ∧ Hid (∀ (i : Nat) (p q : Int × Int), i < k → xs[i]? = some p → ys[i]? = some q → p = q))
 case atStart => exact ⟨0, by omega, rfl, Below.refl _ _, Lib.hid (fun i p q h => by omega)⟩
 case round =>
  obtain ⟨k, hk, rfl, hb, HAll⟩ := hrel
  by_cases hlt : k < N
  ·obtain ⟨g, rfl⟩ : ∃ g, gk = g + 1 := ⟨gk - 1, by omega⟩
   obtain ⟨p, hp⟩ : ∃ p, xs[k]? = some p := ⟨_, List.getElem?_eq_getElem (by rw [HN.out]; exact hlt)⟩
   obtain ⟨q, hq⟩ : ∃ q, ys[k]? = some q := ⟨_, List.getElem?_eq_getElem (by rw [HN2.out]; exact hlt)⟩
   obtain ⟨b1, o1, e1, hb1, p0, p1⟩ := pairRow (H1.out.under hb) hp
   obtain ⟨b2, o2, e2, hb2, q0, q1⟩ := pairRow (H2.out.under hb) hq
   dsimp only at e1 e2
   subst e1 e2
   have HNo := Lib.hid (fun h => HG.out k p q hp hq h)
   have HYes : Hid (p = q → ∀ (i : Nat) (p q : Int × Int), i < k + 1 → xs[i]? = some p → ys[i]? = some q → p = q) := Lib.hid (fun h i p' q' hi hp' hq' => by
    rcases Nat.lt_succ_iff_lt_or_eq.1 hi with h3 | h3
    ·exact HAll.out i p' q' h3 hp' hq'
    ·subst h3
     rw [hp] at hp'
     rw [hq] at hq'
     injection hp' with hp'
     injection hq' with hq'
     rw [← hp', ← hq']
     exact h)
   obtain ⟨ca, cb⟩ := p
   obtain ⟨da, db⟩ := q
   have hne := neqRg2 ca cb da db
   obtain ⟨eb, heb⟩ : ∃ eb, ((ca == da) && (cb == db)) = eb := ⟨_, rfl⟩
   rw [heb] at hne
   have HEb := Lib.hid heb
   have hI : (k : Int) < (N : Int) := by omega
   have hI0 : (0 : Int) ≤ (k : Int) := by omega
   clear hp hq heb
   dsimp only at p0 p1 q0 q1
   cases eb
   ·have HR : Hid (res = false) := Lib.hid (HNo.out (fun h => by
     injection h with h3 h4
     have := HEb.out
     rw [h3, h4] at this
     simp at this))
    go_upto_region 6 with fail
    go_quiet (fail)
    go_wp2_with fail
    go_ret
    exact ⟨by rw [HR.out] <;> rfl, bDrewN hb _⟩
   ·have HY2 := Lib.hid (HYes.out (by
     have := HEb.out
     rw [Bool.and_eq_true] at this
     rw [eq_of_beq this.1, eq_of_beq this.2]))
    go_upto_region 6 with fail
    go_quiet (fail)
    go_wp2_with fail
    go_roundg g
    case measure => omega
    case rel => exact ⟨k + 1, by omega, by go_num, bDrewN hb _, HY2⟩
  ·have hI : ¬ (k : Int) < (N : Int) := by omega
   have HTr : Hid (res = true) := Lib.hid (HT.out (by first | rfl | trivial) (fun i p q hp hq => HAll.out i p q (by have := (List.getElem?_eq_some_iff.1 hp).1; rw [HN.out] at this; omega) hp hq))
   go_wp2_with fail
   go_ret
   exact ⟨by rw [HTr.out] <;> rfl, hb⟩

set_option maxHeartbeats 4000000 in
set_option maxRecDepth 100000 in
theorem equalParts2 (n m : Nat) (s : Sl (P (n + 1))) (t : Sl (P (m + 1))) (w : World) (h1 : SlHolds w 5 (partCells (n + 1)) s) (h2 : SlHolds w 5 (partCells (m + 1)) t)
  (HP : ∀ (p : PartOf (P n)) (q : PartOf (P m)), p ∈ s.xs → q ∈ t.xs → ∀ W, Below w.heap.size w W → Calls Tryz.prog 155 #[partVal p, partVal q] W (DecP (SameP (n + 1) (m + 1) p q) W)) :
  Calls Tryz.prog 154 #[.slice s.a s.xs.length s.c, .slice t.a t.xs.length t.c, .func (.func 155) #[] #[]] w (DecP (SameL (n + 1) (m + 1) s.xs t.xs) w) := by
 obtain ⟨sa, sc, xs⟩ := s
 obtain ⟨ta, tc, ys⟩ := t
 have H1 := Lib.hid h1
 have H2 := Lib.hid h2
 have HPp := Lib.hid HP
 have hl : xs.length ≤ maxLen := Nat.le_trans h1.2.1 h1.2.2
 have hl2 : ys.length ≤ maxLen := Nat.le_trans h2.2.1 h2.2.2
 unfold maxLen at hl hl2
 clear h1 h2 HP
 dsimp only
 obtain ⟨AL, hAL⟩ : ∃ AL : Prop, AL = (SameL (n + 1) (m + 1) xs ys) := ⟨_, rfl⟩
 rw [show (SameL (n + 1) (m + 1) xs ys) = AL from hAL.symm]
 have HT := Lib.hid (fun (h : xs.length = ys.length) (h2 : ∀ (i : Nat) (p : PartOf (P n)) (q : PartOf (P m)), xs[i]? = some p → ys[i]? = some q → SameP (n + 1) (m + 1) p q) => (show dq AL = true from dq_t (by rw [hAL]; exact all2_of2 h h2)))
 have HF := Lib.hid (fun (h : xs.length ≠ ys.length) => (show dq AL = false from dq_f (fun h2 => h (by rw [hAL] at h2; exact h2.length))))
 have HG := Lib.hid (fun (i : Nat) (p : PartOf (P n)) (q : PartOf (P m)) (hp : xs[i]? = some p) (hq : ys[i]? = some q) (h : ¬ SameP (n + 1) (m + 1) p q) => (show dq AL = false from dq_f (fun h2 => h (by rw [hAL] at h2; exact h2.get i p q hp hq))))
 clear hAL
 obtain ⟨N, hN⟩ : ∃ N, xs.length = N := ⟨_, rfl⟩
 obtain ⟨N2, hN2⟩ : ∃ N2, ys.length = N2 := ⟨_, rfl⟩
 rw [hN, hN2] at HT HF ⊢
 rw [hN] at hl
 rw [hN2] at hl2
 have HN := Lib.hid hN
 have HN2 := Lib.hid hN2
 clear hN hN2
 have hent := enters_eqPart
 by_cases hlen : N = N2
 rotate_left 1
 ·have hne : ((N : Int) != (N2 : Int)) = true := by
   have : ¬ (N : Int) = (N2 : Int) := by omega
   simpa using this
  have hne2 : ((N : Int) == (N2 : Int)) = false := by
   have : ¬ (N : Int) = (N2 : Int) := by omega
   simpa using this
  have HF2 := Lib.hid (HF.out hlen)
  clear hlen
  go_enter Tryz.func154, Tryz.ntmps154
  go_wp2_with fail
  go_ret
  exact ⟨by rw [HF2.out] <;> rfl, Below.refl _ _⟩
 subst hlen
 go_enter Tryz.func154, Tryz.ntmps154
 go_wp2_with fail
 go_loopg [17] N (fun g i wx => ∃ k : Nat, k + g = N ∧ i = .int .i64 k ∧ Below w.heap.size w wx ∧ Hid (∀ (i : Nat) (p : PartOf (P n)) (q : PartOf (P m)), i < k → xs[i]? = some p → ys[i]? = some q → SameP (n + 1) (m + 1) p q))
 case atStart => exact ⟨0, by omega, rfl, Below.refl _ _, Lib.hid (fun i p q h => by omega)⟩
 case round =>
  obtain ⟨k, hk, rfl, hb, HAll⟩ := hrel
  by_cases hlt : k < N
  ·obtain ⟨g, rfl⟩ : ∃ g, gk = g + 1 := ⟨gk - 1, by omega⟩
   obtain ⟨p, hp⟩ : ∃ p : PartOf (P n), xs[k]? = some p := ⟨_, List.getElem?_eq_getElem (by rw [HN.out]; exact hlt)⟩
   obtain ⟨q, hq⟩ : ∃ q : PartOf (P m), ys[k]? = some q := ⟨_, List.getElem?_eq_getElem (by rw [HN2.out]; exact hlt)⟩
   have HC := Lib.hid (HPp.out p q (List.mem_of_getElem? hp) (List.mem_of_getElem? hq))
   have HNo := Lib.hid (fun h => HG.out k p q hp hq h)
   have HYes : Hid (SameP (n + 1) (m + 1) p q → ∀ (i : Nat) (p : PartOf (P n)) (q : PartOf (P m)), i < k + 1 → xs[i]? = some p → ys[i]? = some q → SameP (n + 1) (m + 1) p q) := Lib.hid (fun h i p' q' hi hp' hq' => by
    rcases Nat.lt_succ_iff_lt_or_eq.1 hi with h3 | h3
    ·exact HAll.out i p' q' h3 hp' hq'
    ·subst h3
     rw [hp] at hp'
     rw [hq] at hq'
     injection hp' with hp'
     injection hq' with hq'
     rw [← hp', ← hq']
     exact h)
   generalize hRL : (SameP (n + 1) (m + 1) p q) = RL at *
   clear hRL
   obtain ⟨rb, hrb⟩ : ∃ rb, dq RL = rb := ⟨_, rfl⟩
   unfold DecP at HC
   rw [hrb] at HC
   have HRb := Lib.hid hrb
   clear hrb
   obtain ⟨b1, o1, e1, hb1, p0, p1, p2, p3, p4⟩ := partRow (s := ⟨sa, sc, xs⟩) (H1.out.under hb) hp
   obtain ⟨b2, o2, e2, hb2, q0, q1, q2, q3, q4⟩ := partRow (s := ⟨ta, tc, ys⟩) (H2.out.under hb) hq
   dsimp only at e1 e2
   subst e1 e2
   have hI : (k : Int) < (N : Int) := by omega
   have hI0 : (0 : Int) ≤ (k : Int) := by omega
   have HB := Lib.hid hb
   clear hp hq hb
   obtain ⟨pk, pt3, pn, ⟨pra, prc, prx⟩, ⟨pwa, pwc, pwx⟩⟩ := p
   obtain ⟨qk, qt3, qn, ⟨qra, qrc, qrx⟩, ⟨qwa, qwc, qwx⟩⟩ := q
   dsimp only at p0 p1 p2 p3 p4 q0 q1 q2 q3 q4
   have HBx := Lib.hid (boxG_two wr #[.int .i64 pk, .string pt3, .bool pn, .slice pra prx.length prc, .slice pwa pwx.length pwc] #[.int .i64 qk, .string qt3, .bool qn, .slice qra qrx.length qrc, .slice qwa qwx.length qwc] party)
   have HC : Hid (∀ W, Below w.heap.size w W → Calls Tryz.prog 155 #[.agg #[.int .i64 pk, .string pt3, .bool pn, .slice pra prx.length prc, .slice pwa pwx.length pwc], .agg #[.int .i64 qk, .string qt3, .bool qn, .slice qra qrx.length qrc, .slice qwa qwx.length qwc]] W (fun e w' => e = .returned (.bool rb) ∧ Below W.heap.size W w')) := Lib.hid HC.out
   generalize prx.length = l1 at *
   generalize pwx.length = l2 at *
   generalize qrx.length = l3 at *
   generalize qwx.length = l4 at *
   go_upto_region 7 with fail
   generalize (wr.alloc _).alloc _ = w2 at *
   clear p0 p1 p2 p3 p4 q0 q1 q2 q3 q4
   have c0 := HBx.out.1.cell (j := 0) rfl
   have c1 := HBx.out.1.cell (j := 1) rfl
   have c2 := HBx.out.1.cell (j := 2) rfl
   have c3 := HBx.out.1.cell (j := 3) rfl
   have c4 := HBx.out.1.cell (j := 4) rfl
   have d0 := HBx.out.2.1.cell (j := 0) rfl
   have d1 := HBx.out.2.1.cell (j := 1) rfl
   have d2 := HBx.out.2.1.cell (j := 2) rfl
   have d3 := HBx.out.2.1.cell (j := 3) rfl
   have d4 := HBx.out.2.1.cell (j := 4) rfl
   have HB2 := Lib.hid (HB.out.trans (HBx.out.2.2.1.mono HB.out.size))
   have HC2 := Lib.hid (HC.out w2 HB2.out)
   cases rb
   ·have HFl : Hid (dq AL = false) := Lib.hid (HNo.out (fun h => by have := HRb.out; rw [dq_t h] at this; cases this))
    go_wp2_with (go_at_call 155; refine HC2.out.mono ?_; rintro e w3 ⟨rfl, hb3⟩)
    go_ret
    exact ⟨by rw [HFl.out] <;> rfl, HB2.out.trans (hb3.mono HB2.out.size)⟩
   ·have HY2 := Lib.hid (HYes.out (by
     have := HRb.out
     exact of_dq this))
    go_wp2_with (go_at_call 155; refine HC2.out.mono ?_; rintro e w3 ⟨rfl, hb3⟩)
    go_roundg g
    case measure => omega
    case rel => exact ⟨k + 1, by omega, by go_num, HB2.out.trans (hb3.mono HB2.out.size), HY2⟩
  ·have hI : ¬ (k : Int) < (N : Int) := by omega
   have HTr : Hid (dq AL = true) := Lib.hid (HT.out (by first | rfl | trivial) (fun i p q hp hq => HAll.out i p q (by have := (List.getElem?_eq_some_iff.1 hp).1; rw [HN.out] at this; omega) hp hq))
   go_wp2_with fail
   go_ret
   exact ⟨by rw [HTr.out] <;> rfl, hb⟩

set_option maxHeartbeats 4000000 in
set_option maxRecDepth 100000 in
theorem equalWays2 {α β : Type} (R : Sl α → Sl β → Prop) (s : Sl (Sl α)) (t : Sl (Sl β)) (w : World) (h1 : SlHolds w 1 (fun s : Sl α => [s.val]) s) (h2 : SlHolds w 1 (fun s : Sl β => [s.val]) t)
  (HP : ∀ (p : Sl α) (q : Sl β), p ∈ s.xs → q ∈ t.xs → ∀ W, Below w.heap.size w W → Calls Tryz.prog 99 #[.slice p.a p.xs.length p.c, .slice q.a q.xs.length q.c] W (DecP (R p q) W)) :
  Calls Tryz.prog 223 #[.slice s.a s.xs.length s.c, .slice t.a t.xs.length t.c, .func (.func 99) #[] #[]] w (DecP (All2 R s.xs t.xs) w) := by
 obtain ⟨sa, sc, xs⟩ := s
 obtain ⟨ta, tc, ys⟩ := t
 have H1 := Lib.hid h1
 have H2 := Lib.hid h2
 have HPp := Lib.hid HP
 have hl : xs.length ≤ maxLen := Nat.le_trans h1.2.1 h1.2.2
 have hl2 : ys.length ≤ maxLen := Nat.le_trans h2.2.1 h2.2.2
 unfold maxLen at hl hl2
 clear h1 h2 HP
 dsimp only
 obtain ⟨AL, hAL⟩ : ∃ AL : Prop, AL = (All2 R xs ys) := ⟨_, rfl⟩
 rw [show (All2 R xs ys) = AL from hAL.symm]
 have HT := Lib.hid (fun (h : xs.length = ys.length) (h2 : ∀ (i : Nat) (p : Sl α) (q : Sl β), xs[i]? = some p → ys[i]? = some q → R p q) => (show dq AL = true from dq_t (by rw [hAL]; exact all2_of2 h h2)))
 have HF := Lib.hid (fun (h : xs.length ≠ ys.length) => (show dq AL = false from dq_f (fun h2 => h (by rw [hAL] at h2; exact h2.length))))
 have HG := Lib.hid (fun (i : Nat) (p : Sl α) (q : Sl β) (hp : xs[i]? = some p) (hq : ys[i]? = some q) (h : ¬ R p q) => (show dq AL = false from dq_f (fun h2 => h (by rw [hAL] at h2; exact h2.get i p q hp hq))))
 clear hAL
 obtain ⟨N, hN⟩ : ∃ N, xs.length = N := ⟨_, rfl⟩
 obtain ⟨N2, hN2⟩ : ∃ N2, ys.length = N2 := ⟨_, rfl⟩
 rw [hN, hN2] at HT HF ⊢
 rw [hN] at hl
 rw [hN2] at hl2
 have HN := Lib.hid hN
 have HN2 := Lib.hid hN2
 clear hN hN2
 have hent := enters_listPart
 by_cases hlen : N = N2
 rotate_left 1
 ·have hne : ((N : Int) != (N2 : Int)) = true := by
   have : ¬ (N : Int) = (N2 : Int) := by omega
   simpa using this
  have hne2 : ((N : Int) == (N2 : Int)) = false := by
   have : ¬ (N : Int) = (N2 : Int) := by omega
   simpa using this
  have HF2 := Lib.hid (HF.out hlen)
  clear hlen
  go_enter Tryz.func223, Tryz.ntmps223
  go_wp2_with fail
  go_ret
  exact ⟨by rw [HF2.out] <;> rfl, Below.refl _ _⟩
 subst hlen
 go_enter Tryz.func223, Tryz.ntmps223
 go_wp2_with fail
 go_loopg [17] N (fun g i wx => ∃ k : Nat, k + g = N ∧ i = .int .i64 k ∧ Below w.heap.size w wx ∧ Hid (∀ (i : Nat) (p : Sl α) (q : Sl β), i < k → xs[i]? = some p → ys[i]? = some q → R p q))
 case atStart => exact ⟨0, by omega, rfl, Below.refl _ _, Lib.hid (fun i p q h => by omega)⟩
 case round =>
  obtain ⟨k, hk, rfl, hb, HAll⟩ := hrel
  by_cases hlt : k < N
  ·obtain ⟨g, rfl⟩ : ∃ g, gk = g + 1 := ⟨gk - 1, by omega⟩
   obtain ⟨p, hp⟩ : ∃ p : Sl α, xs[k]? = some p := ⟨_, List.getElem?_eq_getElem (by rw [HN.out]; exact hlt)⟩
   obtain ⟨q, hq⟩ : ∃ q : Sl β, ys[k]? = some q := ⟨_, List.getElem?_eq_getElem (by rw [HN2.out]; exact hlt)⟩
   have HC := Lib.hid (HPp.out p q (List.mem_of_getElem? hp) (List.mem_of_getElem? hq))
   have HNo := Lib.hid (fun h => HG.out k p q hp hq h)
   have HYes : Hid (R p q → ∀ (i : Nat) (p : Sl α) (q : Sl β), i < k + 1 → xs[i]? = some p → ys[i]? = some q → R p q) := Lib.hid (fun h i p' q' hi hp' hq' => by
    rcases Nat.lt_succ_iff_lt_or_eq.1 hi with h3 | h3
    ·exact HAll.out i p' q' h3 hp' hq'
    ·subst h3
     rw [hp] at hp'
     rw [hq] at hq'
     injection hp' with hp'
     injection hq' with hq'
     rw [← hp', ← hq']
     exact h)
   generalize hRL : (R p q) = RL at *
   clear hRL
   obtain ⟨rb, hrb⟩ : ∃ rb, dq RL = rb := ⟨_, rfl⟩
   unfold DecP at HC
   rw [hrb] at HC
   have HRb := Lib.hid hrb
   clear hrb
   obtain ⟨b1, o1, e1, hb1, p0⟩ := wayRow (s := ⟨sa, sc, xs⟩) (H1.out.under hb) hp
   obtain ⟨b2, o2, e2, hb2, q0⟩ := wayRow (s := ⟨ta, tc, ys⟩) (H2.out.under hb) hq
   dsimp only at e1 e2
   subst e1 e2
   have hI : (k : Int) < (N : Int) := by omega
   have hI0 : (0 : Int) ≤ (k : Int) := by omega
   have HB := Lib.hid hb
   clear hp hq hb
   obtain ⟨pwa, pwc, pwx⟩ := p
   obtain ⟨qwa, qwc, qwx⟩ := q
   dsimp only at p0 q0
   have HC : Hid (∀ W, Below w.heap.size w W → Calls Tryz.prog 99 #[.slice pwa pwx.length pwc, .slice qwa qwx.length qwc] W (fun e w' => e = .returned (.bool rb) ∧ Below W.heap.size W w')) := Lib.hid HC.out
   generalize pwx.length = l2 at *
   generalize qwx.length = l4 at *
   have HC2 := Lib.hid (HC.out wr HB.out)
   have HB2 := HB
   cases rb
   ·have HFl : Hid (dq AL = false) := Lib.hid (HNo.out (fun h => by have := HRb.out; rw [dq_t h] at this; cases this))
    go_wp2_with (go_at_call 99; refine HC2.out.mono ?_; rintro e w3 ⟨rfl, hb3⟩)
    go_ret
    exact ⟨by rw [HFl.out] <;> rfl, HB2.out.trans (hb3.mono HB2.out.size)⟩
   ·have HY2 := Lib.hid (HYes.out (by
     have := HRb.out
     exact of_dq this))
    go_wp2_with (go_at_call 99; refine HC2.out.mono ?_; rintro e w3 ⟨rfl, hb3⟩)
    go_roundg g
    case measure => omega
    case rel => exact ⟨k + 1, by omega, by go_num, HB2.out.trans (hb3.mono HB2.out.size), HY2⟩
  ·have hI : ¬ (k : Int) < (N : Int) := by omega
   have HTr : Hid (dq AL = true) := Lib.hid (HT.out (by first | rfl | trivial) (fun i p q hp hq => HAll.out i p q (by have := (List.getElem?_eq_some_iff.1 hp).1; rw [HN.out] at this; omega) hp hq))
   go_wp2_with fail
   go_ret
   exact ⟨by rw [HTr.out] <;> rfl, hb⟩
end Go.Proofs.YtfenmeacimfiaaaGreatDoor
namespace Go.Proofs.YtfenmeacimfiaaaGreatDoor
open Go.RowKit

set_option maxHeartbeats 1000000 in
set_option maxRecDepth 100000 in
theorem listRg2 (s t : Sl (Int × Int)) (w : World) (h1 : SlHolds w 2 rgCells s) (h2 : SlHolds w 2 rgCells t) :
  Calls Tryz.prog 195 #[.slice s.a s.xs.length s.c, .slice t.a t.xs.length t.c] w (DecP (s.xs = t.xs) w) := by
 have HE := Lib.hid (equalRg2 s t w h1 h2)
 unfold DecP at HE ⊢
 generalize dq (s.xs = t.xs) = res at *
 clear h1 h2
 generalize s.xs.length = N at *
 generalize t.xs.length = N2 at *
 go_enter Tryz.func195, Tryz.ntmps195
 go_wp2_with (go_at_call 222; refine HE.out.mono ?_; rintro e w2 ⟨rfl, hb2⟩)
 go_ret
 exact ⟨rfl, hb2⟩

set_option maxHeartbeats 1000000 in
set_option maxRecDepth 100000 in
theorem listWays2 {α β : Type} (R : Sl α → Sl β → Prop) (s : Sl (Sl α)) (t : Sl (Sl β)) (w : World) (h1 : SlHolds w 1 (fun s : Sl α => [s.val]) s) (h2 : SlHolds w 1 (fun s : Sl β => [s.val]) t)
  (HP : ∀ (p : Sl α) (q : Sl β), p ∈ s.xs → q ∈ t.xs → ∀ W, Below w.heap.size w W → Calls Tryz.prog 99 #[.slice p.a p.xs.length p.c, .slice q.a q.xs.length q.c] W (DecP (R p q) W)) :
  Calls Tryz.prog 196 #[.slice s.a s.xs.length s.c, .slice t.a t.xs.length t.c] w (DecP (All2 R s.xs t.xs) w) := by
 have HE := Lib.hid (equalWays2 R s t w h1 h2 HP)
 unfold DecP at HE ⊢
 generalize dq (All2 R s.xs t.xs) = res at *
 clear h1 h2
 generalize s.xs.length = N at *
 generalize t.xs.length = N2 at *
 go_enter Tryz.func196, Tryz.ntmps196
 go_wp2_with (go_at_call 223; refine HE.out.mono ?_; rintro e w2 ⟨rfl, hb2⟩)
 go_ret
 exact ⟨rfl, hb2⟩

set_option maxHeartbeats 1000000 in
set_option maxRecDepth 100000 in
theorem listPart_step2 (n m : Nat) (s : Sl (P (n + 1))) (t : Sl (P (m + 1))) (w : World) (h1 : SlHolds w 5 (partCells (n + 1)) s) (h2 : SlHolds w 5 (partCells (m + 1)) t)
  (HP : ∀ (p : PartOf (P n)) (q : PartOf (P m)), p ∈ s.xs → q ∈ t.xs → ∀ W, Below w.heap.size w W → Calls Tryz.prog 155 #[partVal p, partVal q] W (DecP (SameP (n + 1) (m + 1) p q) W)) :
  Calls Tryz.prog 99 #[.slice s.a s.xs.length s.c, .slice t.a t.xs.length t.c] w (DecP (SameL (n + 1) (m + 1) s.xs t.xs) w) := by
 have HE := Lib.hid (equalParts2 n m s t w h1 h2 HP)
 unfold DecP at HE ⊢
 generalize dq (SameL (n + 1) (m + 1) s.xs t.xs) = res at *
 clear h1 h2
 generalize s.xs.length = N at *
 generalize t.xs.length = N2 at *
 go_enter Tryz.func99, Tryz.ntmps99
 go_wp2_with (go_at_call 154; refine HE.out.mono ?_; rintro e w2 ⟨rfl, hb2⟩)
 go_ret
 exact ⟨rfl, hb2⟩

theorem bytes_ne {a b : ByteArray} (h : a ≠ b) : (a.toList == b.toList) = false := by
 rw [beq_eq_false_iff_ne]
 intro e
 apply h
 rw [Lib.toList_data, Lib.toList_data] at e
 cases a with
 | mk x =>
  cases b with
  | mk y =>
   congr 1
   exact Array.toList_inj.1 e
set_option maxHeartbeats 4000000 in
set_option maxRecDepth 100000 in
theorem eqPart_step2 (n m : Nat) (p : PartOf (P n)) (q : PartOf (P m)) (w : World) (hp : POk w (n + 1) p) (hq : POk w (m + 1) q)
  (HW : ∀ W, Below w.heap.size w W → Calls Tryz.prog 196 #[.slice p.ways.a p.ways.xs.length p.ways.c, .slice q.ways.a q.ways.xs.length q.ways.c] W (DecP (All2 (fun s t => SameL n m s.xs t.xs) p.ways.xs q.ways.xs) W)) :
  Calls Tryz.prog 155 #[partVal p, partVal q] w (DecP (SameP (n + 1) (m + 1) p q) w) := by
 have HR := Lib.hid (fun W (hb : Below w.heap.size w W) => listRg2 p.rg q.rg W (hp.2.1.under hb) (hq.2.1.under hb))
 have HWw := Lib.hid HW
 clear hp hq HW
 obtain ⟨pk, pt3, pn, ⟨pra, prc, prx⟩, ⟨pwa, pwc, pwx⟩⟩ := p
 obtain ⟨qk, qt3, qn, ⟨qra, qrc, qrx⟩, ⟨qwa, qwc, qwx⟩⟩ := q
 have hrel : dq (SameP (n + 1) (m + 1) (⟨pk, pt3, pn, ⟨pra, prc, prx⟩, ⟨pwa, pwc, pwx⟩⟩ : PartOf (P n)) (⟨qk, qt3, qn, ⟨qra, qrc, qrx⟩, ⟨qwa, qwc, qwx⟩⟩ : PartOf (P m))) = dq (pk = qk ∧ pt3 = qt3 ∧ pn = qn ∧ prx = qrx ∧ All2 (fun s t => SameL n m s.xs t.xs) pwx qwx) := rfl
 unfold DecP
 rw [hrel]
 clear hrel
 have HR : Hid (∀ W, Below w.heap.size w W → Calls Tryz.prog 195 #[.slice pra prx.length prc, .slice qra qrx.length qrc] W (DecP (prx = qrx) W)) := Lib.hid HR.out
 have HWw : Hid (∀ W, Below w.heap.size w W → Calls Tryz.prog 196 #[.slice pwa pwx.length pwc, .slice qwa qwx.length qwc] W (DecP (All2 (fun s t => SameL n m s.xs t.xs) pwx qwx) W)) := Lib.hid HWw.out
 dsimp only [partVal]
 unfold DecP at HR HWw
 have HFf : Hid (∀ h : ¬ (pk = qk ∧ pt3 = qt3 ∧ pn = qn), dq (pk = qk ∧ pt3 = qt3 ∧ pn = qn ∧ prx = qrx ∧ All2 (fun s t => SameL n m s.xs t.xs) pwx qwx) = false) := Lib.hid (fun h => dq_f (fun h2 => h ⟨h2.1, h2.2.1, h2.2.2.1⟩))
 have HFt : Hid (pk = qk → pt3 = qt3 → pn = qn → dq (pk = qk ∧ pt3 = qt3 ∧ pn = qn ∧ prx = qrx ∧ All2 (fun s t => SameL n m s.xs t.xs) pwx qwx) = (dq (prx = qrx) && dq (All2 (fun s t => SameL n m s.xs t.xs) pwx qwx))) := Lib.hid (fun h1 h2 h3 => by
  by_cases h4 : prx = qrx
  ·by_cases h5 : All2 (fun s t => SameL n m s.xs t.xs) pwx qwx
   ·rw [dq_t h4, dq_t h5, dq_t ⟨h1, h2, h3, h4, h5⟩]
    rfl
   ·rw [dq_f h5, dq_f (fun h => h5 h.2.2.2.2), Bool.and_false]
  ·rw [dq_f h4, dq_f (fun h => h4 h.2.2.2.1), Bool.false_and])
 generalize dq (pk = qk ∧ pt3 = qt3 ∧ pn = qn ∧ prx = qrx ∧ All2 (fun s t => SameL n m s.xs t.xs) pwx qwx) = res at *
 generalize dq (prx = qrx) = r1 at *
 obtain ⟨r2, hr2⟩ : ∃ r2, dq (All2 (fun s t => SameL n m s.xs t.xs) pwx qwx) = r2 := ⟨_, rfl⟩
 rw [hr2] at HFt
 have HW2 : Hid (∀ W, Below w.heap.size w W → Calls Tryz.prog 196 #[.slice pwa pwx.length pwc, .slice qwa qwx.length qwc] W (fun e w' => e = .returned (.bool r2) ∧ Below W.heap.size W w')) := Lib.hid (fun W hb => by
  rw [← hr2]
  exact HWw.out W hb)
 clear hr2 HWw
 generalize prx.length = l1 at *
 generalize pwx.length = l2 at *
 generalize qrx.length = l3 at *
 generalize qwx.length = l4 at *
 by_cases e1 : pk = qk
 rotate_left 1
 ·have f1 : (pk == qk) = false := by simpa using e1
  have HF : Hid (res = false) := Lib.hid (HFf.out (fun h => e1 h.1))
  clear e1
  have HB := Lib.hid (boxG_two w #[.int .i64 pk, .string pt3, .bool pn, .slice pra l1 prc, .slice pwa l2 pwc] #[.int .i64 qk, .string qt3, .bool qn, .slice qra l3 qrc, .slice qwa l4 qwc] party)
  go_enter Tryz.func155, Tryz.ntmps155
  go_upto_region 1 with fail
  generalize (w.alloc _).alloc _ = w1 at *
  obtain ⟨c0, c1, c2, c3, c4, k0, k1, k2, k3, k4⟩ := cells10 ⟨HB.out.1, HB.out.2.1⟩
  go_wp2_with fail
  go_ret
  exact ⟨by rw [HF.out] <;> rfl, HB.out.2.2.1⟩
 subst e1
 by_cases e2 : pt3 = qt3
 rotate_left 1
 ·have f2 := bytes_ne e2
  have HF : Hid (res = false) := Lib.hid (HFf.out (fun h => e2 h.2.1))
  clear e2
  have HB := Lib.hid (boxG_two w #[.int .i64 pk, .string pt3, .bool pn, .slice pra l1 prc, .slice pwa l2 pwc] #[.int .i64 pk, .string qt3, .bool qn, .slice qra l3 qrc, .slice qwa l4 qwc] party)
  go_enter Tryz.func155, Tryz.ntmps155
  go_upto_region 1 with fail
  generalize (w.alloc _).alloc _ = w1 at *
  obtain ⟨c0, c1, c2, c3, c4, k0, k1, k2, k3, k4⟩ := cells10 ⟨HB.out.1, HB.out.2.1⟩
  go_wp2_with fail
  go_ret
  exact ⟨by rw [HF.out] <;> rfl, HB.out.2.2.1⟩
 subst e2
 by_cases e3 : pn = qn
 rotate_left 1
 ·have f3 : (pn == qn) = false := by simpa using e3
  have HF : Hid (res = false) := Lib.hid (HFf.out (fun h => e3 h.2.2))
  clear e3
  have HB := Lib.hid (boxG_two w #[.int .i64 pk, .string pt3, .bool pn, .slice pra l1 prc, .slice pwa l2 pwc] #[.int .i64 pk, .string pt3, .bool qn, .slice qra l3 qrc, .slice qwa l4 qwc] party)
  go_enter Tryz.func155, Tryz.ntmps155
  go_upto_region 1 with fail
  generalize (w.alloc _).alloc _ = w1 at *
  obtain ⟨c0, c1, c2, c3, c4, k0, k1, k2, k3, k4⟩ := cells10 ⟨HB.out.1, HB.out.2.1⟩
  go_wp2_with fail
  go_ret
  exact ⟨by rw [HF.out] <;> rfl, HB.out.2.2.1⟩
 subst e3
 have HF : Hid (res = (r1 && r2)) := Lib.hid (HFt.out rfl rfl rfl)
 clear HFt HFf
 cases r1
 ·have HF2 : Hid (res = false) := Lib.hid HF.out
  have HB := Lib.hid (boxG_two w #[.int .i64 pk, .string pt3, .bool pn, .slice pra l1 prc, .slice pwa l2 pwc] #[.int .i64 pk, .string pt3, .bool pn, .slice qra l3 qrc, .slice qwa l4 qwc] party)
  go_enter Tryz.func155, Tryz.ntmps155
  go_upto_region 1 with fail
  generalize (w.alloc _).alloc _ = w1 at *
  obtain ⟨c0, c1, c2, c3, c4, k0, k1, k2, k3, k4⟩ := cells10 ⟨HB.out.1, HB.out.2.1⟩
  go_wp2_with (go_at_call 195; refine (HR.out _ HB.out.2.2.1).mono ?_; rintro e w2 ⟨rfl, hb2⟩; have HB2 := Lib.hid (And.intro (HB.out.1.under hb2) (And.intro (HB.out.2.1.under hb2) (bTrans HB.out.2.2.1 hb2))); have c0 := HB2.out.1.cell (j := 0) rfl; have c1 := HB2.out.1.cell (j := 1) rfl; have c2 := HB2.out.1.cell (j := 2) rfl; have c3 := HB2.out.1.cell (j := 3) rfl; have c4 := HB2.out.1.cell (j := 4) rfl; have k0 := HB2.out.2.1.cell (j := 0) rfl; have k1 := HB2.out.2.1.cell (j := 1) rfl; have k2 := HB2.out.2.1.cell (j := 2) rfl; have k3 := HB2.out.2.1.cell (j := 3) rfl; have k4 := HB2.out.2.1.cell (j := 4) rfl)
  go_ret
  exact ⟨by rw [HF2.out] <;> rfl, HB2.out.2.2⟩
 ·have HF2 : Hid (res = r2) := Lib.hid HF.out
  have HB := Lib.hid (boxG_two w #[.int .i64 pk, .string pt3, .bool pn, .slice pra l1 prc, .slice pwa l2 pwc] #[.int .i64 pk, .string pt3, .bool pn, .slice qra l3 qrc, .slice qwa l4 qwc] party)
  go_enter Tryz.func155, Tryz.ntmps155
  go_upto_region 1 with fail
  generalize (w.alloc _).alloc _ = w1 at *
  obtain ⟨c0, c1, c2, c3, c4, k0, k1, k2, k3, k4⟩ := cells10 ⟨HB.out.1, HB.out.2.1⟩
  go_wp2_with (first | (go_at_call 195; refine (HR.out _ HB.out.2.2.1).mono ?_; rintro e w2 ⟨rfl, hb2⟩; have HB2 := Lib.hid (And.intro (HB.out.1.under hb2) (And.intro (HB.out.2.1.under hb2) (bTrans HB.out.2.2.1 hb2))); have c0 := HB2.out.1.cell (j := 0) rfl; have c1 := HB2.out.1.cell (j := 1) rfl; have c2 := HB2.out.1.cell (j := 2) rfl; have c3 := HB2.out.1.cell (j := 3) rfl; have c4 := HB2.out.1.cell (j := 4) rfl; have k0 := HB2.out.2.1.cell (j := 0) rfl; have k1 := HB2.out.2.1.cell (j := 1) rfl; have k2 := HB2.out.2.1.cell (j := 2) rfl; have k3 := HB2.out.2.1.cell (j := 3) rfl; have k4 := HB2.out.2.1.cell (j := 4) rfl) | (go_at_call 196; refine (HW2.out _ HB2.out.2.2).mono ?_; rintro e w3 ⟨rfl, hb3⟩))
  go_ret
  exact ⟨by rw [HF2.out] <;> rfl, bTrans HB2.out.2.2 hb3⟩
theorem all2_nilL {α β γ : Type} {R : α → β → Prop} {R2 : γ → β → Prop} {ys : List β} : All2 R [] ys ↔ All2 R2 [] ys := by
 constructor <;> (intro h; cases h; exact .nil)
theorem all2_nilR {α β γ : Type} {R : α → β → Prop} {R2 : α → γ → Prop} {xs : List α} : All2 R xs [] ↔ All2 R2 xs [] := by
 constructor <;> (intro h; cases h; exact .nil)
theorem listPart2 : ∀ (n m : Nat) (s : Sl (P n)) (t : Sl (P m)) (w : World), SOk w n s → SOk w m t →
  Calls Tryz.prog 99 #[.slice s.a s.xs.length s.c, .slice t.a t.xs.length t.c] w (DecP (SameL n m s.xs t.xs) w)
 | 0, 0, s, t, w, h1, h2 => by
  have l1 := h1.1.2
  have l2 := h2.1.2
  have e1 := noP s.xs
  have e2 := noP t.xs
  have := listPart_step2 0 0 (⟨s.a, s.c, []⟩ : Sl (P 1)) (⟨t.a, t.c, []⟩ : Sl (P 1)) w ⟨.inl rfl, Nat.zero_le _, l1.2⟩ ⟨.inl rfl, Nat.zero_le _, l2.2⟩ (fun p q hp _ => by cases hp)
  rw [e1, e2]
  unfold DecP at this ⊢
  rw [dq_iff (show SameL 0 0 [] [] ↔ SameL 1 1 [] [] from ⟨fun _ => .nil, fun _ => .nil⟩)]
  exact this
 | 0, m + 1, s, t, w, h1, h2 => by
  have l1 := h1.1.2
  have e1 := noP s.xs
  have := listPart_step2 0 m (⟨s.a, s.c, []⟩ : Sl (P 1)) t w ⟨.inl rfl, Nat.zero_le _, l1.2⟩ h2.1 (fun p q hp _ => by cases hp)
  rw [e1]
  unfold DecP at this ⊢
  rw [dq_iff (show SameL 0 (m + 1) [] t.xs ↔ SameL 1 (m + 1) [] t.xs from all2_nilL)]
  exact this
 | n + 1, 0, s, t, w, h1, h2 => by
  have l2 := h2.1.2
  have e2 := noP t.xs
  have := listPart_step2 n 0 s (⟨t.a, t.c, []⟩ : Sl (P 1)) w h1.1 ⟨.inl rfl, Nat.zero_le _, l2.2⟩ (fun p q _ hq => by cases hq)
  rw [e2]
  unfold DecP at this ⊢
  rw [dq_iff (show SameL (n + 1) 0 s.xs [] ↔ SameL (n + 1) 1 s.xs [] from all2_nilR)]
  exact this
 | n + 1, m + 1, s, t, w, h1, h2 => by
  refine listPart_step2 n m s t w h1.1 h2.1 (fun p q hp hq W hb => ?_)
  have o1 := POk.under (hb.mono (Nat.le_refl _)) (n + 1) p (h1.2 p hp)
  have o2 := POk.under (hb.mono (Nat.le_refl _)) (m + 1) q (h2.2 q hq)
  refine eqPart_step2 n m p q W o1 o2 (fun W2 hb2 => ?_)
  have o3 := POk.under hb2 (n + 1) p o1
  have o4 := POk.under hb2 (m + 1) q o2
  refine listWays2 (fun s t => SameL n m s.xs t.xs) p.ways q.ways W2 o3.2.2.2.1 o4.2.2.2.1 (fun u v hu hv W3 hb3 => ?_)
  have k1 : SOk W2 n u := o3.2.2.2.2 u hu
  have k2 : SOk W2 m v := o4.2.2.2.2 v hv
  exact listPart2 n m u v W3 (k1.under hb3) (k2.under hb3)

set_option maxHeartbeats 2000000 in
set_option maxRecDepth 100000 in
theorem eqGlob2 (n m : Nat) (s : Sl (P n)) (t : Sl (P m)) (rt D rt' D' : Bool) (w : World) (h1 : SOk w n s) (h2 : SOk w m t) :
  Calls Tryz.prog 41 #[.agg #[.bool rt, .bool D, .slice s.a s.xs.length s.c], .agg #[.bool rt', .bool D', .slice t.a t.xs.length t.c]] w (DecP (rt = rt' ∧ D = D' ∧ SameL n m s.xs t.xs) w) := by
 have HR := Lib.hid (fun W (hb : Below w.heap.size w W) => listPart2 n m s t W (h1.under hb) (h2.under hb))
 clear h1 h2
 obtain ⟨sa, sc, xs⟩ := s
 obtain ⟨ta, tc, ys⟩ := t
 have HR : Hid (∀ W, Below w.heap.size w W → Calls Tryz.prog 99 #[.slice sa xs.length sc, .slice ta ys.length tc] W (DecP (SameL n m xs ys) W)) := Lib.hid HR.out
 dsimp only
 unfold DecP at HR ⊢
 have HFf : Hid (∀ h : ¬ (rt = rt' ∧ D = D'), dq (rt = rt' ∧ D = D' ∧ SameL n m xs ys) = false) := Lib.hid (fun h => dq_f (fun h2 => h ⟨h2.1, h2.2.1⟩))
 have HFt : Hid (rt = rt' → D = D' → dq (rt = rt' ∧ D = D' ∧ SameL n m xs ys) = dq (SameL n m xs ys)) := Lib.hid (fun h1 h2 => dq_iff ⟨fun h => h.2.2, fun h => ⟨h1, h2, h⟩⟩)
 generalize dq (rt = rt' ∧ D = D' ∧ SameL n m xs ys) = res at *
 generalize dq (SameL n m xs ys) = r1 at *
 generalize xs.length = l1 at *
 generalize ys.length = l2 at *
 have HB := Lib.hid (boxG_two w #[.bool rt, .bool D, .slice sa l1 sc] #[.bool rt', .bool D', .slice ta l2 tc] 34)
 by_cases e1 : rt = rt'
 rotate_left 1
 ·have f1 : (rt == rt') = false := by simpa using e1
  have HF : Hid (res = false) := Lib.hid (HFf.out (fun h => e1 h.1))
  clear e1
  go_enter Tryz.func41, Tryz.ntmps41
  go_upto_region 1 with fail
  generalize (w.alloc _).alloc _ = w1 at *
  obtain ⟨c0, c1, c2, k0, k1, k2⟩ := cells6 ⟨HB.out.1, HB.out.2.1⟩
  go_wp2_with fail
  go_ret
  exact ⟨by rw [HF.out] <;> rfl, HB.out.2.2.1⟩
 subst e1
 by_cases e2 : D = D'
 rotate_left 1
 ·have f2 : (D == D') = false := by simpa using e2
  have HF : Hid (res = false) := Lib.hid (HFf.out (fun h => e2 h.2))
  clear e2
  go_enter Tryz.func41, Tryz.ntmps41
  go_upto_region 1 with fail
  generalize (w.alloc _).alloc _ = w1 at *
  obtain ⟨c0, c1, c2, k0, k1, k2⟩ := cells6 ⟨HB.out.1, HB.out.2.1⟩
  go_wp2_with fail
  go_ret
  exact ⟨by rw [HF.out] <;> rfl, HB.out.2.2.1⟩
 subst e2
 have HF : Hid (res = r1) := Lib.hid (HFt.out rfl rfl)
 go_enter Tryz.func41, Tryz.ntmps41
 go_upto_region 1 with fail
 generalize (w.alloc _).alloc _ = w1 at *
 obtain ⟨c0, c1, c2, k0, k1, k2⟩ := cells6 ⟨HB.out.1, HB.out.2.1⟩
 go_wp2_with (go_at_call 99; refine (HR.out _ HB.out.2.2.1).mono ?_; rintro e w2 ⟨rfl, hb2⟩)
 go_ret
 exact ⟨by rw [HF.out] <;> rfl, bTrans HB.out.2.2.1 hb2⟩

/-- Rules that hold the same. -/
def SameR {n m : Nat} (r : RuleOf n) (q : RuleOf m) : Prop := r.inc = q.inc ∧ r.rooted = q.rooted ∧ r.dirs = q.dirs ∧ SameL n m r.parts.xs q.parts.xs
theorem enters_eqRule : ∀ args w, (callFunc 100 args).run Tryz.prog w = .ok (.enter 100 args) w := enters_of Tryz.func100 (by kernel_rfl) rfl
set_option maxHeartbeats 2000000 in
set_option maxRecDepth 100000 in
theorem eqRule2 {n m : Nat} (r : RuleOf n) (q : RuleOf m) (w : World) (h1 : SOk w n r.parts) (h2 : SOk w m q.parts) :
  Calls Tryz.prog 100 #[.agg (ruleArr r), .agg (ruleArr q)] w (DecP (SameR r q) w) := by
 have HR := Lib.hid (fun W (hb : Below w.heap.size w W) => eqGlob2 n m r.parts q.parts r.rooted r.dirs q.rooted q.dirs W (h1.under hb) (h2.under hb))
 clear h1 h2
 obtain ⟨pi, prt, pd, ⟨sa, sc, xs⟩⟩ := r
 obtain ⟨qi, qrt, qd, ⟨ta, tc, ys⟩⟩ := q
 have HR : Hid (∀ W, Below w.heap.size w W → Calls Tryz.prog 41 #[.agg #[.bool prt, .bool pd, .slice sa xs.length sc], .agg #[.bool qrt, .bool qd, .slice ta ys.length tc]] W (DecP (prt = qrt ∧ pd = qd ∧ SameL n m xs ys) W)) := Lib.hid HR.out
 have hrel : dq (SameR (⟨pi, prt, pd, ⟨sa, sc, xs⟩⟩ : RuleOf n) (⟨qi, qrt, qd, ⟨ta, tc, ys⟩⟩ : RuleOf m)) = dq (pi = qi ∧ prt = qrt ∧ pd = qd ∧ SameL n m xs ys) := rfl
 unfold DecP at HR ⊢
 rw [hrel]
 clear hrel
 dsimp only [ruleArr]
 have HFf : Hid (∀ h : ¬ (pi = qi), dq (pi = qi ∧ prt = qrt ∧ pd = qd ∧ SameL n m xs ys) = false) := Lib.hid (fun h => dq_f (fun h2 => h h2.1))
 have HFt : Hid (pi = qi → dq (pi = qi ∧ prt = qrt ∧ pd = qd ∧ SameL n m xs ys) = dq (prt = qrt ∧ pd = qd ∧ SameL n m xs ys)) := Lib.hid (fun h1 => dq_iff ⟨fun h => h.2, fun h => ⟨h1, h⟩⟩)
 generalize dq (pi = qi ∧ prt = qrt ∧ pd = qd ∧ SameL n m xs ys) = res at *
 obtain ⟨r1, hr1⟩ : ∃ r1, dq (prt = qrt ∧ pd = qd ∧ SameL n m xs ys) = r1 := ⟨_, rfl⟩
 rw [hr1] at HFt
 have HR2 : Hid (∀ W, Below w.heap.size w W → Calls Tryz.prog 41 #[.agg #[.bool prt, .bool pd, .slice sa xs.length sc], .agg #[.bool qrt, .bool qd, .slice ta ys.length tc]] W (fun e w' => e = .returned (.bool r1) ∧ Below W.heap.size W w')) := Lib.hid (fun W hb => by
  rw [← hr1]
  exact HR.out W hb)
 clear hr1 HR
 generalize xs.length = l1 at *
 generalize ys.length = l2 at *
 have HB := Lib.hid (boxG_two w #[.bool pi, .bool prt, .bool pd, .slice sa l1 sc] #[.bool qi, .bool qrt, .bool qd, .slice ta l2 tc] ruTy)
 by_cases e1 : pi = qi
 rotate_left 1
 ·have f1 : (pi == qi) = false := by simpa using e1
  have HF : Hid (res = false) := Lib.hid (HFf.out (fun h => e1 h))
  clear e1
  go_enter Tryz.func100, Tryz.ntmps100
  go_upto_region 1 with fail
  generalize (w.alloc _).alloc _ = w1 at *
  obtain ⟨c0, c1, c2, c3, k0, k1, k2, k3⟩ := cells8 ⟨HB.out.1, HB.out.2.1⟩
  go_wp2_with fail
  go_ret
  exact ⟨by rw [HF.out] <;> rfl, HB.out.2.2.1⟩
 subst e1
 have HF : Hid (res = r1) := Lib.hid (HFt.out rfl)
 go_enter Tryz.func100, Tryz.ntmps100
 go_upto_region 1 with fail
 generalize (w.alloc _).alloc _ = w1 at *
 obtain ⟨c0, c1, c2, c3, k0, k1, k2, k3⟩ := cells8 ⟨HB.out.1, HB.out.2.1⟩
 go_wp2_with (go_at_call 41; refine (HR2.out _ HB.out.2.2.1).mono ?_; rintro e w2 ⟨rfl, hb2⟩)
 go_ret
 exact ⟨by rw [HF.out] <;> rfl, bTrans HB.out.2.2.1 hb2⟩

set_option maxHeartbeats 4000000 in
set_option maxRecDepth 100000 in
theorem equalRulesG {n m : Nat} (F : FuncId) (hent : ∀ args w, (callFunc F args).run Tryz.prog w = .ok (.enter F args) w) (s : Sl (RuleOf n)) (t : Sl (RuleOf m)) (w : World) (h1 : SlHolds w 4 ruleCells s) (h2 : SlHolds w 4 ruleCells t)
  (HP : ∀ (p : RuleOf n) (q : RuleOf m), p ∈ s.xs → q ∈ t.xs → ∀ W, Below w.heap.size w W → Calls Tryz.prog F #[.agg (ruleArr p), .agg (ruleArr q)] W (DecP (SameR p q) W)) :
  Calls Tryz.prog 66 #[.slice s.a s.xs.length s.c, .slice t.a t.xs.length t.c, .func (.func F) #[] #[]] w (DecP (All2 SameR s.xs t.xs) w) := by
 obtain ⟨sa, sc, xs⟩ := s
 obtain ⟨ta, tc, ys⟩ := t
 have H1 := Lib.hid h1
 have H2 := Lib.hid h2
 have HPp := Lib.hid HP
 have hl : xs.length ≤ maxLen := Nat.le_trans h1.2.1 h1.2.2
 have hl2 : ys.length ≤ maxLen := Nat.le_trans h2.2.1 h2.2.2
 unfold maxLen at hl hl2
 clear h1 h2 HP
 dsimp only
 obtain ⟨AL, hAL⟩ : ∃ AL : Prop, AL = (All2 SameR xs ys) := ⟨_, rfl⟩
 rw [show (All2 SameR xs ys) = AL from hAL.symm]
 have HT := Lib.hid (fun (h : xs.length = ys.length) (h2 : ∀ (i : Nat) (p : RuleOf n) (q : RuleOf m), xs[i]? = some p → ys[i]? = some q → SameR p q) => (show dq AL = true from dq_t (by rw [hAL]; exact all2_of2 h h2)))
 have HF := Lib.hid (fun (h : xs.length ≠ ys.length) => (show dq AL = false from dq_f (fun h2 => h (by rw [hAL] at h2; exact h2.length))))
 have HG := Lib.hid (fun (i : Nat) (p : RuleOf n) (q : RuleOf m) (hp : xs[i]? = some p) (hq : ys[i]? = some q) (h : ¬ SameR p q) => (show dq AL = false from dq_f (fun h2 => h (by rw [hAL] at h2; exact h2.get i p q hp hq))))
 clear hAL
 obtain ⟨N, hN⟩ : ∃ N, xs.length = N := ⟨_, rfl⟩
 obtain ⟨N2, hN2⟩ : ∃ N2, ys.length = N2 := ⟨_, rfl⟩
 rw [hN, hN2] at HT HF ⊢
 rw [hN] at hl
 rw [hN2] at hl2
 have HN := Lib.hid hN
 have HN2 := Lib.hid hN2
 clear hN hN2
 by_cases hlen : N = N2
 rotate_left 1
 ·have hne : ((N : Int) != (N2 : Int)) = true := by
   have : ¬ (N : Int) = (N2 : Int) := by omega
   simpa using this
  have hne2 : ((N : Int) == (N2 : Int)) = false := by
   have : ¬ (N : Int) = (N2 : Int) := by omega
   simpa using this
  have HF2 := Lib.hid (HF.out hlen)
  clear hlen
  go_enter Tryz.func66, Tryz.ntmps66
  go_wp2_with fail
  go_ret
  exact ⟨by rw [HF2.out] <;> rfl, Below.refl _ _⟩
 subst hlen
 go_enter Tryz.func66, Tryz.ntmps66
 go_wp2_with fail
 go_loopg [17] N (fun g i wx => ∃ k : Nat, k + g = N ∧ i = .int .i64 k ∧ Below w.heap.size w wx ∧ Hid (∀ (i : Nat) (p : RuleOf n) (q : RuleOf m), i < k → xs[i]? = some p → ys[i]? = some q → SameR p q))
 case atStart => exact ⟨0, by omega, rfl, Below.refl _ _, Lib.hid (fun i p q h => by omega)⟩
 case round =>
  obtain ⟨k, hk, rfl, hb, HAll⟩ := hrel
  by_cases hlt : k < N
  ·obtain ⟨g, rfl⟩ : ∃ g, gk = g + 1 := ⟨gk - 1, by omega⟩
   obtain ⟨p, hp⟩ : ∃ p : RuleOf n, xs[k]? = some p := ⟨_, List.getElem?_eq_getElem (by rw [HN.out]; exact hlt)⟩
   obtain ⟨q, hq⟩ : ∃ q : RuleOf m, ys[k]? = some q := ⟨_, List.getElem?_eq_getElem (by rw [HN2.out]; exact hlt)⟩
   have HC := Lib.hid (HPp.out p q (List.mem_of_getElem? hp) (List.mem_of_getElem? hq))
   have HNo := Lib.hid (fun h => HG.out k p q hp hq h)
   have HYes : Hid (SameR p q → ∀ (i : Nat) (p : RuleOf n) (q : RuleOf m), i < k + 1 → xs[i]? = some p → ys[i]? = some q → SameR p q) := Lib.hid (fun h i p' q' hi hp' hq' => by
    rcases Nat.lt_succ_iff_lt_or_eq.1 hi with h3 | h3
    ·exact HAll.out i p' q' h3 hp' hq'
    ·subst h3
     rw [hp] at hp'
     rw [hq] at hq'
     injection hp' with hp'
     injection hq' with hq'
     rw [← hp', ← hq']
     exact h)
   generalize hRL : (SameR p q) = RL at *
   clear hRL
   obtain ⟨rb, hrb⟩ : ∃ rb, dq RL = rb := ⟨_, rfl⟩
   unfold DecP at HC
   rw [hrb] at HC
   have HRb := Lib.hid hrb
   clear hrb
   obtain ⟨b1, o1, e1, hb1, p0, p1, p2, p3⟩ := ruleRow (s := ⟨sa, sc, xs⟩) (H1.out.under hb) hp
   obtain ⟨b2, o2, e2, hb2, q0, q1, q2, q3⟩ := ruleRow (s := ⟨ta, tc, ys⟩) (H2.out.under hb) hq
   dsimp only at e1 e2
   subst e1 e2
   have hI : (k : Int) < (N : Int) := by omega
   have hI0 : (0 : Int) ≤ (k : Int) := by omega
   have HB := Lib.hid hb
   clear hp hq hb
   obtain ⟨pi, prt, pd, ⟨ua, uc, ux⟩⟩ := p
   obtain ⟨qi, qrt, qd, ⟨va, vc, vx⟩⟩ := q
   dsimp only at p0 p1 p2 p3 q0 q1 q2 q3
   have HBx := Lib.hid (boxG_two wr #[.bool pi, .bool prt, .bool pd, .slice ua ux.length uc] #[.bool qi, .bool qrt, .bool qd, .slice va vx.length vc] ruTy)
   have HC : Hid (∀ W, Below w.heap.size w W → Calls Tryz.prog F #[.agg #[.bool pi, .bool prt, .bool pd, .slice ua ux.length uc], .agg #[.bool qi, .bool qrt, .bool qd, .slice va vx.length vc]] W (fun e w' => e = .returned (.bool rb) ∧ Below W.heap.size W w')) := Lib.hid HC.out
   generalize ux.length = l1 at *
   generalize vx.length = l2 at *
   go_upto_region 7 with fail
   generalize (wr.alloc _).alloc _ = w2 at *
   clear p0 p1 p2 p3 q0 q1 q2 q3
   have c0 := HBx.out.1.cell (j := 0) rfl
   have c1 := HBx.out.1.cell (j := 1) rfl
   have c2 := HBx.out.1.cell (j := 2) rfl
   have c3 := HBx.out.1.cell (j := 3) rfl
   have d0 := HBx.out.2.1.cell (j := 0) rfl
   have d1 := HBx.out.2.1.cell (j := 1) rfl
   have d2 := HBx.out.2.1.cell (j := 2) rfl
   have d3 := HBx.out.2.1.cell (j := 3) rfl
   have HB2 := Lib.hid (HB.out.trans (HBx.out.2.2.1.mono HB.out.size))
   have HC2 := Lib.hid (HC.out w2 HB2.out)
   cases rb
   ·have HFl : Hid (dq AL = false) := Lib.hid (HNo.out (fun h => by have := HRb.out; rw [dq_t h] at this; cases this))
    go_wp2_with fail
    refine HC2.out.mono ?_
    rintro e w3 ⟨rfl, hb3⟩
    go_wp2_with fail
    go_ret
    exact ⟨by rw [HFl.out] <;> rfl, HB2.out.trans (hb3.mono HB2.out.size)⟩
   ·have HY2 := Lib.hid (HYes.out (by
     have := HRb.out
     exact of_dq this))
    go_wp2_with fail
    refine HC2.out.mono ?_
    rintro e w3 ⟨rfl, hb3⟩
    go_wp2_with fail
    go_roundg g
    case measure => omega
    case rel => exact ⟨k + 1, by omega, by go_num, HB2.out.trans (hb3.mono HB2.out.size), HY2⟩
  ·have hI : ¬ (k : Int) < (N : Int) := by omega
   have HTr : Hid (dq AL = true) := Lib.hid (HT.out (by first | rfl | trivial) (fun i p q hp hq => HAll.out i p q (by have := (List.getElem?_eq_some_iff.1 hp).1; rw [HN.out] at this; omega) hp hq))
   go_wp2_with fail
   go_ret
   exact ⟨by rw [HTr.out] <;> rfl, hb⟩

theorem enters_pr1 : ∀ args w, (callFunc 67 args).run Tryz.prog w = .ok (.enter 67 args) w := enters_of Tryz.func67 (by kernel_rfl) rfl

theorem equalRules2 {n m : Nat} (s : Sl (RuleOf n)) (t : Sl (RuleOf m)) (w : World) (h1 : SlHolds w 4 ruleCells s) (h2 : SlHolds w 4 ruleCells t)
  (HP : ∀ (p : RuleOf n) (q : RuleOf m), p ∈ s.xs → q ∈ t.xs → ∀ W, Below w.heap.size w W → Calls Tryz.prog 100 #[.agg (ruleArr p), .agg (ruleArr q)] W (DecP (SameR p q) W)) :
  Calls Tryz.prog 66 #[.slice s.a s.xs.length s.c, .slice t.a t.xs.length t.c, .func (.func 100) #[] #[]] w (DecP (All2 SameR s.xs t.xs) w) := equalRulesG _ enters_eqRule s t w h1 h2 HP
theorem equalRulesP {n m : Nat} (s : Sl (RuleOf n)) (t : Sl (RuleOf m)) (w : World) (h1 : SlHolds w 4 ruleCells s) (h2 : SlHolds w 4 ruleCells t)
  (HP : ∀ (p : RuleOf n) (q : RuleOf m), p ∈ s.xs → q ∈ t.xs → ∀ W, Below w.heap.size w W → Calls Tryz.prog 67 #[.agg (ruleArr p), .agg (ruleArr q)] W (DecP (SameR p q) W)) :
  Calls Tryz.prog 66 #[.slice s.a s.xs.length s.c, .slice t.a t.xs.length t.c, .func (.func 67) #[] #[]] w (DecP (All2 SameR s.xs t.xs) w) := equalRulesG _ enters_pr1 s t w h1 h2 HP

set_option maxHeartbeats 1000000 in
set_option maxRecDepth 100000 in
theorem listRule2 {n m : Nat} (s : Sl (RuleOf n)) (t : Sl (RuleOf m)) (w : World) (h1 : SlHolds w 4 ruleCells s) (h2 : SlHolds w 4 ruleCells t)
  (o1 : ∀ r ∈ s.xs, SOk w n r.parts) (o2 : ∀ r ∈ t.xs, SOk w m r.parts) :
  Calls Tryz.prog 42 #[.slice s.a s.xs.length s.c, .slice t.a t.xs.length t.c] w (DecP (All2 SameR s.xs t.xs) w) := by
 have HE := Lib.hid (equalRules2 s t w h1 h2 (fun p q hp hq W hb => eqRule2 p q W ((o1 p hp).under hb) ((o2 q hq).under hb)))
 unfold DecP at HE ⊢
 generalize dq (All2 SameR s.xs t.xs) = res at *
 clear h1 h2 o1 o2
 generalize s.xs.length = N at *
 generalize t.xs.length = N2 at *
 go_enter Tryz.func42, Tryz.ntmps42
 go_wp2_with (go_at_call 66; refine HE.out.mono ?_; rintro e w2 ⟨rfl, hb2⟩)
 go_ret
 exact ⟨rfl, hb2⟩
end Go.Proofs.YtfenmeacimfiaaaGreatDoor
namespace Go.Proofs.YtfenmeacimfiaaaGreatDoor
open Go.RowKit

theorem gtxt_inj {n m : Nat} {xs : List (P n)} {ys : List (P m)} {rt D : Bool} (h1 : ckG rt D n xs = 0) (h2 : ckG rt D m ys = 0) : gtxtN rt D n xs = gtxtN rt D m ys ↔ SameL n m xs ys := by
 constructor
 ·intro h
  obtain ⟨c1, r1, _⟩ := ckG_rt h1
  obtain ⟨c2, r2, _⟩ := ckG_rt h2
  rw [h, r2] at r1
  injection r1 with _ _ r1
  exact gpL_same c1 c2 r1.symm
 ·intro h
  unfold gtxtN
  rw [txt_same n m false xs ys h, lastSl_same n m xs ys h]
set_option maxHeartbeats 4000000 in
set_option maxRecDepth 100000 in
theorem pr1_any {n m : Nat} (r : RuleOf n) (q : RuleOf m) (w : World) (h1 : SOk w n r.parts) (h2 : SOk w m q.parts) (z1 : szL n r.parts.xs ≤ 1048576) (z2 : szL m q.parts.xs ≤ 1048576) (k1 : ckG r.rooted r.dirs n r.parts.xs = 0) (k2 : ckG q.rooted q.dirs m q.parts.xs = 0) :
  Calls Tryz.prog 67 #[.agg (ruleArr r), .agg (ruleArr q)] w (DecP (SameR r q) w) := by
 have HA1 := Lib.hid (fun W (hb : Below w.heap.size w W) => (text_of n r.parts r.rooted r.dirs W (h1.under hb) z1 k1).1)
 have HA2 := Lib.hid (fun W (hb : Below w.heap.size w W) => (text_of m q.parts q.rooted q.dirs W (h2.under hb) z2 k2).1)
 obtain ⟨pi, prt, pd, ⟨pa, pc, xs⟩⟩ := r
 obtain ⟨qi, qrt, qd, ⟨qa, qc, ys⟩⟩ := q
 have HT1 : Hid (∀ W, Below w.heap.size w W → Calls Tryz.prog 55 #[.agg #[.bool prt, .bool pd, .slice pa xs.length pc]] W fun e w' => e = .returned (.string ⟨(gtxtN prt pd n xs).toArray⟩) ∧ Below W.heap.size W w') := Lib.hid HA1.out
 have HT2 : Hid (∀ W, Below w.heap.size w W → Calls Tryz.prog 55 #[.agg #[.bool qrt, .bool qd, .slice qa ys.length qc]] W fun e w' => e = .returned (.string ⟨(gtxtN qrt qd m ys).toArray⟩) ∧ Below W.heap.size W w') := Lib.hid HA2.out
 clear HA1 HA2
 have hrel : dq (SameR (⟨pi, prt, pd, ⟨pa, pc, xs⟩⟩ : RuleOf n) (⟨qi, qrt, qd, ⟨qa, qc, ys⟩⟩ : RuleOf m)) = dq (pi = qi ∧ prt = qrt ∧ pd = qd ∧ SameL n m xs ys) := rfl
 unfold DecP
 rw [hrel]
 clear hrel
 dsimp only [ruleArr]
 have HFf : Hid (∀ h : ¬ (pi = qi ∧ prt = qrt ∧ pd = qd), dq (pi = qi ∧ prt = qrt ∧ pd = qd ∧ SameL n m xs ys) = false) := Lib.hid (fun h => dq_f (fun h2 => h ⟨h2.1, h2.2.1, h2.2.2.1⟩))
 have HFt : Hid (pi = qi → prt = qrt → pd = qd → dq (pi = qi ∧ prt = qrt ∧ pd = qd ∧ SameL n m xs ys) = ((⟨(gtxtN prt pd n xs).toArray⟩ : ByteArray).toList == (⟨(gtxtN qrt qd m ys).toArray⟩ : ByteArray).toList)) := Lib.hid (fun a1 a2 a3 => by
  subst a1 a2 a3
  have hi := gtxt_inj k1 k2
  rw [Lib.toList_data, Lib.toList_data]
  show dq _ = (gtxtN prt pd n xs == gtxtN prt pd m ys)
  by_cases h : SameL n m xs ys
  ·rw [dq_t ⟨rfl, rfl, rfl, h⟩, eq_comm, beq_iff_eq]
   exact hi.2 h
  ·rw [dq_f (fun h2 => h h2.2.2.2), eq_comm, beq_eq_false_iff_ne]
   exact fun e => h (hi.1 e))
 generalize dq (pi = qi ∧ prt = qrt ∧ pd = qd ∧ SameL n m xs ys) = res at *
 clear h1 h2 z1 z2 k1 k2
 generalize (⟨(gtxtN prt pd n xs).toArray⟩ : ByteArray) = t1 at *
 generalize (⟨(gtxtN qrt qd m ys).toArray⟩ : ByteArray) = t2 at *
 generalize xs.length = l1 at *
 generalize ys.length = l2 at *
 have HBx := Lib.hid (boxG_two w #[.bool pi, .bool prt, .bool pd, .slice pa l1 pc] #[.bool qi, .bool qrt, .bool qd, .slice qa l2 qc] ruTy)
 by_cases e1 : pi = qi
 rotate_left 1
 ·have f1 : (pi == qi) = false := by simpa using e1
  have HF : Hid (res = false) := Lib.hid (HFf.out (fun h => e1 h.1))
  clear e1 HFt HFf HT1 HT2
  go_enter Tryz.func67, Tryz.ntmps67
  go_upto_region 1 with fail
  obtain ⟨b1, hb1⟩ : ∃ b1, b1 = w.heap.size := ⟨_, rfl⟩
  obtain ⟨b2, hb2⟩ : ∃ b2, b2 = w.heap.size + 1 := ⟨_, rfl⟩
  rw [← hb2, ← hb1]
  have HX0 : Hid (BoxIs (((w.alloc (.cells #[.bool pi, .bool prt, .bool pd, .slice pa l1 pc] ruTy)).alloc (.cells #[.bool qi, .bool qrt, .bool qd, .slice qa l2 qc] ruTy)).drew) b1 #[.bool pi, .bool prt, .bool pd, .slice pa l1 pc] ruTy ∧ BoxIs (((w.alloc (.cells #[.bool pi, .bool prt, .bool pd, .slice pa l1 pc] ruTy)).alloc (.cells #[.bool qi, .bool qrt, .bool qd, .slice qa l2 qc] ruTy)).drew) b2 #[.bool qi, .bool qrt, .bool qd, .slice qa l2 qc] ruTy) := Lib.hid (by
   rw [hb1, hb2]
   exact ⟨HBx.out.1, HBx.out.2.1⟩)
  have HB0 : Hid (Below w.heap.size w ((w.alloc (.cells #[.bool pi, .bool prt, .bool pd, .slice pa l1 pc] ruTy)).alloc (.cells #[.bool qi, .bool qrt, .bool qd, .slice qa l2 qc] ruTy)).drew) := Lib.hid (bDrewN HBx.out.2.2.1 1)
  clear hb1 hb2 HBx
  generalize hwd : ((w.alloc (.cells #[.bool pi, .bool prt, .bool pd, .slice pa l1 pc] 47)).alloc (.cells #[.bool qi, .bool qrt, .bool qd, .slice qa l2 qc] 47)) = wd
  have HX0 : Hid (BoxIs wd.drew b1 #[.bool pi, .bool prt, .bool pd, .slice pa l1 pc] ruTy ∧ BoxIs wd.drew b2 #[.bool qi, .bool qrt, .bool qd, .slice qa l2 qc] ruTy) := Lib.hid (by rw [← hwd]; exact HX0.out)
  have HB0 : Hid (Below w.heap.size w wd.drew) := Lib.hid (by rw [← hwd]; exact HB0.out)
  clear hwd
  refine wp_region_seq (fun W => BoxIs W b1 #[.bool pi, .bool prt, .bool pd, .slice pa l1 pc] ruTy ∧ BoxIs W b2 #[.bool qi, .bool qrt, .bool qd, .slice qa l2 qc] ruTy) [(0, true), (1, true), (2, true), (3, true), (4, true), (5, true), (6, true), (7, true), (8, true), (9, true), (10, true), (11, true), (12, true), (13, true), (14, true), (15, true), (16, true), (17, true), (18, true), (19, true), (20, true), (21, true), (22, true), (23, true), (24, true), (25, true), (27, true), (28, true), (26, true), (29, true), (30, true), (31, true), (32, true)] (by as_aux_lemma => kernel_rfl) (by as_aux_lemma => kernel_rfl) (by decide) (by as_aux_lemma => kernel_rfl) HX0.out ?_
  intro OPS HO
  iterate 6
   refine seq_take (o := ⟨_, _, _, _, _, _⟩) (v := ?_) (by rw [HO.out]; rfl) (by rfl) ?_ ?_
   rotate_left 1
   ·first | ((intro W _; go_simp) <;> with_reducible rfl) | (intro W hW; obtain ⟨c0, c1, c2, c3, k0, k1, k2, k3⟩ := cells8 hW; (go_simp <;> with_reducible rfl))
   try simp only [Act.put, List.setIfInBounds_toArray, List.set_cons_zero, List.set_cons_succ]
  iterate 7
   refine seq_skip (o := ⟨_, _, _, _, _, _⟩) (by rw [HO.out]; rfl) (by as_aux_lemma => (rw [HO.out]; rfl)) ?_
   try simp only [Act.put, List.setIfInBounds_toArray, List.set_cons_zero, List.set_cons_succ]
  iterate 2
   refine seq_take (o := ⟨_, _, _, _, _, _⟩) (v := ?_) (by rw [HO.out]; rfl) (by rfl) ?_ ?_
   rotate_left 1
   ·first | ((intro W _; go_simp) <;> with_reducible rfl) | (intro W hW; obtain ⟨c0, c1, c2, c3, k0, k1, k2, k3⟩ := cells8 hW; (go_simp <;> with_reducible rfl))
   try simp only [Act.put, List.setIfInBounds_toArray, List.set_cons_zero, List.set_cons_succ]
  iterate 7
   refine seq_skip (o := ⟨_, _, _, _, _, _⟩) (by rw [HO.out]; rfl) (by as_aux_lemma => (rw [HO.out]; rfl)) ?_
   try simp only [Act.put, List.setIfInBounds_toArray, List.set_cons_zero, List.set_cons_succ]
  iterate 2
   refine seq_take (o := ⟨_, _, _, _, _, _⟩) (v := ?_) (by rw [HO.out]; rfl) (by rfl) ?_ ?_
   rotate_left 1
   ·first | ((intro W _; go_simp) <;> with_reducible rfl) | (intro W hW; obtain ⟨c0, c1, c2, c3, k0, k1, k2, k3⟩ := cells8 hW; (go_simp <;> with_reducible rfl))
   try simp only [Act.put, List.setIfInBounds_toArray, List.set_cons_zero, List.set_cons_succ]
  iterate 7
   refine seq_skip (o := ⟨_, _, _, _, _, _⟩) (by rw [HO.out]; rfl) (by as_aux_lemma => (rw [HO.out]; rfl)) ?_
   try simp only [Act.put, List.setIfInBounds_toArray, List.set_cons_zero, List.set_cons_succ]
  iterate 2
   refine seq_take (o := ⟨_, _, _, _, _, _⟩) (v := ?_) (by rw [HO.out]; rfl) (by rfl) ?_ ?_
   rotate_left 1
   ·first | ((intro W _; go_simp) <;> with_reducible rfl) | (intro W hW; obtain ⟨c0, c1, c2, c3, k0, k1, k2, k3⟩ := cells8 hW; (go_simp <;> with_reducible rfl))
   try simp only [Act.put, List.setIfInBounds_toArray, List.set_cons_zero, List.set_cons_succ]
  refine seq_done ?_
  go_wp2_with fail
  go_ret
  exact ⟨by rw [HF.out] <;> rfl, HB0.out⟩
 subst e1
 by_cases e2 : prt = qrt
 rotate_left 1
 ·have f2 : (prt == qrt) = false := by simpa using e2
  have HF : Hid (res = false) := Lib.hid (HFf.out (fun h => e2 h.2.1))
  clear e2 HFt HFf HT1 HT2
  go_enter Tryz.func67, Tryz.ntmps67
  go_upto_region 1 with fail
  obtain ⟨b1, hb1⟩ : ∃ b1, b1 = w.heap.size := ⟨_, rfl⟩
  obtain ⟨b2, hb2⟩ : ∃ b2, b2 = w.heap.size + 1 := ⟨_, rfl⟩
  rw [← hb2, ← hb1]
  have HX0 : Hid (BoxIs (((w.alloc (.cells #[.bool pi, .bool prt, .bool pd, .slice pa l1 pc] ruTy)).alloc (.cells #[.bool pi, .bool qrt, .bool qd, .slice qa l2 qc] ruTy)).drew) b1 #[.bool pi, .bool prt, .bool pd, .slice pa l1 pc] ruTy ∧ BoxIs (((w.alloc (.cells #[.bool pi, .bool prt, .bool pd, .slice pa l1 pc] ruTy)).alloc (.cells #[.bool pi, .bool qrt, .bool qd, .slice qa l2 qc] ruTy)).drew) b2 #[.bool pi, .bool qrt, .bool qd, .slice qa l2 qc] ruTy) := Lib.hid (by
   rw [hb1, hb2]
   exact ⟨HBx.out.1, HBx.out.2.1⟩)
  have HB0 : Hid (Below w.heap.size w ((w.alloc (.cells #[.bool pi, .bool prt, .bool pd, .slice pa l1 pc] ruTy)).alloc (.cells #[.bool pi, .bool qrt, .bool qd, .slice qa l2 qc] ruTy)).drew) := Lib.hid (bDrewN HBx.out.2.2.1 1)
  clear hb1 hb2 HBx
  generalize hwd : ((w.alloc (.cells #[.bool pi, .bool prt, .bool pd, .slice pa l1 pc] 47)).alloc (.cells #[.bool pi, .bool qrt, .bool qd, .slice qa l2 qc] 47)) = wd
  have HX0 : Hid (BoxIs wd.drew b1 #[.bool pi, .bool prt, .bool pd, .slice pa l1 pc] ruTy ∧ BoxIs wd.drew b2 #[.bool pi, .bool qrt, .bool qd, .slice qa l2 qc] ruTy) := Lib.hid (by rw [← hwd]; exact HX0.out)
  have HB0 : Hid (Below w.heap.size w wd.drew) := Lib.hid (by rw [← hwd]; exact HB0.out)
  clear hwd
  refine wp_region_seq (fun W => BoxIs W b1 #[.bool pi, .bool prt, .bool pd, .slice pa l1 pc] ruTy ∧ BoxIs W b2 #[.bool pi, .bool qrt, .bool qd, .slice qa l2 qc] ruTy) [(0, true), (1, true), (2, true), (3, true), (4, true), (5, true), (6, true), (7, true), (8, true), (9, true), (10, true), (11, true), (12, true), (13, true), (14, true), (15, true), (16, true), (17, true), (18, true), (19, true), (20, true), (21, true), (22, true), (23, true), (24, true), (25, true), (27, true), (28, true), (26, true), (29, true), (30, true), (31, true), (32, true)] (by as_aux_lemma => kernel_rfl) (by as_aux_lemma => kernel_rfl) (by decide) (by as_aux_lemma => kernel_rfl) HX0.out ?_
  intro OPS HO
  iterate 6
   refine seq_take (o := ⟨_, _, _, _, _, _⟩) (v := ?_) (by rw [HO.out]; rfl) (by rfl) ?_ ?_
   rotate_left 1
   ·first | ((intro W _; go_simp) <;> with_reducible rfl) | (intro W hW; obtain ⟨c0, c1, c2, c3, k0, k1, k2, k3⟩ := cells8 hW; (go_simp <;> with_reducible rfl))
   try simp only [Act.put, List.setIfInBounds_toArray, List.set_cons_zero, List.set_cons_succ]
  iterate 7
   refine seq_take (o := ⟨_, _, _, _, _, _⟩) (v := ?_) (by rw [HO.out]; rfl) (by as_aux_lemma => (rw [HO.out]; rfl)) ?_ ?_
   rotate_left 1
   ·first | ((intro W _; go_simp) <;> with_reducible rfl) | (intro W hW; obtain ⟨c0, c1, c2, c3, k0, k1, k2, k3⟩ := cells8 hW; (go_simp <;> with_reducible rfl))
   try simp only [Act.put, List.setIfInBounds_toArray, List.set_cons_zero, List.set_cons_succ]
  iterate 2
   refine seq_take (o := ⟨_, _, _, _, _, _⟩) (v := ?_) (by rw [HO.out]; rfl) (by rfl) ?_ ?_
   rotate_left 1
   ·first | ((intro W _; go_simp) <;> with_reducible rfl) | (intro W hW; obtain ⟨c0, c1, c2, c3, k0, k1, k2, k3⟩ := cells8 hW; (go_simp <;> with_reducible rfl))
   try simp only [Act.put, List.setIfInBounds_toArray, List.set_cons_zero, List.set_cons_succ]
  iterate 7
   refine seq_skip (o := ⟨_, _, _, _, _, _⟩) (by rw [HO.out]; rfl) (by as_aux_lemma => (rw [HO.out]; rfl)) ?_
   try simp only [Act.put, List.setIfInBounds_toArray, List.set_cons_zero, List.set_cons_succ]
  iterate 2
   refine seq_take (o := ⟨_, _, _, _, _, _⟩) (v := ?_) (by rw [HO.out]; rfl) (by rfl) ?_ ?_
   rotate_left 1
   ·first | ((intro W _; go_simp) <;> with_reducible rfl) | (intro W hW; obtain ⟨c0, c1, c2, c3, k0, k1, k2, k3⟩ := cells8 hW; (go_simp <;> with_reducible rfl))
   try simp only [Act.put, List.setIfInBounds_toArray, List.set_cons_zero, List.set_cons_succ]
  iterate 7
   refine seq_skip (o := ⟨_, _, _, _, _, _⟩) (by rw [HO.out]; rfl) (by as_aux_lemma => (rw [HO.out]; rfl)) ?_
   try simp only [Act.put, List.setIfInBounds_toArray, List.set_cons_zero, List.set_cons_succ]
  iterate 2
   refine seq_take (o := ⟨_, _, _, _, _, _⟩) (v := ?_) (by rw [HO.out]; rfl) (by rfl) ?_ ?_
   rotate_left 1
   ·first | ((intro W _; go_simp) <;> with_reducible rfl) | (intro W hW; obtain ⟨c0, c1, c2, c3, k0, k1, k2, k3⟩ := cells8 hW; (go_simp <;> with_reducible rfl))
   try simp only [Act.put, List.setIfInBounds_toArray, List.set_cons_zero, List.set_cons_succ]
  refine seq_done ?_
  go_wp2_with fail
  go_ret
  exact ⟨by rw [HF.out] <;> rfl, HB0.out⟩
 subst e2
 by_cases e3 : pd = qd
 rotate_left 1
 ·have f3 : (pd == qd) = false := by simpa using e3
  have HF : Hid (res = false) := Lib.hid (HFf.out (fun h => e3 h.2.2))
  clear e3 HFt HFf HT1 HT2
  go_enter Tryz.func67, Tryz.ntmps67
  go_upto_region 1 with fail
  obtain ⟨b1, hb1⟩ : ∃ b1, b1 = w.heap.size := ⟨_, rfl⟩
  obtain ⟨b2, hb2⟩ : ∃ b2, b2 = w.heap.size + 1 := ⟨_, rfl⟩
  rw [← hb2, ← hb1]
  have HX0 : Hid (BoxIs (((w.alloc (.cells #[.bool pi, .bool prt, .bool pd, .slice pa l1 pc] ruTy)).alloc (.cells #[.bool pi, .bool prt, .bool qd, .slice qa l2 qc] ruTy)).drew) b1 #[.bool pi, .bool prt, .bool pd, .slice pa l1 pc] ruTy ∧ BoxIs (((w.alloc (.cells #[.bool pi, .bool prt, .bool pd, .slice pa l1 pc] ruTy)).alloc (.cells #[.bool pi, .bool prt, .bool qd, .slice qa l2 qc] ruTy)).drew) b2 #[.bool pi, .bool prt, .bool qd, .slice qa l2 qc] ruTy) := Lib.hid (by
   rw [hb1, hb2]
   exact ⟨HBx.out.1, HBx.out.2.1⟩)
  have HB0 : Hid (Below w.heap.size w ((w.alloc (.cells #[.bool pi, .bool prt, .bool pd, .slice pa l1 pc] ruTy)).alloc (.cells #[.bool pi, .bool prt, .bool qd, .slice qa l2 qc] ruTy)).drew) := Lib.hid (bDrewN HBx.out.2.2.1 1)
  clear hb1 hb2 HBx
  generalize hwd : ((w.alloc (.cells #[.bool pi, .bool prt, .bool pd, .slice pa l1 pc] 47)).alloc (.cells #[.bool pi, .bool prt, .bool qd, .slice qa l2 qc] 47)) = wd
  have HX0 : Hid (BoxIs wd.drew b1 #[.bool pi, .bool prt, .bool pd, .slice pa l1 pc] ruTy ∧ BoxIs wd.drew b2 #[.bool pi, .bool prt, .bool qd, .slice qa l2 qc] ruTy) := Lib.hid (by rw [← hwd]; exact HX0.out)
  have HB0 : Hid (Below w.heap.size w wd.drew) := Lib.hid (by rw [← hwd]; exact HB0.out)
  clear hwd
  refine wp_region_seq (fun W => BoxIs W b1 #[.bool pi, .bool prt, .bool pd, .slice pa l1 pc] ruTy ∧ BoxIs W b2 #[.bool pi, .bool prt, .bool qd, .slice qa l2 qc] ruTy) [(0, true), (1, true), (2, true), (3, true), (4, true), (5, true), (6, true), (7, true), (8, true), (9, true), (10, true), (11, true), (12, true), (13, true), (14, true), (15, true), (16, true), (17, true), (18, true), (19, true), (20, true), (21, true), (22, true), (23, true), (24, true), (25, true), (27, true), (28, true), (26, true), (29, true), (30, true), (31, true), (32, true)] (by as_aux_lemma => kernel_rfl) (by as_aux_lemma => kernel_rfl) (by decide) (by as_aux_lemma => kernel_rfl) HX0.out ?_
  intro OPS HO
  iterate 6
   refine seq_take (o := ⟨_, _, _, _, _, _⟩) (v := ?_) (by rw [HO.out]; rfl) (by rfl) ?_ ?_
   rotate_left 1
   ·first | ((intro W _; go_simp) <;> with_reducible rfl) | (intro W hW; obtain ⟨c0, c1, c2, c3, k0, k1, k2, k3⟩ := cells8 hW; (go_simp <;> with_reducible rfl))
   try simp only [Act.put, List.setIfInBounds_toArray, List.set_cons_zero, List.set_cons_succ]
  iterate 7
   refine seq_take (o := ⟨_, _, _, _, _, _⟩) (v := ?_) (by rw [HO.out]; rfl) (by as_aux_lemma => (rw [HO.out]; rfl)) ?_ ?_
   rotate_left 1
   ·first | ((intro W _; go_simp) <;> with_reducible rfl) | (intro W hW; obtain ⟨c0, c1, c2, c3, k0, k1, k2, k3⟩ := cells8 hW; (go_simp <;> with_reducible rfl))
   try simp only [Act.put, List.setIfInBounds_toArray, List.set_cons_zero, List.set_cons_succ]
  iterate 2
   refine seq_take (o := ⟨_, _, _, _, _, _⟩) (v := ?_) (by rw [HO.out]; rfl) (by rfl) ?_ ?_
   rotate_left 1
   ·first | ((intro W _; go_simp) <;> with_reducible rfl) | (intro W hW; obtain ⟨c0, c1, c2, c3, k0, k1, k2, k3⟩ := cells8 hW; (go_simp <;> with_reducible rfl))
   try simp only [Act.put, List.setIfInBounds_toArray, List.set_cons_zero, List.set_cons_succ]
  iterate 7
   refine seq_take (o := ⟨_, _, _, _, _, _⟩) (v := ?_) (by rw [HO.out]; rfl) (by as_aux_lemma => (rw [HO.out]; rfl)) ?_ ?_
   rotate_left 1
   ·first | ((intro W _; go_simp) <;> with_reducible rfl) | (intro W hW; obtain ⟨c0, c1, c2, c3, k0, k1, k2, k3⟩ := cells8 hW; (go_simp <;> with_reducible rfl))
   try simp only [Act.put, List.setIfInBounds_toArray, List.set_cons_zero, List.set_cons_succ]
  iterate 2
   refine seq_take (o := ⟨_, _, _, _, _, _⟩) (v := ?_) (by rw [HO.out]; rfl) (by rfl) ?_ ?_
   rotate_left 1
   ·first | ((intro W _; go_simp) <;> with_reducible rfl) | (intro W hW; obtain ⟨c0, c1, c2, c3, k0, k1, k2, k3⟩ := cells8 hW; (go_simp <;> with_reducible rfl))
   try simp only [Act.put, List.setIfInBounds_toArray, List.set_cons_zero, List.set_cons_succ]
  iterate 7
   refine seq_skip (o := ⟨_, _, _, _, _, _⟩) (by rw [HO.out]; rfl) (by as_aux_lemma => (rw [HO.out]; rfl)) ?_
   try simp only [Act.put, List.setIfInBounds_toArray, List.set_cons_zero, List.set_cons_succ]
  iterate 2
   refine seq_take (o := ⟨_, _, _, _, _, _⟩) (v := ?_) (by rw [HO.out]; rfl) (by rfl) ?_ ?_
   rotate_left 1
   ·first | ((intro W _; go_simp) <;> with_reducible rfl) | (intro W hW; obtain ⟨c0, c1, c2, c3, k0, k1, k2, k3⟩ := cells8 hW; (go_simp <;> with_reducible rfl))
   try simp only [Act.put, List.setIfInBounds_toArray, List.set_cons_zero, List.set_cons_succ]
  refine seq_done ?_
  go_wp2_with fail
  go_ret
  exact ⟨by rw [HF.out] <;> rfl, HB0.out⟩
 subst e3
 have HF : Hid (res = (t1.toList == t2.toList)) := Lib.hid (HFt.out rfl rfl rfl)
 clear HFt HFf
 go_enter Tryz.func67, Tryz.ntmps67
 go_upto_region 1 with fail
 obtain ⟨b1, hb1⟩ : ∃ b1, b1 = w.heap.size := ⟨_, rfl⟩
 obtain ⟨b2, hb2⟩ : ∃ b2, b2 = w.heap.size + 1 := ⟨_, rfl⟩
 rw [← hb2, ← hb1]
 have HX0 : Hid (BoxIs (((w.alloc (.cells #[.bool pi, .bool prt, .bool pd, .slice pa l1 pc] ruTy)).alloc (.cells #[.bool pi, .bool prt, .bool pd, .slice qa l2 qc] ruTy)).drew) b1 #[.bool pi, .bool prt, .bool pd, .slice pa l1 pc] ruTy ∧ BoxIs (((w.alloc (.cells #[.bool pi, .bool prt, .bool pd, .slice pa l1 pc] ruTy)).alloc (.cells #[.bool pi, .bool prt, .bool pd, .slice qa l2 qc] ruTy)).drew) b2 #[.bool pi, .bool prt, .bool pd, .slice qa l2 qc] ruTy) := Lib.hid (by
  rw [hb1, hb2]
  exact ⟨HBx.out.1, HBx.out.2.1⟩)
 have HB0 : Hid (Below w.heap.size w ((w.alloc (.cells #[.bool pi, .bool prt, .bool pd, .slice pa l1 pc] ruTy)).alloc (.cells #[.bool pi, .bool prt, .bool pd, .slice qa l2 qc] ruTy)).drew) := Lib.hid (bDrewN HBx.out.2.2.1 1)
 clear hb1 hb2 HBx
 generalize hwd : ((w.alloc (.cells #[.bool pi, .bool prt, .bool pd, .slice pa l1 pc] 47)).alloc (.cells #[.bool pi, .bool prt, .bool pd, .slice qa l2 qc] 47)) = wd
 have HX0 : Hid (BoxIs wd.drew b1 #[.bool pi, .bool prt, .bool pd, .slice pa l1 pc] ruTy ∧ BoxIs wd.drew b2 #[.bool pi, .bool prt, .bool pd, .slice qa l2 qc] ruTy) := Lib.hid (by rw [← hwd]; exact HX0.out)
 have HB0 : Hid (Below w.heap.size w wd.drew) := Lib.hid (by rw [← hwd]; exact HB0.out)
 clear hwd
 refine wp_region_seq (fun W => BoxIs W b1 #[.bool pi, .bool prt, .bool pd, .slice pa l1 pc] ruTy ∧ BoxIs W b2 #[.bool pi, .bool prt, .bool pd, .slice qa l2 qc] ruTy) [(0, true), (1, true), (2, true), (3, true), (4, true), (5, true), (6, true), (7, true), (8, true), (9, true), (10, true), (11, true), (12, true), (13, true), (14, true), (15, true), (16, true), (17, true), (18, true), (19, true), (20, true), (21, true), (22, true), (23, true), (24, true), (25, true), (27, true), (28, true), (26, false), (29, false), (30, true), (31, true), (32, true)] (by as_aux_lemma => kernel_rfl) (by as_aux_lemma => kernel_rfl) (by decide) (by as_aux_lemma => kernel_rfl) HX0.out ?_
 intro OPS HO
 iterate 6
  refine seq_take (o := ⟨_, _, _, _, _, _⟩) (v := ?_) (by rw [HO.out]; rfl) (by rfl) ?_ ?_
  rotate_left 1
  ·first | ((intro W _; go_simp) <;> with_reducible rfl) | (intro W hW; obtain ⟨c0, c1, c2, c3, k0, k1, k2, k3⟩ := cells8 hW; (go_simp <;> with_reducible rfl))
  try simp only [Act.put, List.setIfInBounds_toArray, List.set_cons_zero, List.set_cons_succ]
 iterate 7
  refine seq_take (o := ⟨_, _, _, _, _, _⟩) (v := ?_) (by rw [HO.out]; rfl) (by as_aux_lemma => (rw [HO.out]; rfl)) ?_ ?_
  rotate_left 1
  ·first | ((intro W _; go_simp) <;> with_reducible rfl) | (intro W hW; obtain ⟨c0, c1, c2, c3, k0, k1, k2, k3⟩ := cells8 hW; (go_simp <;> with_reducible rfl))
  try simp only [Act.put, List.setIfInBounds_toArray, List.set_cons_zero, List.set_cons_succ]
 iterate 2
  refine seq_take (o := ⟨_, _, _, _, _, _⟩) (v := ?_) (by rw [HO.out]; rfl) (by rfl) ?_ ?_
  rotate_left 1
  ·first | ((intro W _; go_simp) <;> with_reducible rfl) | (intro W hW; obtain ⟨c0, c1, c2, c3, k0, k1, k2, k3⟩ := cells8 hW; (go_simp <;> with_reducible rfl))
  try simp only [Act.put, List.setIfInBounds_toArray, List.set_cons_zero, List.set_cons_succ]
 iterate 7
  refine seq_take (o := ⟨_, _, _, _, _, _⟩) (v := ?_) (by rw [HO.out]; rfl) (by as_aux_lemma => (rw [HO.out]; rfl)) ?_ ?_
  rotate_left 1
  ·first | ((intro W _; go_simp) <;> with_reducible rfl) | (intro W hW; obtain ⟨c0, c1, c2, c3, k0, k1, k2, k3⟩ := cells8 hW; (go_simp <;> with_reducible rfl))
  try simp only [Act.put, List.setIfInBounds_toArray, List.set_cons_zero, List.set_cons_succ]
 iterate 2
  refine seq_take (o := ⟨_, _, _, _, _, _⟩) (v := ?_) (by rw [HO.out]; rfl) (by rfl) ?_ ?_
  rotate_left 1
  ·first | ((intro W _; go_simp) <;> with_reducible rfl) | (intro W hW; obtain ⟨c0, c1, c2, c3, k0, k1, k2, k3⟩ := cells8 hW; (go_simp <;> with_reducible rfl))
  try simp only [Act.put, List.setIfInBounds_toArray, List.set_cons_zero, List.set_cons_succ]
 iterate 4
  refine seq_take (o := ⟨_, _, _, _, _, _⟩) (v := ?_) (by rw [HO.out]; rfl) (by as_aux_lemma => (rw [HO.out]; rfl)) ?_ ?_
  rotate_left 1
  ·first | ((intro W _; go_simp) <;> with_reducible rfl) | (intro W hW; obtain ⟨c0, c1, c2, c3, k0, k1, k2, k3⟩ := cells8 hW; (go_simp <;> with_reducible rfl))
  try simp only [Act.put, List.setIfInBounds_toArray, List.set_cons_zero, List.set_cons_succ]
 refine seq_do (o := ⟨_, _, _, _, _, _⟩) (by rw [HO.out]; rfl) (by as_aux_lemma => (rw [HO.out]; rfl)) (fun K hK => ?_)
 go_wp2_with (go_at_call 55; refine (HT1.out _ (HB0.out)).mono ?_; rintro e w3 ⟨rfl, hb3⟩; have HX3 := Lib.hid (And.intro (HX0.out.1.under hb3) (HX0.out.2.under hb3)); have HB3 := Lib.hid (bTrans HB0.out hb3); clear hb3)
 refine hK.out _ _ HX3.out (fun _ => ?_)
 clear hK K
 try simp only [Act.put, List.setIfInBounds_toArray, List.set_cons_zero, List.set_cons_succ]
 refine seq_do (o := ⟨_, _, _, _, _, _⟩) (by rw [HO.out]; rfl) (by as_aux_lemma => (rw [HO.out]; rfl)) (fun K hK => ?_)
 go_wp2_with (go_at_call 55; refine (HT2.out _ (HB3.out)).mono ?_; rintro e w4 ⟨rfl, hb4⟩; have HX4 := Lib.hid (And.intro (HX3.out.1.under hb4) (HX3.out.2.under hb4)); have HB4 := Lib.hid (bTrans HB3.out hb4); clear hb4)
 refine hK.out _ _ HX4.out (fun _ => ?_)
 clear hK K
 try simp only [Act.put, List.setIfInBounds_toArray, List.set_cons_zero, List.set_cons_succ]
 refine seq_take (o := ⟨_, _, _, _, _, _⟩) (v := ?_) (by rw [HO.out]; rfl) (by as_aux_lemma => (rw [HO.out]; rfl)) ?_ ?_
 rotate_left 1
 ·first | ((intro W _; go_simp) <;> with_reducible rfl) | (intro W hW; obtain ⟨c0, c1, c2, c3, k0, k1, k2, k3⟩ := cells8 hW; (go_simp <;> with_reducible rfl))
 try simp only [Act.put, List.setIfInBounds_toArray, List.set_cons_zero, List.set_cons_succ]
 iterate 2
  refine seq_take (o := ⟨_, _, _, _, _, _⟩) (v := ?_) (by rw [HO.out]; rfl) (by rfl) ?_ ?_
  rotate_left 1
  ·first | ((intro W _; go_simp) <;> with_reducible rfl) | (intro W hW; obtain ⟨c0, c1, c2, c3, k0, k1, k2, k3⟩ := cells8 hW; (go_simp <;> with_reducible rfl))
  try simp only [Act.put, List.setIfInBounds_toArray, List.set_cons_zero, List.set_cons_succ]
 refine seq_done ?_
 go_wp2_with fail
 go_ret
 exact ⟨by rw [HF.out] <;> rfl, HB4.out⟩
end Go.Proofs.YtfenmeacimfiaaaGreatDoor
namespace Go.Proofs.YtfenmeacimfiaaaGreatDoor
open Go.RowKit

theorem ruleAs0 (v : Value) (w : World) : (Instr.typeAssert (.iface 41 v) 20 62 true).run Tryz.prog w = .ok (.tuple #[.agg #[.int .i64 0, .int .i64 0, .slice none 0 0, .slice none 0 0], .bool false]) w := by kernel_rfl
theorem ruleAs1 (v : Value) (w : World) : (Instr.typeAssert (.iface 41 v) 20 60 true).run Tryz.prog w = .ok (.tuple #[.slice none 0 0, .bool false]) w := by kernel_rfl
theorem ruleAs2 (v : Value) (w : World) : (Instr.typeAssert (.iface 41 v) 20 67 true).run Tryz.prog w = .ok (.tuple #[.slice none 0 0, .bool false]) w := by kernel_rfl
theorem ruleAs3 (v : Value) (w : World) : (Instr.typeAssert (.iface 41 v) 20 70 true).run Tryz.prog w = .ok (.tuple #[.slice none 0 0, .bool false]) w := by kernel_rfl
theorem ruleAs4 (v : Value) (w : World) : (Instr.typeAssert (.iface 41 v) 20 73 true).run Tryz.prog w = .ok (.tuple #[.slice none 0 0, .bool false]) w := by kernel_rfl
theorem ruleAs5 (v : Value) (w : World) : (Instr.typeAssert (.iface 41 v) 20 78 true).run Tryz.prog w = .ok (.tuple #[.agg #[.slice none 0 0, .slice none 0 0, .slice none 0 0, .slice none 0 0], .bool false]) w := by kernel_rfl
theorem ruleAs6 (v : Value) (w : World) : (Instr.typeAssert (.iface 41 v) 20 84 true).run Tryz.prog w = .ok (.tuple #[.agg #[.slice none 0 0, .slice none 0 0, .int .i64 0, .int .i64 0, .int .i64 0], .bool false]) w := by kernel_rfl
theorem ruleAs7 (v : Value) (w : World) : (Instr.typeAssert (.iface 41 v) 20 90 true).run Tryz.prog w = .ok (.tuple #[.agg #[.string ByteArray.empty, .bool false, .int .i64 0, .int .i64 0, .slice none 0 0, .slice none 0 0, .string ByteArray.empty], .bool false]) w := by kernel_rfl
theorem ruleAs8 (v : Value) (w : World) : (Instr.typeAssert (.iface 41 v) 20 93 true).run Tryz.prog w = .ok (.tuple #[.slice none 0 0, .bool false]) w := by kernel_rfl
theorem ruleAs9 (v : Value) (w : World) : (Instr.typeAssert (.iface 41 v) 20 49 true).run Tryz.prog w = .ok (.tuple #[.slice none 0 0, .bool false]) w := by kernel_rfl
theorem ruleAs10 (v : Value) (w : World) : (Instr.typeAssert (.iface 41 v) 20 98 true).run Tryz.prog w = .ok (.tuple #[.slice none 0 0, .bool false]) w := by kernel_rfl
theorem ruleAs11 (v : Value) (w : World) : (Instr.typeAssert (.iface 41 v) 20 81 true).run Tryz.prog w = .ok (.tuple #[.slice none 0 0, .bool false]) w := by kernel_rfl
theorem ruleAsGlob (v : Value) (w : World) : (Instr.typeAssert (.iface 41 v) 20 34 true).run Tryz.prog w = .ok (.tuple #[.agg #[.bool false, .bool false, .slice none 0 0], .bool false]) w := by kernel_rfl
theorem ruleAsRules (v : Value) (w : World) : (Instr.typeAssert (.iface 41 v) 20 41 true).run Tryz.prog w = .ok (.tuple #[v, .bool true]) w := by kernel_rfl

set_option maxHeartbeats 4000000 in
set_option maxRecDepth 100000 in
theorem alikeRules2 {n m : Nat} (s : Sl (RuleOf n)) (t : Sl (RuleOf m)) (w : World) (h1 : SlHolds w 4 ruleCells s) (h2 : SlHolds w 4 ruleCells t)
  (o1 : ∀ r ∈ s.xs, SOk w n r.parts) (o2 : ∀ r ∈ t.xs, SOk w m r.parts) :
  Calls Tryz.prog 11 #[.iface 41 (.slice s.a s.xs.length s.c), .iface 41 (.slice t.a t.xs.length t.c)] w (DecP (All2 SameR s.xs t.xs) w) := by
 have HE := Lib.hid (listRule2 s t w h1 h2 o1 o2)
 unfold DecP at HE ⊢
 generalize dq (All2 SameR s.xs t.xs) = res at *
 clear h1 h2 o1 o2
 generalize s.xs.length = N at *
 generalize t.xs.length = M at *
 have has0 := @ruleAs0
 have has1 := @ruleAs1
 have has2 := @ruleAs2
 have has3 := @ruleAs3
 have has4 := @ruleAs4
 have has5 := @ruleAs5
 have has6 := @ruleAs6
 have has7 := @ruleAs7
 have has8 := @ruleAs8
 have has9 := @ruleAs9
 have has10 := @ruleAs10
 have has11 := @ruleAs11
 have hasG := @ruleAsGlob
 have hasR := @ruleAsRules
 go_enter Tryz.func11, Tryz.ntmps11
 go_wp2_with (go_at_call 42; refine HE.out.mono ?_; rintro e w2 ⟨rfl, hb2⟩)
 go_ret
 exact ⟨rfl, hb2⟩

/-- Rules whose sizes are each small. -/
def RulesOk2 (w : World) (D : Nat) (s : Sl (RuleOf D)) : Prop := SlHolds w 4 ruleCells s ∧ (∀ r ∈ s.xs, SOk w D r.parts) ∧ s.xs.length ≤ 1048576 ∧ ∀ r ∈ s.xs, szL D r.parts.xs ≤ 1048576
theorem RulesOk2.under {w w' : World} {D : Nat} {s : Sl (RuleOf D)} (h : RulesOk2 w D s) (hb : Below w.heap.size w w') : RulesOk2 w' D s := ⟨h.1.under hb, fun r hr => (h.2.1 r hr).under hb, h.2.2⟩
theorem RulesOk2.len {w : World} {D : Nat} {s : Sl (RuleOf D)} (h : RulesOk2 w D s) : s.xs.length ≤ 1048576 := h.2.2.1
theorem RulesOk2.sz {w : World} {D : Nat} {s : Sl (RuleOf D)} (h : RulesOk2 w D s) {r : RuleOf D} (hr : r ∈ s.xs) : szL D r.parts.xs ≤ 1048576 := h.2.2.2 r hr
theorem RulesOk.two {w : World} {D : Nat} {s : Sl (RuleOf D)} (h : RulesOk w D s) : RulesOk2 w D s := ⟨h.1, h.2.1, h.len, fun _ hr => h.sz hr⟩

set_option maxHeartbeats 2000000 in
set_option maxRecDepth 100000 in
theorem checkRules2_any {D : Nat} (s : Sl (RuleOf D)) (w : World) (hs : RulesOk2 w D s) :
  Calls Tryz.prog 63 #[.slice s.a s.xs.length s.c] w fun e w' => e = .returned (.int .i64 (rulesErr s.xs)) ∧ Below w.heap.size w w' := by
 have hlen := hs.len
 have HS := Lib.hid hs
 have HK : Hid (rulesErr s.xs = if 200 < s.xs.length then 8 else firstErr (s.xs.map ckR)) := Lib.hid rfl
 generalize rulesErr s.xs = K at *
 clear hs
 obtain ⟨sa, sc, xs⟩ := s
 simp only [] at *
 by_cases h1 : 200 < xs.length
 ·have HR : Hid (K = 8) := Lib.hid (HK.out.trans (if_pos h1))
  clear HK
  go_enter Tryz.func63, Tryz.ntmps63
  go_wp2_with fail
  go_ret
  exact ⟨ret_int HR.out.symm, Below.refl _ _⟩
 have HR : Hid (K = firstErr ((xs.map ckR).drop 0)) := Lib.hid (HK.out.trans (if_neg h1))
 clear HK
 go_enter Tryz.func63, Tryz.ntmps63
 go_wp2_with fail
 go_loopg [11] xs.length (fun g i wx => ∃ k : Nat, k + g = xs.length ∧ i = .int .i64 k ∧ Below w.heap.size w wx ∧ Hid (K = firstErr ((xs.map ckR).drop k)))
 case atStart => exact ⟨0, by omega, rfl, Below.refl _ _, HR⟩
 case round =>
  clear HR
  obtain ⟨k, hk, rfl, hb, HK⟩ := hrel
  by_cases hlt : k < xs.length
  ·obtain ⟨g, rfl⟩ : ∃ g, gk = g + 1 := ⟨gk - 1, by omega⟩
   obtain ⟨r, hx⟩ : ∃ r, xs[k]? = some r := ⟨_, List.getElem?_eq_getElem hlt⟩
   obtain ⟨ba, off, ha, hba, r0, r1, r2, r3⟩ := ruleRow ((HS.out.under hb).1) hx
   have hmem := List.mem_of_getElem? hx
   rw [firstErr_step (e := ckR r) (by rw [List.getElem?_map, hx]; rfl)] at HK
   have hbx := bAlloc (Below.refl wr.heap.size wr) (.cells (ruleArr r) 47)
   have HX := Lib.hid (BoxIs.new wr (ruleArr r) 47)
   have HC := Lib.hid (checkGlob_any D r.parts r.rooted r.dirs _ (((HS.out.under (bTrans hb hbx)).2.1 r hmem)) (HS.out.sz hmem))
   change Hid (Calls _ _ _ _ fun e w' => e = .returned (.int .i64 (ckR r)) ∧ _) at HC
   generalize ckR r = C at *
   have hb5 := bTrans hb hbx
   simp only [] at ha
   subst ha
   clear hx hmem hbx
   go_upto_region 6 with fail
   generalize wr.alloc _ = w5 at *
   obtain ⟨b0, b1, b2, b3⟩ : _ ∧ _ ∧ _ ∧ _ := ⟨HX.out.cell (j := 0) rfl, HX.out.cell (j := 1) rfl, HX.out.cell (j := 2) rfl, HX.out.cell (j := 3) rfl⟩
   clear r0 r1 r2 r3
   by_cases hC : C = 0
   ·subst hC
    replace HK := Lib.hid (HK.out.trans (if_pos rfl))
    go_wp2_with fail
    refine HC.out.mono ?_
    rintro e w6 ⟨rfl, hb6⟩
    clear b0 b1 b2 b3
    go_wp2_with fail
    go_roundg g
    case measure => omega
    case rel => exact ⟨k + 1, by omega, by go_num, bTrans hb5 hb6, HK⟩
   ·have HR : Hid (K = C) := Lib.hid (HK.out.trans (if_neg hC))
    have hC' : (C != 0) = true := by simp [hC]
    clear hC HK
    go_wp2_with fail
    refine HC.out.mono ?_
    rintro e w6 ⟨rfl, hb6⟩
    clear b0 b1 b2 b3
    go_wp2_with fail
    go_ret
    exact ⟨ret_int HR.out.symm, bTrans hb5 hb6⟩
  ·have HR : Hid (K = 0) := Lib.hid (by rw [HK.out, List.drop_of_length_le (by simp; omega)]; rfl)
   clear HK
   go_wp2_with fail
   go_ret
   exact ⟨ret_int HR.out.symm, hb⟩
end Go.Proofs.YtfenmeacimfiaaaGreatDoor
