/-
  Parts of the proof: Um3, Um4.
-/
import Derived.Test.YtchfhojighopkaaGreatDoorGuBF
namespace Go.Proofs.YtchfhojighopkaaGreatDoor
open Go.RowKit

theorem one_any {w : World} {a : Option Addr} {xs : List Int} {c : Nat} (hH : HoldsR w a 1 (xs.map fun n => [Value.int .i64 n])) (hl : xs.length ≤ 100) (y : Int) :
  Calls Tryz.prog 55 #[.int .i64 y, .slice a xs.length c] w fun e w' => e = .returned (.bool (xs.contains y)) ∧ w' = w := by
 have HC := Lib.hid (containsInt_any (c := c) hH hl y)
 generalize xs.contains y = r at *
 generalize xs.length = n at *
 clear hH hl
 go_enter Tryz.func55, Tryz.ntmps55
 go_wp2_with (go_at_call 14; refine HC.out.mono ?_; rintro e w2 ⟨rfl, hw⟩; have hw2 := hw.symm; clear hw; subst hw2)
 go_ret
 exact ⟨rfl, rfl⟩
theorem holds3 (w : World) (x y z : Int) : HoldsR (w.alloc (.cells #[.int .i64 x, .int .i64 y, .int .i64 z] 3)) (some ⟨w.heap.size, 0, none⟩) 1 ([x, y, z].map fun n => [Value.int .i64 n]) := by
 have hx : BoxIs (w.alloc (.cells #[.int .i64 x, .int .i64 y, .int .i64 z] 3)) w.heap.size #[.int .i64 x, .int .i64 y, .int .i64 z] 3 := heap_alloc_new _ _
 refine .inr ⟨w.heap.size, 0, rfl, hx.lt, fun k row hk j u hu => ?_⟩
 match k, hk with
 | 0, hk =>
  obtain rfl := (Option.some.inj hk)
  match j, hu with
  | 0, hu => obtain rfl := Option.some.inj hu; exact hx.cell (j := 0) rfl
 | 1, hk =>
  obtain rfl := (Option.some.inj hk)
  match j, hu with
  | 0, hu => obtain rfl := Option.some.inj hu; exact hx.cell (j := 1) rfl
 | 2, hk =>
  obtain rfl := (Option.some.inj hk)
  match j, hu with
  | 0, hu => obtain rfl := Option.some.inj hu; exact hx.cell (j := 2) rfl
theorem holds2 (w : World) (x y : Int) : HoldsR (w.alloc (.cells #[.int .i64 x, .int .i64 y] 3)) (some ⟨w.heap.size, 0, none⟩) 1 ([x, y].map fun n => [Value.int .i64 n]) := by
 have hx : BoxIs (w.alloc (.cells #[.int .i64 x, .int .i64 y] 3)) w.heap.size #[.int .i64 x, .int .i64 y] 3 := heap_alloc_new _ _
 refine .inr ⟨w.heap.size, 0, rfl, hx.lt, fun k row hk j u hu => ?_⟩
 match k, hk with
 | 0, hk =>
  obtain rfl := (Option.some.inj hk)
  match j, hu with
  | 0, hu => obtain rfl := Option.some.inj hu; exact hx.cell (j := 0) rfl
 | 1, hk =>
  obtain rfl := (Option.some.inj hk)
  match j, hu with
  | 0, hu => obtain rfl := Option.some.inj hu; exact hx.cell (j := 1) rfl
/-- The policies are known ones. -/
def polOk (cr ch se : Int) : Bool := [1, 4, 5].contains cr && [1, 2, 3].contains ch && [1, 3].contains se
def CheckP (n : Nat) (cr ch se : Int) (fx : List Int) (w : World) (e : Ending) (w' : World) : Prop :=
 (∃ z : Int, e = .returned (.int .i64 z) ∧ (z = 0 → polOk cr ch se = true ∧ fx.length ≤ n) ∧ (polOk cr ch se = true → fx = [] → z = 0)) ∧ Below w.heap.size w w'
set_option maxHeartbeats 16000000 in
set_option maxRecDepth 100000 in
theorem checkU_any {w : World} {la : Option Addr} {c : Nat} (ms : List Nat) (hl : 1 ≤ ms.length ∧ ms.length ≤ 2) (hH : HoldsR w la 1 (ms.map fun b => [Value.iface 28 (ptr b)])) {cr ch se : Int} {fx : List Int} {fa : Option Addr} {fc : Nat} (hX : HoldsR w fa 1 (fx.map fun n => [Value.int .i64 n])) :
  Calls Tryz.prog 26 #[.slice la ms.length c, .agg #[.int .i64 cr, .int .i64 ch, .int .i64 se, .slice fa fx.length fc]] w (CheckP ms.length cr ch se fx w) := by
 have HR := Lib.hid (fun W (hw : Below w.heap.size w W) => hH.under hw)
 have HX := Lib.hid (fun W (hw : Below w.heap.size w W) => hX.under hw)
 have HOn := Lib.hid (fun W (a : Option Addr) (xs : List Int) (c : Nat) (q1 : HoldsR W a 1 (xs.map fun n => [Value.int .i64 n])) q2 y => one_any (c := c) q1 q2 y)
 have H145 := Lib.hid (fun W y => one_any (c := 3) (holds3 W 1 4 5) (by decide) y)
 have H123 := Lib.hid (fun W y => one_any (c := 3) (holds3 W 1 2 3) (by decide) y)
 have H13 := Lib.hid (fun W y => one_any (c := 2) (holds2 W 1 3) (by decide) y)
 obtain ⟨n, hn⟩ : ∃ n, ms.length = n := ⟨_, rfl⟩
 obtain ⟨k, hk⟩ : ∃ k, fx.length = k := ⟨_, rfl⟩
 have HN := Lib.hid (And.intro hn hk)
 rw [hn] at hl ⊢
 rw [hk]
 have hx1 : BoxIs (w.alloc (.cells #[.int .i64 cr, .int .i64 ch, .int .i64 se, .slice fa k fc] 24)) w.heap.size #[.int .i64 cr, .int .i64 ch, .int .i64 se, .slice fa k fc] 24 := heap_alloc_new _ _
 have hb1 : Below w.heap.size w (w.alloc (.cells #[.int .i64 cr, .int .i64 ch, .int .i64 se, .slice fa k fc] 24)) := bAlloc (Below.refl _ _) _
 obtain ⟨xb, hxb⟩ : ∃ xb, w.heap.size = xb := ⟨_, rfl⟩
 have HZ := Lib.hid hxb
 rw [hxb] at hx1
 have HX1 := Lib.hid hx1
 have HB1 := Lib.hid hb1
 have hn1 : ((n : Int) == 0) = false := by simp; omega
 have hn2 : ¬ (n : Int) > 8 := by omega
 clear hH hX hn hk hx1 hb1 hxb
 go_enter Tryz.func26, Tryz.ntmps26
 go_upto_region 1 with fail
 rw [HZ.out]
 generalize w.alloc _ = w1 at *
 go_upto_region 6 with fail
 clear hn1 hn2
 go_loopg [20] n (fun gk s20 wx => ∃ i : Nat, s20 = .int .i64 i ∧ i + gk = n ∧ wx = w1)
 case atStart => exact ⟨0, rfl, by omega, rfl⟩
 case round =>
  obtain ⟨i, rfl, hig, rfl⟩ := hrel
  by_cases hlt : i < n
  case pos =>
   have hltz : (i : Int) < (n : Int) := by omega
   obtain ⟨g, rfl⟩ : ∃ g, gk = g + 1 := ⟨gk - 1, by omega⟩
   obtain ⟨b, hb⟩ : ∃ b, ms[i]? = some b := ⟨_, List.getElem?_eq_getElem (by rw [HN.out.1]; exact hlt)⟩
   obtain ⟨lg, off, hla, _, hlc⟩ := (HR.out _ HB1.out).at (k := i) (row := [Value.iface 28 (ptr b)]) (by rw [List.getElem?_map, hb]; rfl)
   have hlb := hlc 0 _ rfl
   rw [show off + i * 1 + 0 = off + i by omega] at hlb
   clear hlc hb
   subst hla
   go_wp2_with fail
   go_roundg g
   case measure => omega
   case rel => exact ⟨i + 1, by go_num, by omega, rfl⟩
  case neg =>
   have hltz : ¬ (i : Int) < (n : Int) := by omega
   clear hlt hig
   obtain ⟨b1, hb1⟩ : ∃ b1, ([1, 4, 5] : List Int).contains cr = b1 := ⟨_, rfl⟩
   obtain ⟨b2, hb2⟩ : ∃ b2, ([1, 2, 3] : List Int).contains ch = b2 := ⟨_, rfl⟩
   obtain ⟨b3, hb3⟩ : ∃ b3, ([1, 3] : List Int).contains se = b3 := ⟨_, rfl⟩
   have HA := Lib.hid (fun W => H145.out W cr)
   have HBb := Lib.hid (fun W => H123.out W ch)
   have HC := Lib.hid (fun W => H13.out W se)
   rw [hb1] at HA
   rw [hb2] at HBb
   rw [hb3] at HC
   have HP : Hid (polOk cr ch se = (b1 && b2 && b3)) := Lib.hid (by unfold polOk; rw [hb1, hb2, hb3])
   clear hb1 hb2 hb3 H145 H123 H13 HOn
   have HXwr := HX1
   have HBwr := HB1
   clear HX1 HB1
   by_cases hall : b1 = true ∧ b2 = true ∧ b3 = true
   case neg =>
    have hpf : (b1 && b2 && b3) = false := by
     cases b1 <;> cases b2 <;> cases b3 <;> simp at hall ⊢
    rw [hpf] at HP
    clear hpf
    cases b1 with
    | false =>
     clear hall
     have x0 := HXwr.out.cell (j := 0) rfl
     go_wp2_with fail
     have hcl := HA.out wr
     have hbb : Below wr.heap.size wr (wr.alloc (.cells #[.int .i64 1, .int .i64 4, .int .i64 5] 3)) := bAlloc (Below.refl _ _) _
     have HXw5 := Lib.hid (HXwr.out.under hbb)
     have HBw5 := Lib.hid (bTrans HBwr.out hbb)
     clear hbb x0 HXwr HBwr
     generalize wr.alloc _ = w5 at *
     refine hcl.mono ?_
     rintro e wq ⟨rfl, hw⟩
     have hw2 := hw.symm
     clear hw
     subst hw2
     clear hcl
     go_wp2_with fail
     go_ret
     exact ⟨⟨5, rfl, fun e => absurd e (by decide), fun e => by rw [HP.out] at e; cases e⟩, HBw5.out⟩
    | true =>
     cases b2 with
     | false =>
      clear hall
      have x0 := HXwr.out.cell (j := 0) rfl
      go_wp2_with fail
      have hcl := HA.out wr
      have hbb : Below wr.heap.size wr (wr.alloc (.cells #[.int .i64 1, .int .i64 4, .int .i64 5] 3)) := bAlloc (Below.refl _ _) _
      have HXw5 := Lib.hid (HXwr.out.under hbb)
      have HBw5 := Lib.hid (bTrans HBwr.out hbb)
      clear hbb x0 HXwr HBwr
      generalize wr.alloc _ = w5 at *
      refine hcl.mono ?_
      rintro e wq ⟨rfl, hw⟩
      have hw2 := hw.symm
      clear hw
      subst hw2
      clear hcl
      have x1 := HXw5.out.cell (j := 1) rfl
      go_wp2_with fail
      have hcl := HBb.out w5
      have hbb : Below w5.heap.size w5 (w5.alloc (.cells #[.int .i64 1, .int .i64 2, .int .i64 3] 3)) := bAlloc (Below.refl _ _) _
      have HXw6 := Lib.hid (HXw5.out.under hbb)
      have HBw6 := Lib.hid (bTrans HBw5.out hbb)
      clear hbb x1 HXw5 HBw5
      generalize w5.alloc _ = w6 at *
      refine hcl.mono ?_
      rintro e wq ⟨rfl, hw⟩
      have hw2 := hw.symm
      clear hw
      subst hw2
      clear hcl
      go_wp2_with fail
      go_ret
      exact ⟨⟨5, rfl, fun e => absurd e (by decide), fun e => by rw [HP.out] at e; cases e⟩, HBw6.out⟩
     | true =>
      cases b3 with
      | false =>
       clear hall
       have x0 := HXwr.out.cell (j := 0) rfl
       go_wp2_with fail
       have hcl := HA.out wr
       have hbb : Below wr.heap.size wr (wr.alloc (.cells #[.int .i64 1, .int .i64 4, .int .i64 5] 3)) := bAlloc (Below.refl _ _) _
       have HXw5 := Lib.hid (HXwr.out.under hbb)
       have HBw5 := Lib.hid (bTrans HBwr.out hbb)
       clear hbb x0 HXwr HBwr
       generalize wr.alloc _ = w5 at *
       refine hcl.mono ?_
       rintro e wq ⟨rfl, hw⟩
       have hw2 := hw.symm
       clear hw
       subst hw2
       clear hcl
       have x1 := HXw5.out.cell (j := 1) rfl
       go_wp2_with fail
       have hcl := HBb.out w5
       have hbb : Below w5.heap.size w5 (w5.alloc (.cells #[.int .i64 1, .int .i64 2, .int .i64 3] 3)) := bAlloc (Below.refl _ _) _
       have HXw6 := Lib.hid (HXw5.out.under hbb)
       have HBw6 := Lib.hid (bTrans HBw5.out hbb)
       clear hbb x1 HXw5 HBw5
       generalize w5.alloc _ = w6 at *
       refine hcl.mono ?_
       rintro e wq ⟨rfl, hw⟩
       have hw2 := hw.symm
       clear hw
       subst hw2
       clear hcl
       have x2 := HXw6.out.cell (j := 2) rfl
       go_wp2_with fail
       have hcl := HC.out w6
       have hbb : Below w6.heap.size w6 (w6.alloc (.cells #[.int .i64 1, .int .i64 3] 3)) := bAlloc (Below.refl _ _) _
       have HXw7 := Lib.hid (HXw6.out.under hbb)
       have HBw7 := Lib.hid (bTrans HBw6.out hbb)
       clear hbb x2 HXw6 HBw6
       generalize w6.alloc _ = w7 at *
       refine hcl.mono ?_
       rintro e wq ⟨rfl, hw⟩
       have hw2 := hw.symm
       clear hw
       subst hw2
       clear hcl
       go_wp2_with fail
       go_ret
       exact ⟨⟨5, rfl, fun e => absurd e (by decide), fun e => by rw [HP.out] at e; cases e⟩, HBw7.out⟩
      | true => exact absurd ⟨rfl, rfl, rfl⟩ hall
   case pos =>
    obtain ⟨rfl, rfl, rfl⟩ := hall
    have x0 := HXwr.out.cell (j := 0) rfl
    go_wp2_with fail
    have hcl := HA.out wr
    have hbb : Below wr.heap.size wr (wr.alloc (.cells #[.int .i64 1, .int .i64 4, .int .i64 5] 3)) := bAlloc (Below.refl _ _) _
    have HXw5 := Lib.hid (HXwr.out.under hbb)
    have HBw5 := Lib.hid (bTrans HBwr.out hbb)
    clear hbb x0 HXwr HBwr
    generalize wr.alloc _ = w5 at *
    refine hcl.mono ?_
    rintro e wq ⟨rfl, hw⟩
    have hw2 := hw.symm
    clear hw
    subst hw2
    clear hcl
    have x1 := HXw5.out.cell (j := 1) rfl
    go_wp2_with fail
    have hcl := HBb.out w5
    have hbb : Below w5.heap.size w5 (w5.alloc (.cells #[.int .i64 1, .int .i64 2, .int .i64 3] 3)) := bAlloc (Below.refl _ _) _
    have HXw6 := Lib.hid (HXw5.out.under hbb)
    have HBw6 := Lib.hid (bTrans HBw5.out hbb)
    clear hbb x1 HXw5 HBw5
    generalize w5.alloc _ = w6 at *
    refine hcl.mono ?_
    rintro e wq ⟨rfl, hw⟩
    have hw2 := hw.symm
    clear hw
    subst hw2
    clear hcl
    have x2 := HXw6.out.cell (j := 2) rfl
    go_wp2_with fail
    have hcl := HC.out w6
    have hbb : Below w6.heap.size w6 (w6.alloc (.cells #[.int .i64 1, .int .i64 3] 3)) := bAlloc (Below.refl _ _) _
    have HXw7 := Lib.hid (HXw6.out.under hbb)
    have HBw7 := Lib.hid (bTrans HBw6.out hbb)
    clear hbb x2 HXw6 HBw6
    generalize w6.alloc _ = w7 at *
    refine hcl.mono ?_
    rintro e wq ⟨rfl, hw⟩
    have hw2 := hw.symm
    clear hw
    subst hw2
    clear hcl
    go_upto_region 14 with fail
    have HB4 := HBw7
    have HX4 := HXw7
    clear HBw7 HXw7
    obtain ⟨w4, hw4⟩ : ∃ w4, w7 = w4 := ⟨_, rfl⟩
    rw [hw4] at HB4 HX4 ⊢
    clear hw4 HA HBb HC
    have x3 := HX4.out.cell (j := 3) rfl
    have HXr := Lib.hid (HX.out _ HB4.out)
    go_upto_region 15 with fail
    go_loopg [52] k (fun gk s52 wx => ∃ i : Nat, s52 = .int .i64 i ∧ i + gk = k ∧ i ≤ n ∧ wx = w4 ∧ Hid (∀ j v, j < i → fx[j]? = some v → (j : Int) ≤ v))
    case atStart => exact ⟨0, rfl, by omega, by omega, rfl, Lib.hid (fun j v h => by omega)⟩
    case round =>
     obtain ⟨i2, rfl, hig2, hin, rfl, HJ⟩ := hrel
     by_cases hlt2 : i2 < k
     case neg =>
      have hltz2 : ¬ (i2 : Int) < (k : Int) := by omega
      go_wp2_with fail
      go_ret
      exact ⟨⟨0, rfl, fun _ => ⟨HP.out, by rw [HN.out.2]; omega⟩, fun _ _ => rfl⟩, HB4.out⟩
     case pos =>
      have hltz2 : (i2 : Int) < (k : Int) := by omega
      obtain ⟨g, rfl⟩ : ∃ g, gk = g + 1 := ⟨gk - 1, by omega⟩
      obtain ⟨v, hv⟩ : ∃ v, fx[i2]? = some v := ⟨_, List.getElem?_eq_getElem (by rw [HN.out.2]; exact hlt2)⟩
      obtain ⟨fg, off, hfa, _, hfc⟩ := HXr.out.at (k := i2) (row := [.int .i64 v]) (by rw [List.getElem?_map, hv]; rfl)
      have hcv := hfc 0 _ rfl
      rw [show off + i2 * 1 + 0 = off + i2 by omega] at hcv
      have HV := Lib.hid hv
      have HE : Hid (fx ≠ []) := Lib.hid (fun e => by have := HN.out.2; rw [e] at this; simp at this; omega)
      have hi2 : i2 ≤ 2 := by omega
      clear hfc hv
      by_cases hv0 : v < 0
      case pos =>
       subst hfa
       go_wp2_with fail
       go_ret
       exact ⟨⟨7, rfl, fun e => absurd e (by decide), fun _ e => absurd e HE.out⟩, HB4.out⟩
      case neg =>
       by_cases hvn : v < (n : Int)
       case neg =>
        have hvz : v ≥ (n : Int) := by omega
        subst hfa
        go_wp2_with fail
        go_ret
        exact ⟨⟨7, rfl, fun e => absurd e (by decide), fun _ e => absurd e HE.out⟩, HB4.out⟩
       case pos =>
        have hvz : ¬ v ≥ (n : Int) := by omega
        by_cases hi0 : i2 = 0
        case pos =>
         subst hi0
         subst hfa
         rw [Nat.add_zero] at hcv
         have hz0 : (0 : Int) ≤ v := by omega
         go_wp2_with fail
         go_roundg g
         case measure => omega
         case rel => exact ⟨0 + 1, by go_num, by omega, by omega, rfl, Lib.hid (fun j u hj hu => by
          have hj0 : j = 0 := by omega
          subst hj0
          rw [HV.out] at hu
          injection hu with hu
          omega)⟩
        case neg =>
         obtain ⟨m, hm⟩ : ∃ m, i2 = m + 1 := ⟨i2 - 1, by omega⟩
         have hm1 : (i2 : Int) - 1 = (m : Int) := by omega
         have hm2 : (m : Int) < (k : Int) := by omega
         have hm3 : (i2 : Int) > 0 := by omega
         have hmk : m < k := by omega
         obtain ⟨q, hq⟩ : ∃ q, fx[m]? = some q := ⟨_, List.getElem?_eq_getElem (by rw [HN.out.2]; exact hmk)⟩
         have hmq := HJ.out m q (by omega) hq
         obtain ⟨fg2, off2, hfa2, _, hfc2⟩ := HXr.out.at (k := m) (row := [.int .i64 q]) (by rw [List.getElem?_map, hq]; rfl)
         rw [hfa] at hfa2
         injection hfa2 with hfa2
         injection hfa2 with e1 e2
         subst e1 e2
         have hcq := hfc2 0 _ rfl
         rw [show off + m * 1 + 0 = off + m by omega] at hcq
         have HMq := Lib.hid (And.intro hm hmq)
         clear hfc2 hq hm hmq hi0
         subst hfa
         by_cases hvq : v ≤ q
         case pos =>
          go_wp2_with fail
          go_ret
          exact ⟨⟨10, rfl, fun e => absurd e (by decide), fun _ e => absurd e HE.out⟩, HB4.out⟩
         case neg =>
          go_wp2_with fail
          go_roundg g
          case measure => omega
          case rel => exact ⟨i2 + 1, by go_num, by omega, by have := HMq.out; omega, rfl, Lib.hid (fun j u hj hu => by
           by_cases hjm : j < i2
           ·exact HJ.out j u hjm hu
           ·have hj0 : j = i2 := by omega
            subst hj0
            rw [HV.out] at hu
            injection hu with hu
            have := HMq.out
            omega)⟩
end Go.Proofs.YtchfhojighopkaaGreatDoor
namespace Go.Proofs.YtchfhojighopkaaGreatDoor
open Go.RowKit

section
variable {w0 w : World} {S : Two} {N : Int}
def UnionP (S : Two) (cr ch se : Int) (fx : List Int) (w : World) (e : Ending) (w' : World) : Prop :=
 (∃ (z : Int) (v : Value), e = .returned (.tuple #[v, .int .i64 z]) ∧ (z ≠ 0 ∨ z = 0 ∧ polOk cr ch se = true ∧ ∃ u : UB, v = .iface 85 (ptr u.b) ∧ u.fx = fx ∧ UAt w' S u)) ∧ Below w.heap.size w w'
set_option maxHeartbeats 16000000 in
set_option maxRecDepth 100000 in
theorem union2_any (hJ : J w w0.heap.size S N) {la : Option Addr} {c : Nat} (hH : HoldsR w la 1 [[memI S false], [memI S true]]) {cr ch se : Int} {fx : List Int} {fa : Option Addr} {fc : Nat} (hX : HoldsR w fa 1 (fx.map fun n => [Value.int .i64 n])) (hfa : fa = none → fx.length = 0) :
  Calls Tryz.prog 8 #[.slice la 2 c, .agg #[.int .i64 cr, .int .i64 ch, .int .i64 se, .slice fa fx.length fc]] w (UnionP S cr ch se fx w) := by
 have hH2 : ∀ W, Below w.heap.size w W → HoldsR W la 1 ([(S.M false).b, (S.M true).b].map fun b => [Value.iface 28 (ptr b)]) := fun W hb => hH.under hb
 have hF2 : ∀ W, Below w.heap.size w W → ∀ b ∈ [(S.M false).b, (S.M true).b], FeatBox W b wideF := fun W hb b hbm => by
  have hj := hJ.below hb
  have key : ∀ q, FeatBox W (S.M q).b wideF := fun q => by
   have hbx := (hj.mem q).box
   have hf := (hj.flat q).feat
   rw [hf] at hbx
   exact ⟨hbx.lt, hbx.cell (j := 0) rfl, hbx.cell (j := 1) rfl, hbx.cell (j := 2) rfl, hbx.cell (j := 3) rfl, hbx.cell (j := 4) rfl, hbx.cell (j := 5) rfl, hbx.cell (j := 6) rfl, hbx.cell (j := 7) rfl, hbx.cell (j := 8) rfl⟩
  simp only [List.mem_cons, List.not_mem_nil, or_false] at hbm
  rcases hbm with rfl | rfl
  ·exact key false
  ·exact key true
 have HCh := Lib.hid (fun W (hb : Below w.heap.size w W) => checkU_any (la := la) (c := c) (cr := cr) (ch := ch) (se := se) (fx := fx) (fa := fa) (fc := fc) [(S.M false).b, (S.M true).b] ⟨by show 1 ≤ 2; decide, by show 2 ≤ 2; decide⟩ (hH2 W hb) (hX.under hb))
 unfold CheckP at HCh
 have HTo := Lib.hid (fun W (hb : Below w.heap.size w W) => together_any (la := la) (c := c) [(S.M false).b, (S.M true).b] ⟨by show 1 ≤ 2; decide, by show 2 ≤ 2; decide⟩ (hH2 W hb) (hF2 W hb))
 have HCi := Lib.hid (fun W (hb : Below w.heap.size w W) (hk : fx.length ≤ 1000) => cloneI_any (w := W) (fun n => Value.int .i64 n) (fun _ => rfl) fx fa fc fx.length rfl hk (hX.under hb) hfa)
 have HCs := Lib.hid (fun W (hb : Below w.heap.size w W) => cloneS_any (w := W) (memI S) (fun _ => rfl) [false, true] la c 2 rfl (by decide) (hH.under hb) (fun e => by
  rcases hH with h | ⟨b, off, ha, _⟩
  ·cases h
  ·rw [e] at ha; cases ha))
 have HJ := Lib.hid (fun W (hb : Below w.heap.size w W) => hJ.below hb)
 have HLt := Lib.hid (fun i (hi : S.all i) => hJ.lt hi)
 obtain ⟨k, hk⟩ : ∃ k, fx.length = k := ⟨_, rfl⟩
 have HN := Lib.hid hk
 rw [hk] at HCh HCi ⊢
 have hx1 : BoxIs (w.alloc (.cells #[.int .i64 cr, .int .i64 ch, .int .i64 se, .slice fa k fc] 24)) w.heap.size #[.int .i64 cr, .int .i64 ch, .int .i64 se, .slice fa k fc] 24 := heap_alloc_new _ _
 have hb1 : Below w.heap.size w (w.alloc (.cells #[.int .i64 cr, .int .i64 ch, .int .i64 se, .slice fa k fc] 24)) := bAlloc (Below.refl _ _) _
 obtain ⟨xb, hxb⟩ : ∃ xb, w.heap.size = xb := ⟨_, rfl⟩
 have HZ := Lib.hid hxb
 rw [hxb] at hx1
 have HX1 := Lib.hid hx1
 have HB1 := Lib.hid hb1
 have HC1 := Lib.hid (HCh.out _ hb1)
 have x0 := hx1.cell (j := 0) rfl
 have x1 := hx1.cell (j := 1) rfl
 have x2 := hx1.cell (j := 2) rfl
 have x3 := hx1.cell (j := 3) rfl
 clear hJ hH hX hfa hk hxb hH2 hF2 hx1 hb1 HCh
 go_enter Tryz.func8, Tryz.ntmps8
 go_upto_region 1 with fail
 rw [HZ.out]
 generalize w.alloc _ = w1 at *
 go_upto_region 2 with (go_at_call 26; refine HC1.out.mono ?_; rintro e w2 ⟨⟨z, rfl, hz1, hz2⟩, hb2⟩)
 have HX2 := Lib.hid (HX1.out.under hb2)
 have HB2 := Lib.hid (bTrans HB1.out hb2)
 have HZ1 := Lib.hid hz1
 clear hb2 x0 x1 x2 x3 HX1 HB1 HC1 hz1 hz2
 by_cases hz0 : z = 0
 case neg =>
  have hz0z : (z == 0) = false := by simpa using hz0
  go_wp2_with fail
  go_ret2
  exact ⟨⟨z, _, rfl, .inl hz0⟩, HB2.out⟩
 case pos =>
  subst hz0
  have HT2 := Lib.hid (HTo.out _ HB2.out)
  have HPo : Hid (polOk cr ch se = true ∧ fx.length ≤ 2) := Lib.hid ⟨(HZ1.out rfl).1, by rw [HN.out]; exact (HZ1.out rfl).2⟩
  clear HZ1 HTo
  go_upto_region 5 with (go_at_call 27; refine HT2.out.mono ?_; rintro e w3 ⟨rfl, hb3⟩)
  have hb4 : Below w3.heap.size w3 (w3.alloc (.cells (featA 2559) 66)) := bAlloc (Below.refl _ _) _
  have hx4 : BoxIs (w3.alloc (.cells (featA 2559) 66)) w3.heap.size (featA 2559) 66 := heap_alloc_new _ _
  have HX4 := Lib.hid ((HX2.out.under hb3).under hb4)
  have HB4 : Hid (Below w.heap.size w _) := Lib.hid (bTrans (bTrans HB2.out hb3) hb4)
  obtain ⟨fb, hfb⟩ : ∃ fb, w3.heap.size = fb := ⟨_, rfl⟩
  have hxf : xb < fb := by rw [← hfb]; exact (HX2.out.under hb3).lt
  rw [hfb] at hx4 ⊢
  clear hb3 hb4 hfb HX2 HB2 HT2
  generalize w3.alloc _ = w4 at *
  have HF4 := Lib.hid hx4
  have d0 := hx4.cell (j := 0) rfl
  have f0 := Lib.frozen_of_heap hx4 0
  have hbit : bits BinOp.andNot IntKind.i64 2559 2272 = 287 := by decide
  clear hx4
  go_upto_region 9 with fail
  have hk5 : Kp (fun j => j = fb) w4 (w4.setCell ⟨fb, 0, none⟩ (.int .i64 287)) := (Kp.refl (fun j => j = fb) w4).set (b := fb) (.inl rfl) 0 _
  have HF5 : Hid (BoxIs (w4.setCell ⟨fb, 0, none⟩ (.int .i64 287)) fb (featA 287) 66) := Lib.hid (HF4.out.putAt 0 (.int .i64 287))
  have HX5 := Lib.hid (HX4.out.kp hk5 (by omega))
  have HB5 : Hid (Below w.heap.size w _) := Lib.hid (HB4.out.trans (hk5.below (fun j e => by rw [e, HZ.out]; omega) HB4.out.size))
  clear hk5 HF4 HX4 HB4 d0 f0 hbit
  generalize w4.setCell _ _ = w5 at *
  have x3 := HX5.out.cell (j := 3) rfl
  have HC5 := Lib.hid (HCi.out w5 HB5.out (by have := HPo.out.2; rw [HN.out] at this; omega))
  go_upto_region 10 with (go_at_call 29; refine HC5.out.mono ?_; rintro e w6 ⟨fa2, fc2, rfl, hr6, hb6⟩; have HX6 := Lib.hid (HX5.out.under hb6); have y3 := HX6.out.cell (j := 3) rfl; have g3 := Lib.frozen_of_heap HX6.out 3; have HR6 := Lib.hid hr6; have HB6 := Lib.hid hb6; clear hr6 hb6)
  have hk7 : Kp (fun j => j = xb) w6 (w6.setCell ⟨xb, 3, none⟩ (.slice fa2 k fc2)) := (Kp.refl (fun j => j = xb) w6).set (b := xb) (.inl rfl) 3 _
  have HX7 : Hid (BoxIs (w6.setCell ⟨xb, 3, none⟩ (.slice fa2 k fc2)) xb #[.int .i64 cr, .int .i64 ch, .int .i64 se, .slice fa2 k fc2] 24) := Lib.hid (HX6.out.putAt 3 (.slice fa2 k fc2))
  have HF7 := Lib.hid ((HF5.out.under HB6.out).kp hk7 (by omega))
  have HR7 : Hid (RowG 3 1 (w6.setCell ⟨xb, 3, none⟩ (.slice fa2 k fc2)) w5.heap.size fa2 fc2 (fx.map fun n => [Value.int .i64 n])) := Lib.hid (HR6.out.kp hk7 (fun q hq e => by have := (HR6.out.base q hq).1; have := HX5.out.lt; omega))
  have HB7 : Hid (Below w.heap.size w _) := Lib.hid ((bTrans HB5.out HB6.out).trans (hk7.below (fun j e => by rw [e, HZ.out]; exact Nat.le_refl _) (bTrans HB5.out HB6.out).size))
  have hx57 : xb < w5.heap.size := HX5.out.lt
  clear hk7 x3 y3 g3 HX6 HR6 HC5 HCi HX5
  have HS5 : Hid (w.heap.size ≤ w5.heap.size) := Lib.hid HB5.out.size
  clear HB5 HF5 HB6
  generalize w6.setCell _ _ = w7 at *
  have hbit2 : bits BinOp.and IntKind.i64 287 2 = 2 := by decide
  have hS : Below w7.heap.size w7 w7.drew := ⟨rfl, rfl, rfl, Nat.le_refl _, fun _ _ => rfl⟩
  have HC7 := Lib.hid (fun W (hW : Below w7.heap.size w7 W) => HCs.out W (bTrans HB7.out hW))
  clear HCs hxf
  refine wp_region_seq (fun W => Below w7.heap.size w7 W) [(0, true), (1, true), (3, true), (4, true), (5, true), (6, true), (7, true), (2, false), (8, true), (9, false), (10, true), (11, true), (12, true)] (by as_aux_lemma => kernel_rfl) (by as_aux_lemma => kernel_rfl) (by decide) (by as_aux_lemma => kernel_rfl) hS ?_
  intro OPS HO
  iterate 7
   refine seq_take (o := ⟨_, _, _, _, _, _⟩) (v := ?_) (by rw [HO.out]; rfl) (by rfl) ?_ ?_
   rotate_left 1
   ·first | ((intro W _; go_simp) <;> with_reducible rfl) | (intro W hW; obtain ⟨d0, d1, d2, d3, d4, d5, d6, d7, d8⟩ := feat_cells (HF7.out.under hW); have y0 := (HX7.out.under hW).cell (j := 0) rfl; have y1 := (HX7.out.under hW).cell (j := 1) rfl; have y2 := (HX7.out.under hW).cell (j := 2) rfl; have y3 := (HX7.out.under hW).cell (j := 3) rfl; (go_simp <;> with_reducible rfl))
   try simp only [Act.put, List.setIfInBounds_toArray, List.set_cons_zero, List.set_cons_succ]
  refine seq_do (o := ⟨_, _, _, _, _, _⟩) (by rw [HO.out]; rfl) (by rfl) (fun K hK => ?_)
  go_wp2_with (go_at_call 30; refine (HC7.out _ hS).mono ?_; rintro e w8 ⟨la2, lc2, rfl, hr8, hb8⟩; replace hS : Below w7.heap.size w7 w8 := bTrans hS hb8; clear hb8)
  have HR8 := Lib.hid hr8
  have HSz := Lib.hid hS
  clear hr8
  refine hK.out _ _ hS (fun _ => ?_)
  clear hK K
  try simp only [Act.put, List.setIfInBounds_toArray, List.set_cons_zero, List.set_cons_succ]
  refine seq_take (o := ⟨_, _, _, _, _, _⟩) (v := ?_) (by rw [HO.out]; rfl) (by rfl) ?_ ?_
  rotate_left 1
  ·first | ((intro W _; go_simp) <;> with_reducible rfl) | (intro W hW; obtain ⟨d0, d1, d2, d3, d4, d5, d6, d7, d8⟩ := feat_cells (HF7.out.under hW); have y0 := (HX7.out.under hW).cell (j := 0) rfl; have y1 := (HX7.out.under hW).cell (j := 1) rfl; have y2 := (HX7.out.under hW).cell (j := 2) rfl; have y3 := (HX7.out.under hW).cell (j := 3) rfl; (go_simp <;> with_reducible rfl))
  try simp only [Act.put, List.setIfInBounds_toArray, List.set_cons_zero, List.set_cons_succ]
  refine seq_do (o := ⟨_, _, _, _, _, _⟩) (by rw [HO.out]; rfl) (by rfl) (fun K hK => ?_)
  go_wp2_with fail
  obtain ⟨OB, hOB⟩ : ∃ OB : Array Value, OB = #[.int .i64 287, .int .i64 16, .int .i64 1, .int .i64 255, .int .i64 1024, .int .i64 100000, .int .i64 4, .int .i64 1, .string ⟨#[]⟩, .slice la2 2 lc2, .int .i64 cr, .int .i64 ch, .int .i64 se, .slice fa2 k fc2, .bool true] := ⟨_, rfl⟩
  have hb9 : Below w8.heap.size w8 (w8.alloc (.cells OB 90)) := bAlloc (Below.refl _ _) _
  have hx9 : BoxIs (w8.alloc (.cells OB 90)) w8.heap.size OB 90 := heap_alloc_new _ _
  replace hS : Below w7.heap.size w7 (w8.alloc (.cells OB 90)) := bTrans hS hb9
  have HR9 := Lib.hid ((HR8.out.holds (by decide)).under hb9)
  rw [hOB] at hS hb9 hx9 HR9
  have HX9 := Lib.hid (And.intro hx9 hb9)
  clear hb9 hx9 hOB
  refine hK.out _ _ hS (fun _ => ?_)
  clear hK K
  iterate 3
   try simp only [Act.put, List.setIfInBounds_toArray, List.set_cons_zero, List.set_cons_succ]
   refine seq_take (o := ⟨_, _, _, _, _, _⟩) (v := ?_) (by rw [HO.out]; rfl) (by rfl) ?_ ?_
   rotate_left 1
   ·first | ((intro W _; go_simp) <;> with_reducible rfl) | (intro W hW; obtain ⟨d0, d1, d2, d3, d4, d5, d6, d7, d8⟩ := feat_cells (HF7.out.under hW); have y0 := (HX7.out.under hW).cell (j := 0) rfl; have y1 := (HX7.out.under hW).cell (j := 1) rfl; have y2 := (HX7.out.under hW).cell (j := 2) rfl; have y3 := (HX7.out.under hW).cell (j := 3) rfl; (go_simp <;> with_reducible rfl))
  try simp only [Act.put, List.setIfInBounds_toArray, List.set_cons_zero, List.set_cons_succ]
  refine seq_done ?_
  go_wp2_with fail
  go_ret2
  obtain ⟨lg, rfl⟩ := HR8.out.some_of (by simp)
  have hdr : w7.drew.heap.size = w7.heap.size := rfl
  have hsz78 : w7.heap.size ≤ w8.heap.size := HSz.out.size
  have hw7 : w.heap.size ≤ w7.heap.size := HB7.out.size
  have hown : ∀ i, (UB.own ⟨w8.heap.size, lg, lc2, cr, ch, se, fx, fa2, fc2⟩ i) → w.heap.size ≤ i ∧ i ≤ w8.heap.size := fun i hi => by
   rcases hi with rfl | rfl | ⟨_, hi⟩
   ·exact ⟨Nat.le_trans hw7 hsz78, Nat.le_refl _⟩
   ·have := HR8.out.base i ⟨_, rfl, rfl⟩
    omega
   ·have := HR7.out.base i hi
    have := HS5.out
    omega
  refine ⟨⟨0, _, rfl, .inr ⟨rfl, HPo.out.1, ⟨w8.heap.size, lg, lc2, cr, ch, se, fx, fa2, fc2⟩, rfl, rfl, ⟨?_, ?_, ?_, fun i hi => ?_, fun i hi ho => ?_, HPo.out.2⟩⟩⟩, bTrans HB7.out hS⟩
  ·have := HX9.out.1
   unfold UB.arr
   rw [HN.out]
   exact this
  ·have := HR9.out
   exact this
  ·exact (HR7.out.holds (by decide)).under hS
  ·have h1 := (hown i hi).2
   have h2 : w8.heap.size < (w8.alloc (.cells #[.int .i64 287, .int .i64 16, .int .i64 1, .int .i64 255, .int .i64 1024, .int .i64 100000, .int .i64 4, .int .i64 1, .string ⟨#[]⟩, .slice (some ⟨lg, 0, none⟩) 2 lc2, .int .i64 cr, .int .i64 ch, .int .i64 se, .slice fa2 k fc2, .bool true] 90)).heap.size := HX9.out.1.lt
   exact Nat.lt_of_le_of_lt h1 h2
  ·have h1 := (hown i ho).1
   have h2 := HLt.out i hi
   omega
end
end Go.Proofs.YtchfhojighopkaaGreatDoor
