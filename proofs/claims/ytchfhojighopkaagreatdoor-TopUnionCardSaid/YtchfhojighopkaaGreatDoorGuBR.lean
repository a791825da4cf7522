/-
  Parts of the proof: Uv2.
-/
import Derived.Test.YtchfhojighopkaaGreatDoorGuBQ
namespace Go.Proofs.YtchfhojighopkaaGreatDoor
open Go.RowKit

/-- Rows of numbers that came in. -/
def Nums (w : World) (a : Option Addr) (m : Nat) (rows : List (List Int)) : Prop := HoldsR w a m (rows.map (fun r => r.map (fun n => Value.int .i64 n))) ∧ ∀ r ∈ rows, r.length = m ∧ ∀ n ∈ r, -9223372036854775808 ≤ n ∧ n ≤ 9223372036854775807
set_option maxHeartbeats 16000000 in
set_option maxRecDepth 100000 in
theorem topUnion_any {w : World} {T : Tabs} (hG : Gr w T) {cr ch se : Int} {fx : List Int} {fa ga ha : Option Addr} {fc gc hc : Nat} {fs cs : List (List Int)} (hX : HoldsR w fa 1 (fx.map fun n => [Value.int .i64 n])) (hfa : fa = none → fx.length = 0) (hF : Nums w ga 4 fs) (hC : Nums w ha 3 cs) :
  Calls Tryz.prog 3 #[.agg #[.int .i64 cr, .int .i64 ch, .int .i64 se, .slice fa fx.length fc], .slice ga fs.length gc, .slice ha cs.length hc] w fun e w' => e = .returned (.bool true) ∧ Below w.heap.size w w' := by
 have HLa := Lib.hid (fun W (hb : Below w.heap.size w W) => landedN_any W (hG.env.below hb (Nat.le_refl _)))
 have HMe := Lib.hid (fun W => memory_any W)
 unfold MemoryP at HMe
 have HG1 := Lib.hid hG
 have HXx := Lib.hid (And.intro hX hfa)
 have HFs := Lib.hid hF
 have HCs := Lib.hid hC
 obtain ⟨k, hk⟩ : ∃ k, fx.length = k := ⟨_, rfl⟩
 obtain ⟨nf, hnf⟩ : ∃ nf, fs.length = nf := ⟨_, rfl⟩
 obtain ⟨ncs, hnc⟩ : ∃ ncs, cs.length = ncs := ⟨_, rfl⟩
 have HN := Lib.hid (And.intro hk (And.intro hnf hnc))
 rw [hk, hnf, hnc]
 have hx1 : BoxIs (w.alloc (.cells (specArr cr ch se fa k fc) 24)) w.heap.size (specArr cr ch se fa k fc) 24 := heap_alloc_new _ _
 have hb1 : Below w.heap.size w (w.alloc (.cells (specArr cr ch se fa k fc) 24)) := bAlloc (Below.refl _ _) _
 obtain ⟨xb, hxb⟩ : ∃ xb, w.heap.size = xb := ⟨_, rfl⟩
 have HZ := Lib.hid hxb
 rw [hxb] at hx1
 have HX1 := Lib.hid hx1
 have HB1 := Lib.hid hb1
 clear hG hX hfa hF hC hk hnf hnc hx1 hb1 hxb
 go_enter Tryz.func3, Tryz.ntmps3
 go_upto_region 1 with fail
 rw [HZ.out]
 generalize w.alloc _ = w1 at *
 go_upto_region 3 with (go_at_call 4; refine (HLa.out _ HB1.out).mono ?_; rintro e w2 ⟨rfl, hb2⟩)
 have HX2 := Lib.hid (HX1.out.under hb2)
 have HB2 := Lib.hid (bTrans HB1.out hb2)
 clear hb2 HX1 HB1 HLa
 go_upto_region 4 with (go_at_call 5; refine (HMe.out _).mono ?_; rintro e w3 ⟨M, rfl, hm3, hc3, hb3⟩)
 have H3 := Lib.hid (And.intro hm3 (And.intro hc3 hb3))
 clear hm3 hc3 hb3
 go_upto_region 5 with (go_at_call 5; refine (HMe.out _).mono ?_; rintro e w4 ⟨M', rfl, hm4, hc4, hb4⟩)
 have H4 := Lib.hid (And.intro hm4 (And.intro hc4 hb4))
 clear hm4 hc4 hb4 HMe
 by_cases hbig : nf ≤ 15 ∧ ncs ≤ 15
 case neg =>
  by_cases hbf : (nf : Int) > 15
  ·go_wp2_with fail
   go_ret
   exact ⟨rfl, bTrans (bTrans HB2.out H3.out.2.2) H4.out.2.2⟩
  ·have hbc : (ncs : Int) > 15 := by omega
   go_wp2_with fail
   go_ret
   exact ⟨rfl, bTrans (bTrans HB2.out H3.out.2.2) H4.out.2.2⟩
 case pos =>
  have hbf : ¬ (nf : Int) > 15 := by omega
  have hbc : ¬ (ncs : Int) > 15 := by omega
  go_upto_region 8 with fail
  clear hbf hbc
  obtain ⟨m0, hm0⟩ : ∃ m0, M.b = m0 := ⟨_, rfl⟩
  obtain ⟨m1, hm1⟩ : ∃ m1, M'.b = m1 := ⟨_, rfl⟩
  obtain ⟨mg, hmg⟩ : ∃ mg, w4.heap.size = mg := ⟨_, rfl⟩
  have HS0 : Hid (∃ S : Two, (S.M false).b = m0 ∧ (S.M true).b = m1 ∧ TopS w S 0 (specArr cr ch se fa k fc) xb mg (w4.alloc (.cells #[ptr m0, ptr m1] 28))) := Lib.hid (by
   have hB3 : Below w.heap.size w w3 := bTrans HB2.out H3.out.2.2
   have hB4 : Below w.heap.size w w4 := bTrans hB3 H4.out.2.2
   have hb5 : Below w4.heap.size w4 (w4.alloc (.cells #[ptr m0, ptr m1] 28)) := bAlloc (Below.refl _ _) _
   have hj := J_new (w0 := w) HB2.out.size H3.out.1 H3.out.2.1 H4.out.2.2 H4.out.1 H4.out.2.1 H3.out.2.2
   have hj2 := J_new (w0 := w2) (Nat.le_refl _) H3.out.1 H3.out.2.1 H4.out.2.2 H4.out.1 H4.out.2.1 H3.out.2.2
   have hall := fun i hi => hj.lt (i := i) hi
   refine ⟨_, hm0, hm1, hj.below hb5, hB4.trans (Below.mono hb5 hB4.size), ((HX2.out.under H3.out.2.2).under H4.out.2.2).under hb5, ?_, ⟨fun q => ?_, fun q => ?_⟩, ⟨by rw [HZ.out]; exact Nat.le_refl _, by rw [← hmg]; exact hB4.size⟩⟩
   ·show BoxIs _ mg #[ptr M.b, ptr M'.b] _
    rw [hm0, hm1, ← hmg]
    exact heap_alloc_new _ _
   ·have hlt := HX2.out.lt
    obtain ⟨b, q⟩ := q
    rcases q with q | q
    ·have := hj2.lo ⟨b, q⟩
     omega
    ·have h3 := H3.out.2.1
     have h4 := H4.out.2.1
     have hs := H3.out.2.2.size
     cases b with
     | false => have q : xb = M.cb := q; omega
     | true => have q : xb = M'.cb := q; omega
   ·have := hall _ q
    omega)
  rw [hm0, hm1, hmg]
  clear hm0 hm1 hmg H3 H4 HX2 HB2
  generalize w4.alloc _ = w5 at *
  go_upto_region 9 with fail
  go_loopg [75] nf (fun gk s75 wx => ∃ (i : Nat) (S : Two), s75 = .int .i64 i ∧ i + gk = nf ∧ Hid ((S.M false).b = m0 ∧ (S.M true).b = m1) ∧ Hid (TopS w S i (specArr cr ch se fa k fc) xb mg wx))
  case atStart =>
   obtain ⟨S, h1, h2, h3⟩ := HS0.out
   exact ⟨0, S, rfl, by omega, Lib.hid ⟨h1, h2⟩, Lib.hid h3⟩
  case round =>
   clear HS0
   obtain ⟨i, S, rfl, hig, HMb, HT⟩ := hrel
   by_cases hlt : i < nf
   case neg =>
    have hltz : ¬ (i : Int) < (nf : Int) := by omega
    go_upto_region 13 with fail
    have hi15 : i ≤ 15 := by omega
    clear hlt hig
    obtain ⟨gu, hgu⟩ : ∃ gu, wr.heap.size = gu := ⟨_, rfl⟩
    have hb6 : Below wr.heap.size wr (wr.alloc (.cells #[.iface 28 (ptr m0), .iface 28 (ptr m1)] 45)) := bAlloc (Below.refl _ _) _
    have hx6 : BoxIs (wr.alloc (.cells #[.iface 28 (ptr m0), .iface 28 (ptr m1)] 45)) wr.heap.size #[.iface 28 (ptr m0), .iface 28 (ptr m1)] 45 := heap_alloc_new _ _
    have HT6 := Lib.hid (HT.out.below hb6)
    rw [hgu] at hx6
    have HU6 := Lib.hid (unionT (cr := cr) (ch := ch) (se := se) (fc := fc) HT6.out HXx.out.1 HXx.out.2 HN.out.1 HMb.out.1 HMb.out.2 hx6)
    have c0 := HT6.out.bx.cell (j := 0) rfl
    have c1 := HT6.out.bx.cell (j := 1) rfl
    have c2 := HT6.out.bx.cell (j := 2) rfl
    have c3 := HT6.out.bx.cell (j := 3) rfl
    clear hb6 hx6 HT
    go_upto_region 14 with (go_at_call 8; refine HU6.out.mono ?_; rintro e w7 ⟨⟨z, v, rfl, hz⟩, hb7⟩; have HZz := Lib.hid hz; clear hz)
    have HT7 := Lib.hid (HT6.out.below hb7)
    clear c0 c1 c2 c3 HU6 HT6 hb7 hgu
    by_cases hz0 : z = 0
    case neg =>
     have hz0z : (z == 0) = false := by simpa using hz0
     clear HZz
     go_wp2_with fail
     go_ret
     exact ⟨rfl, HT7.out.bel⟩
    case pos =>
     subst hz0
     obtain ⟨hpol, u, rfl, hufx, hua⟩ : polOk cr ch se = true ∧ ∃ u : UB, v = .iface 85 (ptr u.b) ∧ u.fx = fx ∧ UAt w7 S u := by
      rcases HZz.out with q | ⟨_, q1, q2⟩
      ·exact absurd rfl q
      ·exact ⟨q1, q2⟩
     have HPl := Lib.hid (And.intro hpol hufx)
     have HU7 := Lib.hid hua
     have HC7 := Lib.hid (contM_any HG1.out (S := S) (N := i) ⟨HT7.out.j, HT7.out.bel, Nat.le_refl _⟩ HT7.out.bel.size false)
     rw [HMb.out.1] at HC7
     clear HZz hpol hufx hua
     go_upto_region 17 with (go_at_call 9; refine HC7.out.mono ?_; rintro e w8 ⟨us, ua, uc, rfl, hc1, hl1, hr1, hn1, hj1, hk1⟩)
     have HT8 := Lib.hid (HT7.out.asked hj1 hk1)
     have HU8 := Lib.hid (HU7.out.asked hk1)
     have HR8 := Lib.hid (PairsR.new hr1 HT7.out.j hl1)
     have HL1 := Lib.hid hc1
     have HC8 := Lib.hid (contM_any HG1.out (S := S) (N := i) ⟨HT8.out.j, HT8.out.bel, Nat.le_refl _⟩ HT8.out.bel.size true)
     rw [HMb.out.2] at HC8
     clear hc1 hl1 hr1 hn1 hj1 hk1 HT7 HU7 HC7
     go_upto_region 18 with (go_at_call 9; refine HC8.out.mono ?_; rintro e w9 ⟨vs, va, vc, rfl, hc1, hl1, hr1, hn1, hj1, hk1⟩)
     obtain ⟨R, hR⟩ : ∃ R : Bool → RowC, R = fun b => cond b ⟨va, vc, vs⟩ ⟨ua, uc, us⟩ := ⟨_, rfl⟩
     have HD9 : Hid (Told w S i (specArr cr ch se fa k fc) xb mg u R w9) := Lib.hid ⟨HT8.out.asked hj1 hk1, HU8.out.asked hk1, fun b => by
      rw [hR]
      cases b with
      | false => exact HR8.out.asked hk1
      | true => exact PairsR.new hr1 HT8.out.j hl1⟩
     have HCl : Hid (∀ b, ContL (S.s b) (R b).ps) := Lib.hid (fun b => by
      rw [hR]
      cases b with
      | false => exact HL1.out
      | true => exact hc1)
     have HR0 : Hid (R false = ⟨ua, uc, us⟩ ∧ R true = ⟨va, vc, vs⟩) := Lib.hid ⟨by rw [hR]; rfl, by rw [hR]; rfl⟩
     have HC9 := Lib.hid (contU_any HG1.out HD9.out.inv)
     clear hc1 hl1 hr1 hn1 hj1 hk1 HT8 HU8 HC8 HR8 HL1 hR
     go_upto_region 19 with (go_at_call 9; refine HC9.out.mono ?_; rintro e w10 ⟨al, aa, ac, rfl, hq1, hq2, hl1, hr1, hn1, hj1, hk1⟩)
     have HD := Lib.hid (HD9.out.asked hj1.inv hk1)
     have HA := Lib.hid (PairsR.new hr1 HD9.out.t.j hl1)
     have HAl : Hid (AllC S al) := Lib.hid ⟨hq1, hq2⟩
     clear hq1 hq2 hl1 hr1 hn1 hj1 hk1 HD9 HC9
     obtain ⟨gr, hgr⟩ : ∃ gr, w10.heap.size = gr := ⟨_, rfl⟩
     have hb11 : Below w10.heap.size w10 (w10.alloc (.cells #[.slice ua us.length uc, .slice va vs.length vc] 49)) := bAlloc (Below.refl _ _) _
     have hx11 : BoxIs (w10.alloc (.cells #[.slice ua us.length uc, .slice va vs.length vc] 49)) w10.heap.size #[.slice ua us.length uc, .slice va vs.length vc] 49 := heap_alloc_new _ _
     have HD11 := Lib.hid (HD.out.below hb11)
     have HA11 := Lib.hid (HA.out.below hb11)
     rw [hgr] at hx11
     have HX11 := Lib.hid hx11
     clear hb11 hx11 HD HA
     obtain ⟨na, hna⟩ : ∃ na, al.length = na := ⟨_, rfl⟩
     have HNa := Lib.hid hna
     have hna4 : na ≤ 4 := by rw [← hna]; exact HA11.out.few
     rw [hna]
     clear hna
     go_upto_region 22 with fail
     try rw [hgr]
     clear hgr
     generalize w10.alloc _ = w11 at *
     go_loopg [138] 2 (fun gk s138 wx => ∃ jl : Nat, s138 = .int .i64 jl ∧ jl + gk = 2 ∧ Hid (Below w11.heap.size w11 wx))
     case atStart => exact ⟨0, rfl, by omega, Lib.hid (Below.refl _ _)⟩
     case round =>
      obtain ⟨jl, rfl, hjg, HB⟩ := hrel
      by_cases hlt : jl < 2
      case pos =>
       have hltz : (jl : Int) < 2 := by omega
       obtain ⟨la, lc, ls, hRj, hcl⟩ := rowsAt HR0.out.1 HR0.out.2 (HX11.out.under HB.out) hlt
       have HRj := Lib.hid hRj
       obtain ⟨nl, hnl⟩ : ∃ nl, ls.length = nl := ⟨_, rfl⟩
       have HNl := Lib.hid hnl
       rw [hnl] at hcl
       have hnl4 : nl ≤ 4 := by rw [← hnl]; exact (HD11.out.at hRj).few
       clear hRj hnl
       go_upto_region 25 with fail
       clear hcl
       obtain ⟨g2, rfl⟩ : ∃ g2, g2 = gk := ⟨_, rfl⟩
       go_loopg [144] nl (fun gk s144 wx => ∃ q : Nat, s144 = .int .i64 q ∧ q + gk = nl ∧ Hid (Below w11.heap.size w11 wx))
       case atStart => exact ⟨0, rfl, by omega, HB⟩
       case round =>
        clear HB
        obtain ⟨q, rfl, hqg, HB⟩ := hrel
        by_cases hlt2 : q < nl
        case pos =>
         have hltz2 : (q : Int) < (nl : Int) := by omega
         obtain ⟨f, hf⟩ : ∃ f, ls[q]? = some f := ⟨_, List.getElem?_eq_getElem (by rw [HNl.out]; exact hlt2)⟩
         obtain ⟨ba, off, hba, r0, r1⟩ := (HD11.out.at HRj.out).row HB.out hf
         have hx6 : BoxIs (wr.alloc (.cells #[.string f.1, .string f.2] 53)) wr.heap.size #[.string f.1, .string f.2] 53 := heap_alloc_new _ _
         have hb6 : Below wr.heap.size wr (wr.alloc (.cells #[.string f.1, .string f.2] 53)) := bAlloc (Below.refl _ _) _
         obtain ⟨bx, hbx⟩ : ∃ bx, wr.heap.size = bx := ⟨_, rfl⟩
         have HB6 : Hid (Below w11.heap.size w11 _) := Lib.hid (bTrans HB.out hb6)
         rw [hbx] at hx6
         have HCF := Lib.hid (namedT (ac := ac) HD11.out.t.j HA11.out HNa.out HAl.out HCl.out HRj.out hf HB6.out hx6)
         subst hba
         clear hf hx6 hb6 HB
         go_wp2_with fail
         refine HCF.out.mono ?_
         rintro e w12 ⟨rfl, hb12⟩
         have HB12 := Lib.hid hb12
         clear hb12 hbx r0 r1 HCF
         go_wp2_with fail
         obtain ⟨g, rfl⟩ : ∃ g, gk = g + 1 := ⟨gk - 1, by omega⟩
         go_roundg g
         case measure => omega
         case rel => exact ⟨q + 1, by go_num, by omega, Lib.hid (bTrans HB6.out HB12.out)⟩
        case neg =>
         have hltz2 : ¬ (q : Int) < (nl : Int) := by omega
         go_wp2_with fail
         obtain ⟨g, rfl⟩ : ∃ g, g2 = g + 1 := ⟨g2 - 1, by omega⟩
         go_roundg g
         case measure => omega
         case rel => exact ⟨jl + 1, by go_num, by omega, HB⟩
      case neg =>
       have hltz : ¬ (jl : Int) < 2 := by omega
       go_upto_region 32 with fail
       go_loopg [156] na (fun gk s156 wx => ∃ q : Nat, s156 = .int .i64 q ∧ q + gk = na ∧ Hid (Below w11.heap.size w11 wx))
       case atStart => exact ⟨0, rfl, by omega, HB⟩
       case round =>
        clear HB
        obtain ⟨q, rfl, hqg, HB⟩ := hrel
        by_cases hlt2 : q < na
        case pos =>
         have hltz2 : (q : Int) < (na : Int) := by omega
         obtain ⟨f, hf⟩ : ∃ f, al[q]? = some f := ⟨_, List.getElem?_eq_getElem (by rw [HNa.out]; exact hlt2)⟩
         obtain ⟨ba, off, hba, r0, r1⟩ := HA11.out.row HB.out hf
         have hx6 : BoxIs (wr.alloc (.cells #[.string f.1, .string f.2] 53)) wr.heap.size #[.string f.1, .string f.2] 53 := heap_alloc_new _ _
         have hb6 : Below wr.heap.size wr (wr.alloc (.cells #[.string f.1, .string f.2] 53)) := bAlloc (Below.refl _ _) _
         obtain ⟨bx, hbx⟩ : ∃ bx, wr.heap.size = bx := ⟨_, rfl⟩
         have HB6 : Hid (Below w11.heap.size w11 _) := Lib.hid (bTrans HB.out hb6)
         rw [hbx] at hx6
         have HX6 := Lib.hid hx6
         have HC1 := Lib.hid (fun W (hb : Below w11.heap.size w11 W) => containsT (c := uc) (HD11.out.at (j := 0) HR0.out.1) rfl hb f)
         have HC2 := Lib.hid (fun W (hb : Below w11.heap.size w11 W) => containsT (c := vc) (HD11.out.at (j := 1) HR0.out.2) rfl hb f)
         have HOne := Lib.hid (HAl.out.one (N := i) (us := us) (vs := vs) (fun b => HD11.out.t.j.flat b) (by have := HCl.out false; rwa [HR0.out.1] at this) (by have := HCl.out true; rwa [HR0.out.2] at this) (List.mem_of_getElem? hf))
         have c0 := hx6.cell (j := 0) rfl
         have c1 := hx6.cell (j := 1) rfl
         generalize us.any (eqP f) = E1 at *
         generalize vs.any (eqP f) = E2 at *
         subst hba
         clear hf hx6 hb6 HB c0 c1
         go_upto_region 34 with fail
         try rw [hbx]
         clear hbx r0 r1
         generalize wr.alloc _ = w6 at *
         have c0 := HX6.out.cell (j := 0) rfl
         have c1 := HX6.out.cell (j := 1) rfl
         cases E1
         ·obtain rfl : E2 = true := HOne.out rfl
          go_wp2_with fail
          refine (HC1.out _ HB6.out).mono ?_
          rintro e w12 ⟨rfl, hb12⟩
          have d0 := (HX6.out.under hb12).cell (j := 0) rfl
          have d1 := (HX6.out.under hb12).cell (j := 1) rfl
          have HB12 := Lib.hid (bTrans HB6.out hb12)
          clear hb12
          go_wp2_with fail
          refine (HC2.out _ HB12.out).mono ?_
          rintro e w13 ⟨rfl, hb13⟩
          have HB13 := Lib.hid (bTrans HB12.out hb13)
          clear hb13
          go_wp2_with fail
          obtain ⟨g, rfl⟩ : ∃ g, gk = g + 1 := ⟨gk - 1, by omega⟩
          go_roundg g
          case measure => omega
          case rel => exact ⟨q + 1, by go_num, by omega, HB13⟩
         ·go_wp2_with fail
          refine (HC1.out _ HB6.out).mono ?_
          rintro e w12 ⟨rfl, hb12⟩
          have HB12 := Lib.hid (bTrans HB6.out hb12)
          clear hb12
          go_wp2_with fail
          obtain ⟨g, rfl⟩ : ∃ g, gk = g + 1 := ⟨gk - 1, by omega⟩
          go_roundg g
          case measure => omega
          case rel => exact ⟨q + 1, by go_num, by omega, HB12⟩
        case neg =>
         have hltz2 : ¬ (q : Int) < (na : Int) := by omega
         go_upto_region 37 with fail
         have HD12 := Lib.hid (HD11.out.below HB.out)
         clear HB HX11 HA11 HAl HNa HD11
         obtain ⟨g1, hg1⟩ : ∃ g1, wr.heap.size = g1 := ⟨_, rfl⟩
         have hb13 : Below wr.heap.size wr (wr.alloc (.cells #[.iface 28 (ptr m0)] 45)) := bAlloc (Below.refl _ _) _
         have hx13 : BoxIs (wr.alloc (.cells #[.iface 28 (ptr m0)] 45)) wr.heap.size #[.iface 28 (ptr m0)] 45 := heap_alloc_new _ _
         have HD13 := Lib.hid (HD12.out.below hb13)
         rw [hg1] at hx13
         have HU13 := Lib.hid (union1T (cr := cr) (ch := ch) (se := se) HD13.out.t HPl.out.1 HMb.out.1 hx13)
         have c0 := HD13.out.t.bx.cell (j := 0) rfl
         have c1 := HD13.out.t.bx.cell (j := 1) rfl
         have c2 := HD13.out.t.bx.cell (j := 2) rfl
         clear hb13 hx13 HD12
         go_upto_region 38 with (go_at_call 8; refine HU13.out.mono ?_; rintro e w14 ⟨⟨ob, rfl, hbo, hob⟩, hb14⟩; have HO14 := Lib.hid (And.intro hbo (And.intro hob hb14)); clear hbo hob hb14)
         have HD14 := Lib.hid (HD13.out.below HO14.out.2.2)
         have HC14 := Lib.hid (contS_any HG1.out HD14.out.invJ HD14.out.t.bel.size false HO14.out.1 (fun q => by have := HD13.out.t.j.lt (Two.foot_all q); have := HO14.out.2.1; omega))
         clear c0 c1 c2 hg1 HU13 HD13 HO14
         go_upto_region 39 with (go_at_call 9; refine HC14.out.mono ?_; rintro e w15 ⟨ws, wa, wc, rfl, hc1, hl1, hr1, hn1, hj1, hk1⟩)
         have HD15 := Lib.hid (HD14.out.asked hj1 hk1)
         have HEq := Lib.hid (equalT (c := uc) (d := wc) (HD15.out.at (j := 0) HR0.out.1) (PairsR.new hr1 HD14.out.t.j hl1) (ContL.unique (by have := HCl.out false; rwa [HR0.out.1] at this) hc1) rfl rfl)
         clear hc1 hl1 hr1 hn1 hj1 hk1 HD14 HC14
         go_upto_region 41 with (go_at_call 13; refine HEq.out.mono ?_; rintro e w16 ⟨rfl, hb16⟩; have HB16 := Lib.hid hb16; clear hb16)
         have HD16 := Lib.hid (HD15.out.below HB16.out)
         clear HB16 HD15 HEq
         go_upto_region 42 with fail
         go_loopg [204] ncs (fun gk s204 wx => ∃ (j : Nat) (S' : Two) (N' : Int), s204 = .int .i64 j ∧ j + gk = ncs ∧ Hid (N' ≤ 15 + 2 * (j : Int)) ∧ Hid (S'.M = S.M ∧ ∀ q, q < 2 → u.isFix q = true → S'.s (bOf q) = S.s (bOf q)) ∧ Hid (Told w S' N' (specArr cr ch se fa k fc) xb mg u R wx))
         case atStart => exact ⟨0, S, i, rfl, by omega, Lib.hid (by omega), Lib.hid ⟨rfl, fun _ _ _ => rfl⟩, HD16⟩
         case round =>
          clear HD16
          obtain ⟨j, S', N', rfl, hjg, HNb, HF, HD⟩ := hrel
          by_cases hlt : j < ncs
          case neg =>
           have hltz : ¬ (j : Int) < (ncs : Int) := by omega
           go_upto_region 49 with fail
           obtain ⟨g6, hg6⟩ : ∃ g6, wr.heap.size = g6 := ⟨_, rfl⟩
           have hb6 : Below wr.heap.size wr (wr.alloc (.cells #[.slice ua us.length uc, .slice va vs.length vc] 49)) := bAlloc (Below.refl _ _) _
           have hx6 : BoxIs (wr.alloc (.cells #[.slice ua us.length uc, .slice va vs.length vc] 49)) wr.heap.size #[.slice ua us.length uc, .slice va vs.length vc] 49 := heap_alloc_new _ _
           have HD6 := Lib.hid (HD.out.below hb6)
           have hn6 : ¬ S'.all wr.heap.size := fun q => by have := HD.out.t.j.lt q; omega
           rw [hg6] at hx6 hn6
           have HX6 := Lib.hid (And.intro hx6 hn6)
           clear hb6 hx6 hn6 HD
           go_upto_region 50 with fail
           try rw [hg6]
           clear hg6
           generalize wr.alloc _ = w6 at *
           go_loopg [237] 2 (fun gk s237 wx => ∃ p : Nat, s237 = .int .i64 p ∧ p + gk = 2 ∧ Hid (Told w S' N' (specArr cr ch se fa k fc) xb mg u R wx) ∧ Hid (BoxIs wx g6 #[.slice ua us.length uc, .slice va vs.length vc] 49))
           case atStart => exact ⟨0, rfl, by omega, HD6, Lib.hid HX6.out.1⟩
           case round =>
            clear HD6
            obtain ⟨p, rfl, hpg, HD, HX⟩ := hrel
            by_cases hlt2 : p < 2
            case neg =>
             have hltz2 : ¬ (p : Int) < 2 := by omega
             go_wp2_with fail
             go_ret
             exact ⟨rfl, HD.out.t.bel⟩
            case pos =>
             have hltz2 : (p : Int) < 2 := by omega
             obtain ⟨la, lc, ls, hRj, hcl⟩ := rowsAt HR0.out.1 HR0.out.2 HX.out hlt2
             have HRj := Lib.hid hRj
             obtain ⟨mb, hmb⟩ : ∃ mb, (S'.M (bOf p)).b = mb := ⟨_, rfl⟩
             have hcm := HD.out.t.mem hlt2
             have HC := Lib.hid (contM_any HG1.out HD.out.invJ HD.out.t.bel.size (bOf p))
             rw [hmb] at hcm HC
             have hp15 : (p : Int) < 2 := hltz2
             clear hmb hRj
             go_upto_region 53 with (go_at_call 9; refine HC.out.mono ?_; rintro e w7 ⟨ns, na2, nc, rfl, hc1, hl1, hr1, hn1, hj1, hk1⟩)
             have HD7 := Lib.hid (HD.out.asked hj1 hk1)
             have HX7 := Lib.hid (HX.out.kp hk1 (fun q => HX6.out.2 (Two.foot_all q)))
             have HFx := Lib.hid (fixedT (fc := fc) HXx.out.1 HN.out.1 HPl.out.2 HD7.out.u.few HD7.out.t.bel p)
             have HEq := Lib.hid (fun (hf : u.isFix p = true) => equalT (c := nc) (d := lc) (PairsR.new hr1 HD.out.t.j hl1) (HD7.out.at HRj.out) (ContL.unique hc1 (by rw [HF.out.2 p hlt2 hf]; have := HCl.out (bOf p); rwa [HRj.out] at this)) rfl rfl)
             have e3 := HD7.out.t.bx.cell (j := 3) rfl
             clear hc1 hl1 hr1 hn1 hj1 hk1 HC hcm hcl HX HD
             by_cases hfx : u.isFix p = true
             case pos =>
              have HEq2 := Lib.hid (HEq.out hfx)
              rw [hfx] at HFx
              clear HEq hfx
              go_wp2_with fail
              refine HFx.out.mono ?_
              rintro e w8 ⟨rfl, hw⟩
              have hw2 := hw.symm
              clear hw
              subst hw2
              go_wp2_with fail
              refine HEq2.out.mono ?_
              rintro e w9 ⟨rfl, hb9⟩
              have HB9 := Lib.hid hb9
              clear hb9
              go_wp2_with fail
              obtain ⟨g, rfl⟩ : ∃ g, gk = g + 1 := ⟨gk - 1, by omega⟩
              go_roundg g
              case measure => omega
              case rel => exact ⟨p + 1, by go_num, by omega, Lib.hid (HD7.out.below HB9.out), Lib.hid (HX7.out.under HB9.out)⟩
             case neg =>
              have hfx2 : u.isFix p = false := by simpa using hfx
              rw [hfx2] at HFx
              clear HEq hfx hfx2
              go_wp2_with fail
              refine HFx.out.mono ?_
              rintro e w8 ⟨rfl, hw⟩
              have hw2 := hw.symm
              clear hw
              subst hw2
              go_wp2_with fail
              obtain ⟨g, rfl⟩ : ∃ g, gk = g + 1 := ⟨gk - 1, by omega⟩
              go_roundg g
              case measure => omega
              case rel => exact ⟨p + 1, by go_num, by omega, HD7, HX7⟩
          case pos =>
           have hltz : (j : Int) < (ncs : Int) := by omega
           obtain ⟨r, hr⟩ : ∃ r, cs[j]? = some r := ⟨_, List.getElem?_eq_getElem (by rw [HN.out.2.2]; exact hlt)⟩
           obtain ⟨hr3, hrb⟩ := HCs.out.2 r (List.mem_of_getElem? hr)
           match r, hr3, hr, hrb with
           | [y0, y1, y2], _, hr, hrb =>
           have b1 := hrb y1 (by simp)
           obtain ⟨ag, off, hag, _, hac⟩ := (HCs.out.1.under HD.out.t.bel).at (k := j) (row := [.int .i64 y0, .int .i64 y1, .int .i64 y2]) (by rw [List.getElem?_map, hr]; rfl)
           obtain ⟨o, ho⟩ : ∃ o, j * 3 = o := ⟨_, rfl⟩
           rw [ho] at hac
           have n0 := hac 0 _ rfl
           have n1 := hac 1 _ rfl
           have n2 := hac 2 _ rfl
           simp only [Nat.add_zero] at n0
           have hx6 : BoxIs (wr.alloc (.cells #[.int .i64 y0, .int .i64 y1, .int .i64 y2] 58)) wr.heap.size #[.int .i64 y0, .int .i64 y1, .int .i64 y2] 58 := heap_alloc_new _ _
           have hb6 : Below wr.heap.size wr (wr.alloc (.cells #[.int .i64 y0, .int .i64 y1, .int .i64 y2] 58)) := bAlloc (Below.refl _ _) _
           obtain ⟨bx, hbx⟩ : ∃ bx, wr.heap.size = bx := ⟨_, rfl⟩
           have HD6 := Lib.hid (HD.out.below hb6)
           rw [hbx] at hx6
           have HX6 := Lib.hid hx6
           have HB1 := Lib.hid b1
           subst hag
           clear hr hrb hr3 b1 hac hx6 hb6 HD
           go_upto_region 44 with fail
           try rw [hbx]
           clear hbx n0 n1 n2 ho
           generalize wr.alloc _ = w6 at *
           obtain ⟨U0, hU0, hV0⟩ := u64_nat y0
           obtain ⟨U2, hU2, hV2⟩ := u64_nat y2
           obtain ⟨k0, hk0⟩ : ∃ k0, U0 % 4 = k0 := ⟨_, rfl⟩
           obtain ⟨k2, hk2⟩ : ∃ k2, U2 % 3 = k2 := ⟨_, rfl⟩
           have hl0 : k0 < 4 := by omega
           have hl2 : k2 < 3 := by omega
           have ht0 : (IntKind.u64.wrap y0).tmod 4 = (k0 : Int) := by
            rw [hU0, ← hk0]; rfl
           have ht2 : (IntKind.u64.wrap y2).tmod 3 = (k2 : Int) := by
            rw [hU2, ← hk2]; rfl
           obtain ⟨pn, hpn, hpm⟩ := pqrn_at hl0
           have hx7 : BoxIs (w6.alloc (.cells pqrn 9)) w6.heap.size pqrn 9 := heap_alloc_new _ _
           have hb7 : Below w6.heap.size w6 (w6.alloc (.cells pqrn 9)) := bAlloc (Below.refl _ _) _
           have hc7 := hx7.cell hpn
           have HD7 := Lib.hid (HD6.out.below hb7)
           have HX7 := Lib.hid (HX6.out.under hb7)
           have e0 := HX7.out.cell (j := 0) rfl
           have e2 := HX7.out.cell (j := 2) rfl
           have hz0 : (k0 : Int) < 4 := by omega
           have HPm := Lib.hid hpm
           clear hU0 hU2 hV0 hV2 hk0 hk2 hpn hpm hx7 hb7 HD6 HX6
           go_upto_region 45 with fail
           clear hc7 e0 ht0 hz0 hl0
           generalize w6.alloc _ = w7 at *
           by_cases hz2 : k2 = 0
           case pos =>
            subst hz2
            have HRm := Lib.hid (removeT HG1.out HD7.out HPm.out)
            have hMR := uniM_remove
            clear HX7 HD7
            go_wp2_with (go_at_call 223; refine HRm.out.mono ?_; rintro e w8 ⟨⟨v, rfl⟩, hch⟩)
            obtain ⟨S2, N2, h1, h2, h3, h4⟩ := hch
            obtain ⟨g, rfl⟩ : ∃ g, gk = g + 1 := ⟨gk - 1, by omega⟩
            go_roundg g
            case measure => omega
            case rel => exact ⟨j + 1, S2, N2, by go_num, by omega, Lib.hid (by have := HNb.out; push_cast; omega), Lib.hid ⟨h1.trans HF.out.1, fun q hq hf => (h4 q hq hf).trans (HF.out.2 q hq hf)⟩, Lib.hid h2⟩
           case neg =>
            have hz2z : ((k2 : Int) == 0) = false := by simpa using (by omega : (k2 : Int) ≠ 0)
            go_upto_region 47 with fail
            clear e2 ht2 hz2z hz2
            have hN9 : N' ≤ 900 := by have := HNb.out; omega
            have HDt := Lib.hid (fun W (hb : Below w.heap.size w W) => dataOf_any y1 W (HG1.out.pow.under hb) HB1.out)
            have HPt := Lib.hid (fun W (d : ByteArray) (hT : Told w S' N' (specArr cr ch se fa k fc) xb mg u R W) (hd : d.size ≤ 1000) => putT HG1.out hT hN9 HPm.out hd)
            have hma := uniA_put
            have hmp := uniM_put
            obtain ⟨V0, hV0⟩ : ∃ V : Nat → Value, V = fun s => ([u223, u224, u225, u226, u227, u228, u229, u230, u231] : List Value).getD (s - 223) undef := ⟨_, rfl⟩
            have hstart : PuwI w S' N' (specArr cr ch se fa k fc) xb mg u R ⟨bx, u.b, y0, y1, y2, pn⟩ (fun _ => False) V0 w7.drew :=
             have hS : Below w7.heap.size w7 w7.drew := ⟨rfl, rfl, rfl, Nat.le_refl _, fun _ _ => rfl⟩
             ⟨fun _ => HD7.out.below hS, fun q => q.elim, fun _ => HX7.out.under hS, fun _ _ _ q => q.elim, fun q => q.elim, fun q => q.elim, fun q => q.elim⟩
            have HSt := Lib.hid hstart
            clear hstart HX7 HD7
            refine wp_region_inv3 (fun L a' W => ∃ V : Nat → Value, a' = ⟨#[Value.agg #[Value.int IntKind.i64 cr, Value.int IntKind.i64 ch, Value.int IntKind.i64 se, Value.slice fa k fc], Value.slice ga nf gc, Value.slice (some { block := ag, off := off }) ncs hc, Value.pointer (some { block := xb, off := 0 }), undef, undef, u6, ptr m0, ptr M.cb, Value.bool true, ptr m1, ptr M'.cb, Value.bool true, Value.slice (some { block := mg, off := 0 }) 2 2, undef, u15, Value.iface 85 (ptr u.b), Value.int IntKind.i64 0, Value.slice ua us.length uc, Value.bool true, Value.slice va vs.length vc, Value.bool true, Value.slice aa na ac, undef, u24, undef, u26, undef, u28, Value.iface 77 (ptr ob), Value.slice wa ws.length wc, undef, Value.pointer (some { block := bx, off := 0 }), Value.string pn, undef, undef, undef, undef, Value.bool true, Value.bool false, Value.tuple #[ptr m0, ptr M.cb, Value.bool true], Value.tuple #[ptr m0, ptr M.cb, Value.bool true], ptr m0, ptr M.cb, Value.bool true, Value.tuple #[ptr m1, ptr M'.cb, Value.bool true], Value.tuple #[ptr m1, ptr M'.cb, Value.bool true], ptr m1, ptr M'.cb, Value.bool true, Value.bool true, Value.bool false, Value.bool false, Value.bool true, Value.bool false, Value.bool false, Value.bool false, Value.slice ga nf gc, Value.int IntKind.i64 ↑nf, Value.bool false, Value.bool false, Value.bool false, Value.slice (some { block := ag, off := off }) ncs hc, Value.int IntKind.i64 ↑ncs, Value.bool false, Value.bool false, undef, undef, undef, undef, ptr m0, ptr m1, Value.slice (some { block := mg, off := 0 }) 2 2, Value.slice ga nf gc, Value.int IntKind.i64 ↑nf, Value.int IntKind.i64 ↑i, Value.bool false, u77, u78, u79, u80, u81, u82, u83, u84, u85, u86, u87, u88, u89, u90, u91, u92, u93, u94, u95, u96, u97, u98, u99, u100, u101, u102, Value.tuple #[Value.iface 85 (ptr u.b), Value.int IntKind.i64 0], ptr m0, Value.iface 28 (ptr m0), ptr m1, Value.iface 28 (ptr m1), Value.slice (some { block := gu, off := 0 }) 2 2, Value.agg #[Value.int IntKind.i64 cr, Value.int IntKind.i64 ch, Value.int IntKind.i64 se, Value.slice fa k fc], Value.tuple #[Value.iface 85 (ptr u.b), Value.int IntKind.i64 0], Value.iface 85 (ptr u.b), Value.int IntKind.i64 0, Value.int IntKind.i64 0, Value.bool false, Value.tuple #[Value.slice ua us.length uc, Value.bool true], ptr m0, Value.iface 28 (ptr m0), Value.tuple #[Value.slice ua us.length uc, Value.bool true], Value.slice ua us.length uc, Value.bool true, Value.tuple #[Value.slice va vs.length vc, Value.bool true], ptr m1, Value.iface 28 (ptr m1), Value.tuple #[Value.slice va vs.length vc, Value.bool true], Value.slice va vs.length vc, Value.bool true, Value.tuple #[Value.slice aa na ac, Value.bool true], Value.iface 85 (ptr u.b), Value.tuple #[Value.slice aa na ac, Value.bool true], Value.slice aa na ac, Value.bool true, Value.bool true, Value.bool false, Value.slice ua us.length uc, Value.slice va vs.length vc, Value.slice (some { block := gr, off := 0 }) 2 2, Value.int IntKind.i64 2, Value.int IntKind.i64 ↑jl, Value.bool false, u140, u141, u142, u143, u144, u145, u146, u147, u148, u149, u150, u151, u152, u153, Value.slice aa na ac, Value.int IntKind.i64 ↑na, Value.int IntKind.i64 ↑q, Value.bool false, u158, u159, u160, u161, u162, u163, u164, u165, u166, u167, u168, u169, u170, Value.tuple #[Value.iface 77 (ptr ob), Value.int IntKind.i64 0], ptr m0, Value.iface 28 (ptr m0), Value.slice (some { block := g1, off := 0 }) 1 1, Value.pointer (some { block := xb, off := 0 }), Value.int IntKind.i64 cr, Value.pointer (some { block := xb, off := 1 }), Value.int IntKind.i64 ch, Value.pointer (some { block := xb, off := 2 }), Value.int IntKind.i64 se, Value.agg #[Value.int IntKind.i64 cr, Value.int IntKind.i64 ch, Value.int IntKind.i64 se, Value.slice none 0 0], Value.tuple #[Value.iface 77 (ptr ob), Value.int IntKind.i64 0], Value.iface 77 (ptr ob), Value.int IntKind.i64 0, Value.tuple #[Value.slice wa ws.length wc, Value.bool true], Value.iface 77 (ptr ob), Value.tuple #[Value.slice wa ws.length wc, Value.bool true], Value.slice wa ws.length wc, Value.bool true, Value.int IntKind.i64 0, Value.bool false, Value.bool false, Value.bool true, Value.bool false, Value.bool false, Value.bool false, Value.slice ua us.length uc, Value.slice wa ws.length wc, Value.bool true, Value.bool false, Value.bool false, Value.slice (some { block := ag, off := off }) ncs hc, Value.int IntKind.i64 ↑ncs, Value.int IntKind.i64 ↑j, Value.bool true, Value.pointer (some { block := ag, off := off + o }), Value.agg #[Value.int IntKind.i64 y0, Value.int IntKind.i64 y1, Value.int IntKind.i64 y2], Value.slice (some { block := w6.heap.size, off := 0 }) 4 4, Value.pointer (some { block := bx, off := 0 }), Value.int IntKind.i64 y0, Value.int IntKind.u64 (IntKind.u64.wrap y0), Value.int IntKind.u64 ↑k0, Value.pointer (some { block := w6.heap.size, off := k0 }), Value.string pn, Value.pointer (some { block := bx, off := 2 }), Value.int IntKind.i64 y2, Value.int IntKind.u64 (IntKind.u64.wrap y2), Value.int IntKind.u64 ↑k2, Value.bool false, u220, u221, u222, V 223, V 224, V 225, V 226, V 227, V 228, V 229, V 230, V 231, u232, undef, undef, undef, undef, undef, undef, undef, undef, undef, undef, undef, undef, undef, undef, undef, undef, undef, undef, undef, undef, undef, undef, undef, undef, undef, undef, undef, undef, undef], []⟩ ∧ PuwI w S' N' (specArr cr ch se fa k fc) xb mg u R ⟨bx, u.b, y0, y1, y2, pn⟩ L V W) (by kernel_rfl) (by kernel_rfl) ?_ ?_ ?_
            ·exact ⟨V0, by rw [hV0]; rfl, HSt.out⟩
            ·intro i' o ho L a' w' hI hnl hd K hK
             clear HSt
             rcases i' with _ | _ | _ | _ | _ | _ | _ | _ | _ | i'
             ·obtain rfl : o = ⟨_, _, _, _, _, _⟩ := (Option.some.inj ho).symm
              obtain ⟨V, rfl, hN⟩ := hI
              rw [if_pos (by rfl)]
              have HN := Lib.hid hN
              clear hN hd
              go_wp2_with fail
              exact hK.out _ _ ⟨addU V 223 (.iface 85 (ptr u.b)), rfl, HN.out.pure 0 _ rfl 223 rfl⟩
             ·obtain rfl : o = ⟨_, _, _, _, _, _⟩ := (Option.some.inj ho).symm
              obtain ⟨V, rfl, hN⟩ := hI
              rw [if_pos (by rfl)]
              have HN := Lib.hid hN
              clear hN hd
              go_wp2_with fail
              exact hK.out _ _ ⟨addU V 224 (.string pn), rfl, HN.out.pure 1 _ rfl 224 rfl⟩
             ·obtain rfl : o = ⟨_, _, _, _, _, _⟩ := (Option.some.inj ho).symm
              obtain ⟨V, rfl, hN⟩ := hI
              rw [if_pos (by rfl)]
              have HN := Lib.hid hN
              clear hN hd
              go_wp2_with fail
              exact hK.out _ _ ⟨addU V 225 (.pointer (some ⟨bx, 1, none⟩)), rfl, HN.out.pure 2 _ rfl 225 rfl⟩
             ·obtain rfl : o = ⟨_, _, _, _, _, _⟩ := (Option.some.inj ho).symm
              obtain ⟨V, rfl, hN⟩ := hI
              simp [Region.binds] at hd
              have d2 : L 2 := by simp only [hd]
              have e2 : V 225 = .pointer (some ⟨bx, 1, none⟩) := hN.pv 2 _ rfl d2
              rw [e2]
              have HE2 := Lib.hid e2
              clear e2
              have hc := (hN.bx (fun q => hnl (hN.d4 (hN.d8 q)))).cell (j := 1) rfl
              rw [if_pos (by rfl)]
              have HN := Lib.hid hN
              clear hN hd
              go_wp2_with fail
              exact hK.out _ _ ⟨addU V 226 (.int .i64 y1), by simp [addU, HE2.out], HN.out.pure 3 _ rfl 226 rfl⟩
             ·obtain rfl : o = ⟨_, _, _, _, _, _⟩ := (Option.some.inj ho).symm
              obtain ⟨V, rfl, hN⟩ := hI
              simp [Region.binds] at hd
              have d3 : L 3 := by simp only [hd]
              have e3 : V 226 = .int .i64 y1 := hN.pv 3 _ rfl d3
              rw [e3]
              have HE3 := Lib.hid e3
              clear e3
              have HD := Lib.hid (HDt.out w' (hN.told (fun q => hnl (hN.d8 q))).t.bel)
              rw [if_pos (by rfl)]
              have HN := Lib.hid hN
              clear hN hd
              go_wp2_with (go_at_call 7; refine HD.out.mono ?_; rintro e w8 ⟨⟨d, rfl, hd⟩, hb8⟩)
              exact hK.out _ _ ⟨addU V 227 (.string d), by simp [addU, HE3.out], HN.out.s4 hnl d3 hd hb8⟩
             ·obtain rfl : o = ⟨_, _, _, _, _, _⟩ := (Option.some.inj ho).symm
              obtain ⟨V, rfl, hN⟩ := hI
              simp [Region.binds] at hd
              have d0 : L 0 := by simp only [hd]
              have e0 : V 223 = .iface 85 (ptr u.b) := hN.pv 0 _ rfl d0
              rw [e0]
              have HE0 := Lib.hid e0
              clear e0
              rw [if_pos (by rfl)]
              have HN := Lib.hid hN
              clear hN hd
              go_wp2_with fail
              exact hK.out _ _ ⟨addU V 228 (.func (.method "Put") #[.iface 85 (ptr u.b)] #[]), by simp [addU, HE0.out], HN.out.pure 5 _ rfl 228 rfl⟩
             ·obtain rfl : o = ⟨_, _, _, _, _, _⟩ := (Option.some.inj ho).symm
              obtain ⟨V, rfl, hN⟩ := hI
              simp [Region.binds] at hd
              have d5 : L 5 := by simp only [hd]
              have e5 : V 228 = .func (.method "Put") #[.iface 85 (ptr u.b)] #[] := hN.pv 5 _ rfl d5
              rw [e5]
              have HE5 := Lib.hid e5
              clear e5
              rw [if_pos (by rfl)]
              have HN := Lib.hid hN
              clear hN hd
              go_wp2_with fail
              exact hK.out _ _ ⟨addU V 229 (.func (.method "Put") #[.iface 85 (ptr u.b)] #[]), by simp [addU, HE5.out], HN.out.pure 6 _ rfl 229 rfl⟩
             ·obtain rfl : o = ⟨_, _, _, _, _, _⟩ := (Option.some.inj ho).symm
              obtain ⟨V, rfl, hN⟩ := hI
              simp [Region.binds] at hd
              have d0 : L 0 := by simp only [hd]
              have e0 : V 223 = .iface 85 (ptr u.b) := hN.pv 0 _ rfl d0
              rw [e0]
              have HE0 := Lib.hid e0
              clear e0
              rw [if_pos (by rfl)]
              have HN := Lib.hid hN
              clear hN hd
              go_wp2_with fail
              exact hK.out _ _ ⟨addU V 230 (.iface 85 (ptr u.b)), by simp [addU, HE0.out], HN.out.pure 7 _ rfl 230 rfl⟩
             ·obtain rfl : o = ⟨_, _, _, _, _, _⟩ := (Option.some.inj ho).symm
              obtain ⟨V, rfl, hN⟩ := hI
              simp [Region.binds] at hd
              have d1 : L 1 := by simp only [hd]
              have e1 : V 224 = .string pn := hN.pv 1 _ rfl d1
              rw [e1]
              have HE1 := Lib.hid e1
              clear e1
              have d4 : L 4 := by simp only [hd]
              have d7 : L 7 := by simp only [hd]
              have e7 : V 230 = .iface 85 (ptr u.b) := hN.pv 7 _ rfl d7
              rw [e7]
              have HE7 := Lib.hid e7
              clear e7
              obtain ⟨d, ed, hds⟩ := hN.dat d4
              rw [ed]
              have HE4 := Lib.hid ed
              clear ed
              have HD := Lib.hid (HPt.out w' d (hN.told hnl) hds)
              rw [if_pos (by rfl)]
              have HN := Lib.hid hN
              clear hN hd
              go_wp2_with (go_at_call 222; refine HD.out.mono ?_; rintro e w8 ⟨⟨v, rfl⟩, hch⟩)
              exact hK.out _ _ ⟨addU V 231 v, by simp [addU, HE1.out, HE4.out, HE7.out], HN.out.s8 d4 hch⟩
             ·simp at ho
            ·rintro L a' w' ⟨V, rfl, hN⟩ hall
             obtain ⟨S2, N2, h1, h2, h3, h4⟩ := hN.fin (hall 8 (by decide))
             have HCh := Lib.hid (And.intro h1 (And.intro h2 (And.intro h3 h4)))
             clear hN hall h1 h2 h3 h4 HSt
             go_wp2_with fail
             obtain ⟨g, rfl⟩ : ∃ g, gk = g + 1 := ⟨gk - 1, by omega⟩
             go_roundg g
             case measure => omega
             case rel => exact ⟨j + 1, S2, N2, by go_num, by omega, Lib.hid (by have := HNb.out; have := HCh.out.2.2.1; push_cast; omega), Lib.hid ⟨HCh.out.1.trans HF.out.1, fun q hq hf => (HCh.out.2.2.2 q hq hf).trans (HF.out.2 q hq hf)⟩, Lib.hid HCh.out.2.1⟩
   case pos =>
    have hltz : (i : Int) < (nf : Int) := by omega
    obtain ⟨r, hr⟩ : ∃ r, fs[i]? = some r := ⟨_, List.getElem?_eq_getElem (by rw [HN.out.2.1]; exact hlt)⟩
    obtain ⟨hr4, hrb⟩ := HFs.out.2 r (List.mem_of_getElem? hr)
    match r, hr4, hr, hrb with
    | [x0, x1, x2, x3], _, hr, hrb =>
    have b0 := hrb x0 (by simp)
    have b1 := hrb x1 (by simp)
    have b2 := hrb x2 (by simp)
    have b3 := hrb x3 (by simp)
    obtain ⟨ag, off, hag, _, hac⟩ := (HFs.out.1.under HT.out.bel).at (k := i) (row := [.int .i64 x0, .int .i64 x1, .int .i64 x2, .int .i64 x3]) (by rw [List.getElem?_map, hr]; rfl)
    obtain ⟨o, ho⟩ : ∃ o, i * 4 = o := ⟨_, rfl⟩
    rw [ho] at hac
    have n0 := hac 0 _ rfl
    have n1 := hac 1 _ rfl
    have n2 := hac 2 _ rfl
    have n3 := hac 3 _ rfl
    simp only [Nat.add_zero] at n0
    have hx6 : BoxIs (wr.alloc (.cells #[.int .i64 x0, .int .i64 x1, .int .i64 x2, .int .i64 x3] 33)) wr.heap.size #[.int .i64 x0, .int .i64 x1, .int .i64 x2, .int .i64 x3] 33 := heap_alloc_new _ _
    have hb6 : Below wr.heap.size wr (wr.alloc (.cells #[.int .i64 x0, .int .i64 x1, .int .i64 x2, .int .i64 x3] 33)) := bAlloc (Below.refl _ _) _
    obtain ⟨bx, hbx⟩ : ∃ bx, wr.heap.size = bx := ⟨_, rfl⟩
    have hnb : ¬ S.all bx := fun q => by have := HT.out.j.lt q; omega
    have HT6 := Lib.hid (HT.out.below hb6)
    rw [hbx] at hx6
    have HX6 := Lib.hid (And.intro hx6 hnb)
    have HB := Lib.hid (And.intro b0 (And.intro b1 (And.intro b2 b3)))
    have hN6 : i < 15 := by omega
    subst hag
    clear hr hrb hr4 b0 b1 b2 b3 hac hx6 hnb hb6
    go_upto_region 11 with fail
    try rw [hbx]
    clear hbx n0 n1 n2 n3 ho
    generalize wr.alloc _ = w6 at *
    obtain ⟨U0, hU0, hV0⟩ := u64_nat x0
    obtain ⟨U2, hU2, hV2⟩ := u64_nat x2
    obtain ⟨U3, hU3, hV3⟩ := u64_nat x3
    obtain ⟨k0, hk0⟩ : ∃ k0, U0 % 3 = k0 := ⟨_, rfl⟩
    obtain ⟨k2, hk2⟩ : ∃ k2, U2 % 50 = k2 := ⟨_, rfl⟩
    obtain ⟨k3, hk3⟩ : ∃ k3, U3 % 2 = k3 := ⟨_, rfl⟩
    have hl0 : k0 < 3 := by omega
    have hl2 : k2 < 50 := by omega
    have hl3 : k3 < 2 := by omega
    have ht0 : (IntKind.u64.wrap x0).tmod 3 = (k0 : Int) := by
     rw [hU0, ← hk0]; rfl
    have ht2 : (IntKind.u64.wrap x2).tmod 50 = (k2 : Int) := by
     rw [hU2, ← hk2]; rfl
    have ht3 : (IntKind.u64.wrap x3).tmod 2 = (k3 : Int) := by
     rw [hU3, ← hk3]; rfl
    have hw2 : wrap64 (k2 : Int) = (k2 : Int) := w64_same k2 (by omega)
    obtain ⟨pn, hpn, hpm⟩ := pqr_at hl0
    obtain ⟨mb, hmb⟩ : ∃ mb, (S.M (bOf k3)).b = mb := ⟨_, rfl⟩
    have HK := Lib.hid (And.intro hl0 (And.intro hl3 (And.intro hmb hpn)))
    have HDt := Lib.hid (fun W (hb : Below w.heap.size w W) => dataOf_any x1 W (HG1.out.pow.under hb) HB.out.2.1)
    have HPt := Lib.hid (fun W d hT hd => filPut (X := specArr cr ch se fa k fc) (xb := xb) (mg := mg) HG1.out hN6 hl2 (bOf k3) hpm hmb W d hT hd)
    have hz0 : (k0 : Int) < 3 := by omega
    have hz3 : (k3 : Int) < 2 := by omega
    clear hU0 hU2 hU3 hV0 hV2 hV3 hk0 hk2 hk3 hl0 hl2 hl3 hpn hpm hmb
    obtain ⟨V0, hV0⟩ : ∃ V : Nat → Value, V = fun s => ([u79, u80, u81, u82, u83, u84, u85, u86, u87, u88, u89, u90, u91, u92, u93, u94, u95, u96, u97, u98, u99, u100, u101] : List Value).getD (s - 79) undef := ⟨_, rfl⟩
    have hstart : FilI w S i (specArr cr ch se fa k fc) xb ⟨x0, x1, x2, x3, k0, k2, k3, bx, mg, mb, pn⟩ (fun _ => False) V0 w6.drew :=
     have hS : Below w6.heap.size w6 w6.drew := ⟨rfl, rfl, rfl, Nat.le_refl _, fun _ _ => rfl⟩
     ⟨fun _ => HT6.out.below hS, fun q => q.elim, HX6.out.1.under hS, fun _ _ _ q => q.elim, fun q => q.elim, fun q => q.elim, fun q => q.elim, fun q => q.elim, fun q => q.elim⟩
    have HSt := Lib.hid hstart
    clear hstart
    refine wp_region_inv3 (fun L a' W => ∃ V : Nat → Value, a' = ⟨#[Value.agg #[Value.int IntKind.i64 cr, Value.int IntKind.i64 ch, Value.int IntKind.i64 se, Value.slice fa k fc], Value.slice (some { block := ag, off := off }) nf gc, Value.slice ha ncs hc, Value.pointer (some { block := xb, off := 0 }), undef, undef, Value.bool false, ptr m0, ptr M.cb, Value.bool true, ptr m1, ptr M'.cb, Value.bool true, Value.slice (some { block := mg, off := 0 }) 2 2, undef, Value.pointer (some { block := bx, off := 0 }), undef, undef, undef, undef, undef, undef, undef, undef, undef, undef, undef, undef, undef, undef, undef, undef, undef, undef, undef, undef, undef, undef, Value.bool true, Value.bool false, Value.tuple #[ptr m0, ptr M.cb, Value.bool true], Value.tuple #[ptr m0, ptr M.cb, Value.bool true], ptr m0, ptr M.cb, Value.bool true, Value.tuple #[ptr m1, ptr M'.cb, Value.bool true], Value.tuple #[ptr m1, ptr M'.cb, Value.bool true], ptr m1, ptr M'.cb, Value.bool true, Value.bool true, Value.bool false, Value.bool false, Value.bool true, Value.bool false, Value.bool false, Value.bool false, Value.slice (some { block := ag, off := off }) nf gc, Value.int IntKind.i64 ↑nf, Value.bool false, Value.bool false, Value.bool false, Value.slice ha ncs hc, Value.int IntKind.i64 ↑ncs, Value.bool false, Value.bool false, undef, undef, undef, undef, ptr m0, ptr m1, Value.slice (some { block := mg, off := 0 }) 2 2, Value.slice (some { block := ag, off := off }) nf gc, Value.int IntKind.i64 ↑nf, Value.int IntKind.i64 ↑i, Value.bool true, Value.pointer (some { block := ag, off := off + o }), Value.agg #[Value.int IntKind.i64 x0, Value.int IntKind.i64 x1, Value.int IntKind.i64 x2, Value.int IntKind.i64 x3], V 79, V 80, V 81, V 82, V 83, V 84, V 85, V 86, V 87, V 88, V 89, V 90, V 91, V 92, V 93, V 94, V 95, V 96, V 97, V 98, V 99, V 100, V 101, u102, undef, undef, undef, undef, undef, undef, undef, undef, undef, undef, undef, undef, undef, undef, undef, undef, undef, undef, undef, undef, undef, undef, undef, undef, undef, undef, undef, undef, undef, undef, undef, undef, undef, undef, undef, undef, undef, undef, undef, undef, undef, undef, undef, undef, undef, undef, undef, undef, undef, undef, undef, undef, undef, undef, undef, undef, undef, undef, undef, undef, undef, undef, undef, undef, undef, undef, undef, undef, undef, undef, undef, undef, undef, undef, undef, undef, undef, undef, undef, undef, undef, undef, undef, undef, undef, undef, undef, undef, undef, undef, undef, undef, undef, undef, undef, undef, undef, undef, undef, undef, undef, undef, undef, undef, undef, undef, undef, undef, undef, undef, undef, undef, undef, undef, undef, undef, undef, undef, undef, undef, undef, undef, undef, undef, undef, undef, undef, undef, undef, undef, undef, undef, undef, undef, undef, undef, undef, undef, undef, undef, undef, undef, undef, undef, undef, undef, undef, undef, undef, undef, undef, undef, undef, undef, undef, undef, undef, undef, undef], []⟩ ∧ FilI w S i (specArr cr ch se fa k fc) xb ⟨x0, x1, x2, x3, k0, k2, k3, bx, mg, mb, pn⟩ L V W) (by kernel_rfl) (by kernel_rfl) ?_ ?_ ?_
    ·exact ⟨V0, by rw [hV0]; rfl, HSt.out⟩
    ·intro i' o ho L a' w' hI hnl hd K hK
     clear HSt
     rcases i' with _ | _ | _ | _ | _ | _ | _ | _ | _ | _ | _ | _ | _ | _ | _ | _ | _ | _ | _ | _ | _ | _ | _ | i'
     ·obtain rfl : o = ⟨_, _, _, _, _, _⟩ := (Option.some.inj ho).symm
      obtain ⟨V, rfl, hN⟩ := hI
      rw [if_pos (by rfl)]
      have HN := Lib.hid hN
      clear hN hd
      go_wp2_with fail
      exact hK.out _ _ ⟨addU V 79 (.slice (some ⟨mg, 0, none⟩) 2 2), rfl, HN.out.pure 0 _ rfl 79 rfl (fun q => by cases q)⟩
     ·obtain rfl : o = ⟨_, _, _, _, _, _⟩ := (Option.some.inj ho).symm
      obtain ⟨V, rfl, hN⟩ := hI
      rw [if_pos (by rfl)]
      have HN := Lib.hid hN
      clear hN hd
      go_wp2_with fail
      exact hK.out _ _ ⟨addU V 80 (.pointer (some ⟨bx, 3, none⟩)), rfl, HN.out.pure 1 _ rfl 80 rfl (fun q => by cases q)⟩
     ·obtain rfl : o = ⟨_, _, _, _, _, _⟩ := (Option.some.inj ho).symm
      obtain ⟨V, rfl, hN⟩ := hI
      simp [Region.binds] at hd
      have d1 : L 1 := by simp only [hd]
      have e1 : V 80 = .pointer (some ⟨bx, 3, none⟩) := hN.pv 1 _ rfl d1
      rw [e1]
      have HE1 := Lib.hid e1
      clear e1
      have hc := hN.bx.cell (j := 3) rfl
      rw [if_pos (by rfl)]
      have HN := Lib.hid hN
      clear hN hd
      go_wp2_with fail
      exact hK.out _ _ ⟨addU V 81 (.int .i64 x3), by simp [addU, HE1.out], HN.out.pure 2 _ rfl 81 rfl (fun q => by cases q)⟩
     ·obtain rfl : o = ⟨_, _, _, _, _, _⟩ := (Option.some.inj ho).symm
      obtain ⟨V, rfl, hN⟩ := hI
      simp [Region.binds] at hd
      have d2 : L 2 := by simp only [hd]
      have e2 : V 81 = .int .i64 x3 := hN.pv 2 _ rfl d2
      rw [e2]
      have HE2 := Lib.hid e2
      clear e2
      rw [if_pos (by rfl)]
      have HN := Lib.hid hN
      clear hN hd
      go_wp2_with fail
      exact hK.out _ _ ⟨addU V 82 (.int .u64 (IntKind.u64.wrap x3)), by simp [addU, HE2.out], HN.out.pure 3 _ rfl 82 rfl (fun q => by cases q)⟩
     ·obtain rfl : o = ⟨_, _, _, _, _, _⟩ := (Option.some.inj ho).symm
      obtain ⟨V, rfl, hN⟩ := hI
      simp [Region.binds] at hd
      have d3 : L 3 := by simp only [hd]
      have e3 : V 82 = .int .u64 (IntKind.u64.wrap x3) := hN.pv 3 _ rfl d3
      rw [e3]
      have HE3 := Lib.hid e3
      clear e3
      rw [if_pos (by rfl)]
      have HN := Lib.hid hN
      clear hN hd
      go_wp2_with fail
      exact hK.out _ _ ⟨addU V 83 (.int .u64 k3), by simp [addU, HE3.out], HN.out.pure 4 _ rfl 83 rfl (fun q => by cases q)⟩
     ·obtain rfl : o = ⟨_, _, _, _, _, _⟩ := (Option.some.inj ho).symm
      obtain ⟨V, rfl, hN⟩ := hI
      simp [Region.binds] at hd
      have d0 : L 0 := by simp only [hd]
      have e0 : V 79 = .slice (some ⟨mg, 0, none⟩) 2 2 := hN.pv 0 _ rfl d0
      rw [e0]
      have HE0 := Lib.hid e0
      clear e0
      have d4 : L 4 := by simp only [hd]
      have e4 : V 83 = .int .u64 k3 := hN.pv 4 _ rfl d4
      rw [e4]
      have HE4 := Lib.hid e4
      clear e4
      rw [if_pos (by rfl)]
      have HN := Lib.hid hN
      clear hN hd
      go_wp2_with fail
      exact hK.out _ _ ⟨addU V 84 (.pointer (some ⟨mg, k3, none⟩)), by simp [addU, HE0.out, HE4.out], HN.out.pure 5 _ rfl 84 rfl (fun q => by cases q)⟩
     ·obtain rfl : o = ⟨_, _, _, _, _, _⟩ := (Option.some.inj ho).symm
      obtain ⟨V, rfl, hN⟩ := hI
      simp [Region.binds] at hd
      have d5 : L 5 := by simp only [hd]
      have e5 : V 84 = .pointer (some ⟨mg, k3, none⟩) := hN.pv 5 _ rfl d5
      rw [e5]
      have HE5 := Lib.hid e5
      clear e5
      have hc := hN.mem (i := k3) HK.out.2.1
      rw [HK.out.2.2.1] at hc
      rw [if_pos (by rfl)]
      have HN := Lib.hid hN
      clear hN hd
      go_wp2_with fail
      exact hK.out _ _ ⟨addU V 85 (ptr mb), by simp [addU, HE5.out], HN.out.pure 6 _ rfl 85 rfl (fun q => by cases q)⟩
     ·obtain rfl : o = ⟨_, _, _, _, _, _⟩ := (Option.some.inj ho).symm
      obtain ⟨V, rfl, hN⟩ := hI
      rw [if_pos (by rfl)]
      have HN := Lib.hid hN
      clear hN hd
      go_wp2_with fail
      exact hK.out _ _ ⟨addU V 86 (.slice (some ⟨w'.heap.size, 0, none⟩) 3 3), rfl, HN.out.s7 hnl⟩
     ·obtain rfl : o = ⟨_, _, _, _, _, _⟩ := (Option.some.inj ho).symm
      obtain ⟨V, rfl, hN⟩ := hI
      rw [if_pos (by rfl)]
      have HN := Lib.hid hN
      clear hN hd
      go_wp2_with fail
      exact hK.out _ _ ⟨addU V 87 (.pointer (some ⟨bx, 0, none⟩)), rfl, HN.out.pure 8 _ rfl 87 rfl (fun q => by cases q)⟩
     ·obtain rfl : o = ⟨_, _, _, _, _, _⟩ := (Option.some.inj ho).symm
      obtain ⟨V, rfl, hN⟩ := hI
      simp [Region.binds] at hd
      have d8 : L 8 := by simp only [hd]
      have e8 : V 87 = .pointer (some ⟨bx, 0, none⟩) := hN.pv 8 _ rfl d8
      rw [e8]
      have HE8 := Lib.hid e8
      clear e8
      have hc := hN.bx.cell (j := 0) rfl
      rw [if_pos (by rfl)]
      have HN := Lib.hid hN
      clear hN hd
      go_wp2_with fail
      exact hK.out _ _ ⟨addU V 88 (.int .i64 x0), by simp [addU, HE8.out], HN.out.pure 9 _ rfl 88 rfl (fun q => by cases q)⟩
     ·obtain rfl : o = ⟨_, _, _, _, _, _⟩ := (Option.some.inj ho).symm
      obtain ⟨V, rfl, hN⟩ := hI
      simp [Region.binds] at hd
      have d9 : L 9 := by simp only [hd]
      have e9 : V 88 = .int .i64 x0 := hN.pv 9 _ rfl d9
      rw [e9]
      have HE9 := Lib.hid e9
      clear e9
      rw [if_pos (by rfl)]
      have HN := Lib.hid hN
      clear hN hd
      go_wp2_with fail
      exact hK.out _ _ ⟨addU V 89 (.int .u64 (IntKind.u64.wrap x0)), by simp [addU, HE9.out], HN.out.pure 10 _ rfl 89 rfl (fun q => by cases q)⟩
     ·obtain rfl : o = ⟨_, _, _, _, _, _⟩ := (Option.some.inj ho).symm
      obtain ⟨V, rfl, hN⟩ := hI
      simp [Region.binds] at hd
      have d10 : L 10 := by simp only [hd]
      have e10 : V 89 = .int .u64 (IntKind.u64.wrap x0) := hN.pv 10 _ rfl d10
      rw [e10]
      have HE10 := Lib.hid e10
      clear e10
      rw [if_pos (by rfl)]
      have HN := Lib.hid hN
      clear hN hd
      go_wp2_with fail
      exact hK.out _ _ ⟨addU V 90 (.int .u64 k0), by simp [addU, HE10.out], HN.out.pure 11 _ rfl 90 rfl (fun q => by cases q)⟩
     ·obtain rfl : o = ⟨_, _, _, _, _, _⟩ := (Option.some.inj ho).symm
      obtain ⟨V, rfl, hN⟩ := hI
      simp [Region.binds] at hd
      have d7 : L 7 := by simp only [hd]
      have d11 : L 11 := by simp only [hd]
      have e11 : V 90 = .int .u64 k0 := hN.pv 11 _ rfl d11
      rw [e11]
      have HE11 := Lib.hid e11
      clear e11
      obtain ⟨g, eg, _⟩ := hN.row d7
      rw [eg]
      have HE7 := Lib.hid eg
      clear eg
      rw [if_pos (by rfl)]
      have HN := Lib.hid hN
      clear hN hd
      go_wp2_with fail
      exact hK.out _ _ ⟨addU V 91 (.pointer (some ⟨g, k0, none⟩)), by simp [addU, HE7.out, HE11.out], HN.out.s12 d7 HE7.out⟩
     ·obtain rfl : o = ⟨_, _, _, _, _, _⟩ := (Option.some.inj ho).symm
      obtain ⟨V, rfl, hN⟩ := hI
      simp [Region.binds] at hd
      have d12 : L 12 := by simp only [hd]
      obtain ⟨g, e86, eg, hg⟩ := hN.row (hN.d12 d12)
      have ep := eg d12
      rw [ep]
      have HE12 := Lib.hid ep
      have hc := (hg (fun q => hnl (hN.d22 q).2.1)).cell HK.out.2.2.2
      clear ep eg hg e86
      rw [if_pos (by rfl)]
      have HN := Lib.hid hN
      clear hN hd
      go_wp2_with fail
      exact hK.out _ _ ⟨addU V 92 (.string pn), by simp [addU, HE12.out], HN.out.pure 13 _ rfl 92 rfl (fun _ => d12)⟩
     ·obtain rfl : o = ⟨_, _, _, _, _, _⟩ := (Option.some.inj ho).symm
      obtain ⟨V, rfl, hN⟩ := hI
      rw [if_pos (by rfl)]
      have HN := Lib.hid hN
      clear hN hd
      go_wp2_with fail
      exact hK.out _ _ ⟨addU V 93 (.pointer (some ⟨bx, 1, none⟩)), rfl, HN.out.pure 14 _ rfl 93 rfl (fun q => by cases q)⟩
     ·obtain rfl : o = ⟨_, _, _, _, _, _⟩ := (Option.some.inj ho).symm
      obtain ⟨V, rfl, hN⟩ := hI
      simp [Region.binds] at hd
      have d14 : L 14 := by simp only [hd]
      have e14 : V 93 = .pointer (some ⟨bx, 1, none⟩) := hN.pv 14 _ rfl d14
      rw [e14]
      have HE14 := Lib.hid e14
      clear e14
      have hc := hN.bx.cell (j := 1) rfl
      rw [if_pos (by rfl)]
      have HN := Lib.hid hN
      clear hN hd
      go_wp2_with fail
      exact hK.out _ _ ⟨addU V 94 (.int .i64 x1), by simp [addU, HE14.out], HN.out.pure 15 _ rfl 94 rfl (fun q => by cases q)⟩
     ·obtain rfl : o = ⟨_, _, _, _, _, _⟩ := (Option.some.inj ho).symm
      obtain ⟨V, rfl, hN⟩ := hI
      simp [Region.binds] at hd
      have d15 : L 15 := by simp only [hd]
      have e15 : V 94 = .int .i64 x1 := hN.pv 15 _ rfl d15
      rw [e15]
      have HE15 := Lib.hid e15
      clear e15
      have HD := Lib.hid (HDt.out w' (hN.top (fun q => hnl (hN.d22 q).2.2)).bel)
      rw [if_pos (by rfl)]
      have HN := Lib.hid hN
      clear hN hd
      go_wp2_with (go_at_call 7; refine HD.out.mono ?_; rintro e w7 ⟨⟨d, rfl, hd⟩, hb7⟩)
      exact hK.out _ _ ⟨addU V 95 (.string d), by simp [addU, HE15.out], HN.out.s16 hnl hd hb7⟩
     ·obtain rfl : o = ⟨_, _, _, _, _, _⟩ := (Option.some.inj ho).symm
      obtain ⟨V, rfl, hN⟩ := hI
      rw [if_pos (by rfl)]
      have HN := Lib.hid hN
      clear hN hd
      go_wp2_with fail
      exact hK.out _ _ ⟨addU V 96 (.pointer (some ⟨bx, 2, none⟩)), rfl, HN.out.pure 17 _ rfl 96 rfl (fun q => by cases q)⟩
     ·obtain rfl : o = ⟨_, _, _, _, _, _⟩ := (Option.some.inj ho).symm
      obtain ⟨V, rfl, hN⟩ := hI
      simp [Region.binds] at hd
      have d17 : L 17 := by simp only [hd]
      have e17 : V 96 = .pointer (some ⟨bx, 2, none⟩) := hN.pv 17 _ rfl d17
      rw [e17]
      have HE17 := Lib.hid e17
      clear e17
      have hc := hN.bx.cell (j := 2) rfl
      rw [if_pos (by rfl)]
      have HN := Lib.hid hN
      clear hN hd
      go_wp2_with fail
      exact hK.out _ _ ⟨addU V 97 (.int .i64 x2), by simp [addU, HE17.out], HN.out.pure 18 _ rfl 97 rfl (fun q => by cases q)⟩
     ·obtain rfl : o = ⟨_, _, _, _, _, _⟩ := (Option.some.inj ho).symm
      obtain ⟨V, rfl, hN⟩ := hI
      simp [Region.binds] at hd
      have d18 : L 18 := by simp only [hd]
      have e18 : V 97 = .int .i64 x2 := hN.pv 18 _ rfl d18
      rw [e18]
      have HE18 := Lib.hid e18
      clear e18
      rw [if_pos (by rfl)]
      have HN := Lib.hid hN
      clear hN hd
      go_wp2_with fail
      exact hK.out _ _ ⟨addU V 98 (.int .u64 (IntKind.u64.wrap x2)), by simp [addU, HE18.out], HN.out.pure 19 _ rfl 98 rfl (fun q => by cases q)⟩
     ·obtain rfl : o = ⟨_, _, _, _, _, _⟩ := (Option.some.inj ho).symm
      obtain ⟨V, rfl, hN⟩ := hI
      simp [Region.binds] at hd
      have d19 : L 19 := by simp only [hd]
      have e19 : V 98 = .int .u64 (IntKind.u64.wrap x2) := hN.pv 19 _ rfl d19
      rw [e19]
      have HE19 := Lib.hid e19
      clear e19
      rw [if_pos (by rfl)]
      have HN := Lib.hid hN
      clear hN hd
      go_wp2_with fail
      exact hK.out _ _ ⟨addU V 99 (.int .u64 k2), by simp [addU, HE19.out], HN.out.pure 20 _ rfl 99 rfl (fun q => by cases q)⟩
     ·obtain rfl : o = ⟨_, _, _, _, _, _⟩ := (Option.some.inj ho).symm
      obtain ⟨V, rfl, hN⟩ := hI
      simp [Region.binds] at hd
      have d20 : L 20 := by simp only [hd]
      have e20 : V 99 = .int .u64 k2 := hN.pv 20 _ rfl d20
      rw [e20]
      have HE20 := Lib.hid e20
      clear e20
      rw [if_pos (by rfl)]
      have HN := Lib.hid hN
      clear hN hd
      go_wp2_with fail
      exact hK.out _ _ ⟨addU V 100 (.int .i64 k2), by simp [addU, HE20.out], HN.out.pure 21 _ rfl 100 rfl (fun q => by cases q)⟩
     ·obtain rfl : o = ⟨_, _, _, _, _, _⟩ := (Option.some.inj ho).symm
      obtain ⟨V, rfl, hN⟩ := hI
      simp [Region.binds] at hd
      have d6 : L 6 := by simp only [hd]
      have e6 : V 85 = ptr mb := hN.pv 6 _ rfl d6
      rw [e6]
      have HE6 := Lib.hid e6
      clear e6
      have d13 : L 13 := by simp only [hd]
      have e13 : V 92 = .string pn := hN.pv 13 _ rfl d13
      rw [e13]
      have HE13 := Lib.hid e13
      clear e13
      have d16 : L 16 := by simp only [hd]
      have d21 : L 21 := by simp only [hd]
      have e21 : V 100 = .int .i64 k2 := hN.pv 21 _ rfl d21
      rw [e21]
      have HE21 := Lib.hid e21
      clear e21
      obtain ⟨d, ed, hds⟩ := hN.dat d16
      rw [ed]
      have HE16 := Lib.hid ed
      clear ed
      have HD := Lib.hid (HPt.out w' d (hN.top hnl) hds)
      rw [if_pos (by rfl)]
      have HN := Lib.hid hN
      clear hN hd
      go_wp2_with (go_at_call 6; refine HD.out.mono ?_; rintro e w7 ⟨⟨v, rfl⟩, S', hs7⟩)
      exact hK.out _ _ ⟨addU V 101 v, by simp [addU, HE6.out, HE13.out, HE16.out, HE21.out], HN.out.s22 hnl (HN.out.d13 d13) d13 d16 hs7 HX6.out.2⟩
     ·simp at ho
    ·rintro L a' w' ⟨V, rfl, hN⟩ hall
     obtain ⟨S', q1, q2⟩ := hN.fin (hall 22 (by decide))
     have HF := Lib.hid (And.intro q1 q2)
     clear hN hall q1 q2 HSt
     go_wp2_with fail
     obtain ⟨g, rfl⟩ : ∃ g, gk = g + 1 := ⟨gk - 1, by omega⟩
     go_roundg g
     case measure => omega
     case rel => exact ⟨i + 1, S', by go_num, by omega, Lib.hid (by rw [HF.out.1]; exact HMb.out), Lib.hid (by push_cast; exact HF.out.2)⟩
end Go.Proofs.YtchfhojighopkaaGreatDoor
