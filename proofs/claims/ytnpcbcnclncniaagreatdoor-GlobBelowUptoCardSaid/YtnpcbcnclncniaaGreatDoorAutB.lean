/-
  The texts Aut10, Aut11, Aut12, Aut13, Aut14, AutE, Aut15, Aut16, in one.
-/
import Derived.Test.YtnpcbcnclncniaaGreatDoorAutA
import Derived.Laws.EntriesVeiled
namespace Go.Proofs.YtnpcbcnclncniaaGreatDoor
open Go.RowKit

/-- Whether a state takes a byte. -/
def passB (g : GNode) (c : UInt8) : Bool := if g.eps = [] then (match g.part with | some q => oneB q.2 c | none => if g.c = 0 then false else (g.c == -1 || g.c == (c.toNat : Int))) else false
theorem passB_hit {A : List GNode} {q : Nat} {g : GNode} (h : A[q]? = some g) (c : UInt8) (d : Nat) : hit (netG A) c q d ↔ passB g c = true ∧ d = g.tt := by
  unfold hit
  rw [netG_row h]
  unfold GNode.row passB
  by_cases he : g.eps = []
  · rw [if_pos he, if_pos he]
    cases hp : g.part with
    | some r =>
      simp only [List.mem_singleton]
      constructor
      · rintro ⟨a, rfl, t, ht, h1, h2⟩
        injection ht with ht
        subst ht
        exact ⟨h1, h2.symm⟩
      · rintro ⟨h1, rfl⟩
        exact ⟨_, rfl, _, rfl, h1, rfl⟩
    | none =>
      simp only []
      by_cases hc : g.c = 0
      · rw [if_pos hc, if_pos hc]
        simp
      · rw [if_neg hc, if_neg hc]
        simp only [List.mem_singleton]
        constructor
        · rintro ⟨a, rfl, t, ht, h1, h2⟩
          injection ht with ht
          subst ht
          exact ⟨h1, h2.symm⟩
        · rintro ⟨h1, rfl⟩
          exact ⟨_, rfl, _, rfl, h1, rfl⟩
  · rw [if_neg he, if_neg he]
    constructor
    · rintro ⟨a, ha, t, ht, _⟩
      obtain ⟨x, _, rfl⟩ := List.mem_map.1 ha
      cases ht
    · rintro ⟨h1, _⟩
      cases h1

variable {X : Nat → Prop}
theorem ptrEq0 (w : World) : (binOp .eql 60 (.pointer none) (.pointer none)).run Tryz.prog w = .ok (.bool true) w := by kernel_rfl
theorem ptrNe0 (w : World) : (binOp .neq 60 (.pointer none) (.pointer none)).run Tryz.prog w = .ok (.bool false) w := by kernel_rfl
theorem ptrEq1 (k : Nat) (w : World) : (binOp .eql 60 (.pointer (some ⟨k, 0, none⟩)) (.pointer none)).run Tryz.prog w = .ok (.bool false) w := by kernel_rfl
theorem ptrNe1 (k : Nat) (w : World) : (binOp .neq 60 (.pointer (some ⟨k, 0, none⟩)) (.pointer none)).run Tryz.prog w = .ok (.bool true) w := by kernel_rfl

set_option maxHeartbeats 4000000 in
set_option maxRecDepth 100000 in
theorem gpasses_any {w0 : World} {b q : Nat} {A : List GNode} {rows : List (List Value)} {g : GNode} (w : World) (h : GAt X w0 w b A rows) (hq : A[q]? = some g) (c : UInt8) (hc : c ≠ 0) (hA : A.length ≤ 100000000) :
    Calls Tryz.prog 30 #[.pointer (some ⟨b, 0, none⟩), .int .i64 q, .int .u8 c.toNat] w fun e w' => e = .returned (.bool (passB g c)) ∧ Below w.heap.size w w' := by
  obtain ⟨gb, cap, ea, ec, pp, c0, n0, n1, n2, n3, hE, hP⟩ := h.cells hq
  have hqA := (List.getElem?_eq_some_iff.1 hq).1
  have hqI : (q : Int) < (A.length : Int) := by omega
  have hq0 : (0 : Int) ≤ (q : Int) := by omega
  have hw0 := h.below
  obtain ⟨eps, part, cc, tt⟩ := g
  dsimp only at *
  obtain ⟨N, hN⟩ : ∃ N, A.length = N := ⟨_, rfl⟩
  rw [hN] at c0 hqI hA
  clear h hN hqA hq
  obtain ⟨L, hL⟩ : ∃ L, eps.length = L := ⟨_, rfl⟩
  rw [hL] at n0
  have HL := Lib.hid hL
  have hE2 := hE.2
  have HW := Lib.hid hw0
  have q0 := ptrEq0
  have q1 := ptrNe0
  have q2 := ptrEq1
  have q3 := ptrNe1
  have hb1 := bAlloc (Below.refl w.heap.size w) (.cells #[.slice ea L ec, .pointer pp, .int .i64 cc, .int .i64 tt] 62)
  clear hL hE hE2 hw0
  by_cases hL0 : L = 0
  case neg =>
    have hpos : (0 : Int) < (L : Int) := by omega
    have hpos2 : decide (0 < L) = true := decide_eq_true (by omega)
    have hR : Hid (passB ⟨eps, part, cc, tt⟩ c = false) := Lib.hid (by
      unfold passB
      rw [if_neg (fun h => hL0 (HL.out.symm.trans (congrArg List.length h)))])
    rw [hR.out]
    clear hR hP hL0 HL
    go_enter Tryz.func30, Tryz.ntmps30
    go_wp2_with fail
    go_ret
    exact ⟨rfl, hb1⟩
  subst hL0
  have he : eps = [] := List.length_eq_zero_iff.1 HL.out
  subst he
  have HB := Lib.hid (BoxIs.new w #[.slice ea 0 ec, .pointer pp, .int .i64 cc, .int .i64 tt] 62)
  have hor : ((tt : Int) == 0) = false ∨ (((tt : Int) == 0) = true ∧ (cc == 0) = false) ∨ (((tt : Int) == 0) = true ∧ (cc == 0) = true) := by
    cases h1 : ((tt : Int) == 0) <;> cases h2 : (cc == 0) <;> simp
  have h256 := c.toNat_lt
  have hwr : IntKind.i64.wrap (c.toNat : Int) = (c.toNat : Int) := IntWalk.i64_in _ (by omega)
  cases part with
  | some pr =>
    obtain ⟨n', p⟩ := pr
    obtain ⟨k, rfl, hbox, hrg, hrl⟩ := hP
    have HPx := Lib.hid (hbox.under hb1)
    have HIn := Lib.hid (fun W (hb : Below w.heap.size w W) => inSet_any p (c.toNat : Int) W ((hrg.under HW.out).under hb) hrl)
    have hR : Hid (passB ⟨[], some ⟨n', p⟩, cc, tt⟩ c = (c != 47 && (p.kind == 2 || (inRg p.rg.xs c.toNat != p.neg)))) := Lib.hid rfl
    have HK : Hid (k < w.heap.size) := Lib.hid hbox.lt
    rw [hR.out]
    clear hR hbox hrg hrl HL HW hc
    generalize (inRg p.rg.xs c.toNat != p.neg) = ins at *
    rcases hor with t1 | ⟨t1, t2⟩ | ⟨t1, t2⟩
    all_goals
      go_enter Tryz.func30, Tryz.ntmps30
      go_upto_region 2 with fail
      clear c0 n0 n1 n2 n3
      generalize hbx : w.heap.size = bx at *
      generalize hw1 : w.alloc _ = w1 at *
      have y0 := HB.out.cell (j := 0) rfl
      have y1 := HB.out.cell (j := 1) rfl
      have y2 := HB.out.cell (j := 2) rfl
      have y3 := HB.out.cell (j := 3) rfl
      have z0 := HPx.out.cell (j := 0) rfl
      have z1 := HPx.out.cell (j := 1) rfl
      have z2 := HPx.out.cell (j := 2) rfl
      have z3 := HPx.out.cell (j := 3) rfl
      have z4 := HPx.out.cell (j := 4) rfl
      by_cases h47 : c = 47
      · subst h47
        go_wp2_with fail
        go_ret
        exact ⟨rfl, hb1⟩
      · have e47 : ((c.toNat : Int) == 47) = false := by
          have : c.toNat ≠ 47 := fun e => h47 (UInt8.toNat_inj.1 (by simpa using e))
          simp only [beq_eq_false_iff_ne, ne_eq]
          omega
        have e47n : ((c.toNat : Int) != 47) = true := by rw [bne, e47]; rfl
        have HCB : Hid ((c != 47) = true) := Lib.hid (by simp [h47])
        cases hk2 : (p.kind == 2) with
        | true =>
          have HK2 := Lib.hid hk2
          go_wp2_with fail
          go_ret
          exact ⟨by first | (rw [HCB.out, HK2.out]; rfl) | (rw [HCB.out]; rfl), hb1⟩
        | false =>
          have HK2 := Lib.hid hk2
          go_wp2_with (go_at_call 65; refine (HIn.out _ hb1).mono ?_; rintro e w5 ⟨rfl, hb5⟩; clear y0 y1 y2 y3 z0 z1 z2 z3 z4)
          go_ret
          exact ⟨by first | (rw [HCB.out, HK2.out]; rfl) | (rw [HCB.out]; rfl), by first | exact bTrans (a := w) (by rw [hbx]; exact hb1) hb5 | (rw [← hbx]; exact bTrans (a := w) (by rw [hbx]; exact hb1) hb5)⟩
  | none =>
    have hp0 : pp = none := hP
    subst hp0
    have hR : Hid (passB ⟨[], none, cc, tt⟩ c = if cc = 0 then false else (cc == -1 || cc == (c.toNat : Int))) := Lib.hid rfl
    rw [hR.out]
    have hc0 : ¬ ((0 : Int) = (c.toNat : Int)) := fun e => hc (UInt8.toNat_inj.1 (by
      have : c.toNat = 0 := by omega
      simpa using this))
    clear hR HL HW hP
    by_cases hcc : cc = 0
    · subst hcc
      rw [if_pos rfl]
      have z1 : ((0 : Int) == (c.toNat : Int)) = false := by
        rw [beq_eq_false_iff_ne]
        exact hc0
      rcases hor with t1 | ⟨t1, t2⟩ | ⟨t1, t2⟩
      all_goals
        go_enter Tryz.func30, Tryz.ntmps30
        go_upto_region 2 with fail
        clear c0 n0 n1 n2 n3
        generalize hbx : w.heap.size = bx at *
        generalize hw1 : w.alloc _ = w1 at *
        have y0 := HB.out.cell (j := 0) rfl
        have y1 := HB.out.cell (j := 1) rfl
        have y2 := HB.out.cell (j := 2) rfl
        have y3 := HB.out.cell (j := 3) rfl
        go_wp2_with fail
        go_ret
        exact ⟨rfl, by first | exact hb1 | (rw [hbx]; exact hb1)⟩
    · rw [if_neg hcc]
      have hcn : (cc == 0) = false := by simp [hcc]
      rcases hor with t1 | ⟨t1, t2⟩ | ⟨t1, t2⟩
      · cases h5 : (cc == -1) <;> cases h6 : (cc == (c.toNat : Int))
        all_goals
          have H5 := Lib.hid h5
          have H6 := Lib.hid h6
          go_enter Tryz.func30, Tryz.ntmps30
          go_upto_region 2 with fail
          clear c0 n0 n1 n2 n3
          generalize hbx : w.heap.size = bx at *
          generalize hw1 : w.alloc _ = w1 at *
          have y0 := HB.out.cell (j := 0) rfl
          have y1 := HB.out.cell (j := 1) rfl
          have y2 := HB.out.cell (j := 2) rfl
          have y3 := HB.out.cell (j := 3) rfl
          go_wp2_with fail
          go_ret
          exact ⟨rfl, by first | exact hb1 | (rw [hbx]; exact hb1)⟩
      · cases h5 : (cc == -1) <;> cases h6 : (cc == (c.toNat : Int))
        all_goals
          have H5 := Lib.hid h5
          have H6 := Lib.hid h6
          go_enter Tryz.func30, Tryz.ntmps30
          go_upto_region 2 with fail
          clear c0 n0 n1 n2 n3
          generalize hbx : w.heap.size = bx at *
          generalize hw1 : w.alloc _ = w1 at *
          have y0 := HB.out.cell (j := 0) rfl
          have y1 := HB.out.cell (j := 1) rfl
          have y2 := HB.out.cell (j := 2) rfl
          have y3 := HB.out.cell (j := 3) rfl
          go_wp2_with fail
          go_ret
          exact ⟨rfl, by first | exact hb1 | (rw [hbx]; exact hb1)⟩
      · rw [hcn] at t2
        cases t2
end Go.Proofs.YtnpcbcnclncniaaGreatDoor
namespace Go.Proofs.YtnpcbcnclncniaaGreatDoor
open Go.RowKit

variable {X : Nat → Prop}
/-- What gAuto.close leaves. -/
def ClosR (A : NetA) (hN : A.length ≤ 9223372036854775808) (S : Nat → Bool) (m n : Nat) (w : World) (e : Ending) (w' : World) : Prop :=
  e = .returned (.map (some m)) ∧ w.grownBy w' (some m) ∧ ∃ (T : Nat → Bool) (n' : Nat), SetAt w' (keyN A.length hN) 4 m n' T ∧ n' ≤ n + A.length ∧ ∀ q, T q = true ↔ fclos A (fun p => S p = true) q
/-- A state's ways, as they are read. -/
theorem GAt.eps {w0 w : World} {b : Nat} {G : List GNode} {rows : List (List Value)} (h : GAt X w0 w b G rows) {s : Nat} (hs : s < (netG G).length) : ∃ (g : GNode) (gb cap : Nat) (ea : Option Addr) (ec : Nat), G[s]? = some g ∧ w.cell? ⟨b, 0, none⟩ = some (.slice (some ⟨gb, 0, none⟩) (netG G).length cap) ∧
    w.cell? ⟨gb, s * 4, none⟩ = some (.slice ea g.eps.length ec) ∧ ∀ (j d : Nat), g.eps[j]? = some d → ∃ k, ea = some ⟨k, 0, none⟩ ∧ w.cell? ⟨k, j, none⟩ = some (.int .i64 d) := by
  rw [netG_len] at hs ⊢
  obtain ⟨g, hg⟩ : ∃ g, G[s]? = some g := ⟨_, List.getElem?_eq_getElem hs⟩
  obtain ⟨gb, cap, ea, ec, pp, c0, n0, _, _, _, hE, _⟩ := h.cells hg
  refine ⟨g, gb, cap, ea, ec, hg, c0, n0, fun j d hj => ?_⟩
  cases ea with
  | none =>
    rcases hE.2 with ⟨_, h0⟩ | ⟨k, c, cur, hv, _⟩
    · have := (List.getElem?_eq_some_iff.1 hj).1
      omega
    · cases hv
  | some x =>
    obtain ⟨cur, h1, _, _⟩ := own_ty hE rfl
    refine ⟨x.block, by rw [← h1], ?_⟩
    rw [h1] at hE
    exact (own_cellN hE (q := j) (v := .int .i64 d) (by rw [List.getElem?_map, hj]; rfl)).1
theorem eps_row {G : List GNode} {s j d : Nat} {g : GNode} (h : G[s]? = some g) (hj : g.eps[j]? = some d) : (rowN (netG G) s)[j]? = some ⟨d, none⟩ := by
  rw [netG_row h]
  unfold GNode.row
  have hne : ¬ g.eps = [] := fun e => by rw [e] at hj; cases hj
  rw [if_neg hne, List.getElem?_map, hj]
  rfl
/-- When all ways are followed, what is left takes bytes. -/
theorem Clin.gdone {G : List GNode} {hN : (netG G).length ≤ 9223372036854775808} {S : Nat → Bool} {m n s : Nat} {w wx : World} {ga : Option Addr} {len cap c : Nat} {g : GNode} (hg : G[s]? = some g) (h : Clin (netG G) hN S m n s g.eps.length w wx ga len cap c) : Clsg (netG G) hN S m n w wx ga len cap c := by
  obtain ⟨l, T, n', h1, h2, h3, h4, h5, h6, h7⟩ := h
  refine ⟨l, T, n', h1, h2, h3, h4.finish id (fun y hy => ?_), h6, h7⟩
  obtain ⟨a, ha, ht, rfl⟩ := hy
  rw [netG_row hg] at h5 ha
  unfold GNode.row at h5 ha
  by_cases he : g.eps = []
  · rw [if_pos he] at ha
    cases hp : g.part with
    | some q =>
      rw [hp] at ha
      rw [List.mem_singleton.1 ha] at ht
      cases ht
    | none =>
      rw [hp] at ha
      simp only [] at ha
      split at ha
      · cases ha
      · rw [List.mem_singleton.1 ha] at ht
        cases ht
  · rw [if_neg he] at ha h5
    exact h5 a (by rw [List.take_of_length_le (by simp)]; exact ha) ht

set_option maxHeartbeats 4000000 in
set_option maxRecDepth 100000 in
theorem close_any {w0 : World} {b m n : Nat} {G : List GNode} {rows : List (List Value)} {S : Nat → Bool} (hN : (netG G).length ≤ 9223372036854775808) (w : World) (h : GAt X w0 w b G rows) (hw : WF (netG G)) (hA : (netG G).length ≤ 100000000) (hE : ∀ g ∈ G, g.eps.length ≤ 100000000) (hS : SetAt w (keyN (netG G).length hN) 4 m n S) (hn : n ≤ 500000000) :
    Calls Tryz.prog 29 #[.pointer (some ⟨b, 0, none⟩), .map (some m)] w (ClosR (netG G) hN S m n w) := by
  have HNet := Lib.hid (fun s hs => h.eps (s := s) hs)
  have HStay := Lib.hid (fun wx (hg : w.grownBy wx (some m)) => (by obtain ⟨es, cl, hm⟩ := hS.map; exact CellsStay.grown hg hm : CellsStay w wx))
  have HRow := Lib.hid (fun s g (hg : G[s]? = some g) => hE g (List.mem_of_getElem? hg))
  have HEr := Lib.hid (fun s j d g (hg : G[s]? = some g) (hj : g.eps[j]? = some d) => eps_row hg hj)
  have HGd := Lib.hid (fun s g (hg : G[s]? = some g) wx ga len cap c hcl => Clin.gdone (hN := hN) (S := S) (m := m) (n := n) (w := w) (wx := wx) (ga := ga) (len := len) (cap := cap) (c := c) (s := s) hg hcl)
  have HW := Lib.hid hw
  have HS := Lib.hid hS
  clear h hw hS hE
  generalize netG G = A at *
  go_enter Tryz.func29, Tryz.ntmps29
  go_wp2_with (at_range; refine wp_rangeN rfl (.tmp 10) rfl rfl HS.out ?_; intro w1 c1 hR1 hg1 hc1)
  go_frame
  have HI : Hid (Gath A hN S m w.heap.size n w w1 none 0 0 c1) := Lib.hid ⟨[], S, StkN.nil _ _, hR1, hg1, fun q => by
    cases hq : S q <;> simp⟩
  clear hR1 hg1
  go_loopg [5] n (fun g s4 wx => ∃ (ga : Option Addr) (len cap c : Nat), s4 = .slice ga len cap ∧ c ≤ g ∧ len + c ≤ n ∧ Hid (Gath A hN S m w.heap.size n w wx ga len cap c))
  case atStart => exact ⟨none, 0, 0, c1, rfl, hc1, by omega, HI⟩
  case round =>
    clear HI
    obtain ⟨ga, len, cap, c, rfl, hcg, hlen, HG⟩ := hrel
    obtain ⟨l, left, h1, h2, h3, h4⟩ := HG.out
    have H1 := Lib.hid h1
    have H3 := Lib.hid h3
    have H4 := Lib.hid h4
    have hz : w.heap.size ≤ wr.heap.size := h3.size
    clear h1 h3 h4 HG
    go_wp2_with (at_next; refine wp_nextN rfl (.tmp 11) rfl rfl h2 ?_ ?_)
    · intro hl
      have HD := Lib.hid (Gath.done H1.out h2 H3.out H4.out hl)
      clear h2 hl H1 H3 H4
      go_wp2_with fail
      go_loopg [5] (A.length + len) (fun g s4 wx => ∃ (ga : Option Addr) (len cap : Nat), s4 = .slice ga len cap ∧ g ≤ 700000000 ∧ Hid (Clsg A hN S m n w wx ga len cap g))
      case atStart => exact ⟨ga, len, cap, rfl, by omega, HD⟩
      case round =>
        clear HD hcg hlen hz
        obtain ⟨ga, len, cap, rfl, hgb, HC⟩ := hrel
        rcases Nat.eq_zero_or_pos len with rfl | hpos
        · obtain ⟨hg, T, n', hT⟩ := HC.out.none
          have HT := Lib.hid (And.intro hg hT)
          clear hg hT HC
          go_wp2_with fail
          go_ret
          exact ⟨rfl, HT.out.1, _, _, HT.out.2⟩
        · obtain ⟨g, rfl⟩ : ∃ g, gk = g + 1 := ⟨gk - 1, by
            obtain ⟨l, T, n', _, _, _, _, _, h6⟩ := HC.out
            omega⟩
          obtain ⟨k, hk⟩ : ∃ k, len = k + 1 := ⟨len - 1, by omega⟩
          obtain ⟨g', s, rfl, hcell, hcap, hcm, hs, HCl⟩ := (hk ▸ HC.out : Clsg A hN S m n w wr ga (k + 1) cap (g + 1)).pop
          have hposI : (0 : Int) < (len : Int) := by omega
          have hdec : decide (0 < len) = true := decide_eq_true hpos
          have hkI : (len : Int) - 1 = (k : Int) := by omega
          have hkl : (k : Int) < (len : Int) := by omega
          have hkc : (k : Int) ≤ (cap : Int) := by omega
          have hk0 : (0 : Int) ≤ (k : Int) := by omega
          have hlm : len ≤ maxLen := by omega
          have HClin := Lib.hid HCl
          have hgr : w.grownBy wr (some m) := by
            obtain ⟨l, T, n', _, _, h3, _⟩ := HC.out
            exact h3
          obtain ⟨gg, gb, cap2, ea, ec, hgg, cb0, cgb0, harr⟩ := HNet.out s hs
          have cb := (HStay.out wr hgr).cell cb0
          have cgb := (HStay.out wr hgr).cell cgb0
          have HArr := Lib.hid harr
          have HGg := Lib.hid hgg
          have HRl := Lib.hid (HRow.out s gg hgg)
          have hsI : (s : Int) < (A.length : Int) := by omega
          have hkb : (k : Int) ≤ 9223372036854775806 := by
            have : maxLen = 9223372036854775807 := rfl
            omega
          have HKl := Lib.hid hk
          clear hgr harr HCl HC hk hpos cb0 cgb0 hgg
          change wr.cell? ⟨g', k, none⟩ = some (.int .i64 s) at hcell
          generalize hRL : gg.eps.length = RL at *
          have HRL := Lib.hid hRL
          clear hRL
          go_wp2_with fail
          go_loopg [5, 43] RL (fun gi s4 s41 wx => ∃ (j : Nat) (ga : Option Addr) (len cap : Nat), j + gi = RL ∧ s41 = .int .i64 j ∧ s4 = .slice ga len cap ∧ Hid (Clin A hN S m n s j w wx ga len cap g))
          case atStart => exact ⟨0, _, k, cap, by omega, rfl, by go_num, HClin⟩
          case round =>
            clear HClin hcell hcap hcm hposI hkI hkl hkc hk0 hlm hkb cb cgb
            obtain ⟨j, ga, len, cap, hj, rfl, rfl, HI⟩ := hrel
            by_cases hlt : j < RL
            · obtain ⟨gi, rfl⟩ : ∃ gi, gk = gi + 1 := ⟨gk - 1, by omega⟩
              have hltI : (j : Int) < (RL : Int) := by omega
              have hj0 : (0 : Int) ≤ (j : Int) := by omega
              have hRl := HRl.out
              obtain ⟨dd, hd⟩ : ∃ d, gg.eps[j]? = some d := ⟨_, List.getElem?_eq_getElem (by rw [HRL.out]; exact hlt)⟩
              have hx := HEr.out s j dd gg HGg.out hd
              obtain ⟨l, T, n', h1, h2, h3, h4, h5, h6, h7⟩ := HI.out
              obtain ⟨ek, hea, ce0⟩ := HArr.out j dd hd
              have ce := (HStay.out wr h3).cell ce0
              subst hea
              have HX := Lib.hid hx
              have hzz : w.heap.size ≤ wr.heap.size := h3.size
              have hdst : dd < A.length := HW.out s ⟨dd, none⟩ (List.mem_of_getElem? hx)
              have HC := Lib.hid (And.intro h1 (And.intro h2 (And.intro h3 (And.intro h4 (And.intro h5 (And.intro h6 h7))))))
              have hlook := lookN h2 hdst
              clear HI h1 h3 h4 h5 h6 h7 hx hd ce0
              cases hT : T dd with
              | true =>
                rw [hT] at hlook
                have HNx : Hid (Clin A hN S m n s (j + 1) w wr ga len cap g) := Lib.hid (Clin.skip HC.out.1 HC.out.2.1 HC.out.2.2.1 HC.out.2.2.2.1 HC.out.2.2.2.2.1 HC.out.2.2.2.2.2.1 HC.out.2.2.2.2.2.2 HX.out (fun _ => hT))
                clear hT h2 HC
                go_wp2_with fail
                go_roundg gi
                case measure => omega
                case rel => exact ⟨j + 1, ga, len, cap, by omega, by go_num, rfl, HNx⟩
              | false =>
                rw [hT] at hlook
                obtain ⟨w5, hrun, h8, h9⟩ := storeN h2 hdst (by have := HC.out.2.2.2.2.2.1; omega)
                have h0 := HC.out.1.keep h9 h2.notCells
                have HO := Lib.hid h0.2
                have hz5 : w.heap.size ≤ w5.heap.size := Nat.le_trans hzz h9.size
                have hl9 : len ≤ 1000000000 := by
                  have h7 := HC.out.2.2.2.2.2.2
                  omega
                have HP := Lib.hid (fun g' cap' w6 (ho : w6.ownsRow w.heap.size 3 1 (.slice (some ⟨g', 0, none⟩) (len + 1) cap') (len + 1) (l.map vN ++ [vN dd])) (hg : w5.grownBy w6 (Value.slice ga len cap).ownBlock) => Clin.push HW.out HC.out.1 HC.out.2.2.1 HC.out.2.2.2.1 HC.out.2.2.2.2.1 HC.out.2.2.2.2.2.1 HC.out.2.2.2.2.2.2 HX.out rfl hT h8 h9 h0 ho hg)
                clear hT h2 HC h8 h9 h0
                go_wp2_with (at_builtin; refine wp_appQ hz5 HO.out hl9 rfl (.tmp 53) (.tmp 55) rfl rfl rfl ?_; intro g' cap' w6 hown6 hg6; have HN6 := Lib.hid (HP.out g' cap' w6 hown6 hg6); clear hown6 hg6)
                go_roundg gi
                case measure => omega
                case rel => exact ⟨j + 1, _, len + 1, cap', by omega, by go_num, rfl, HN6⟩
            · have HD : Hid (Clsg A hN S m n w wr ga len cap g) := Lib.hid (HGd.out s gg HGg.out wr ga len cap g (by
                have hjj : j = RL := by omega
                rw [hjj] at HI
                rw [HRL.out]
                exact HI.out))
              have hltF : ¬ (j : Int) < (RL : Int) := by omega
              clear HI
              go_wp2_with fail
              go_roundg g
              case measure => omega
              case rel => exact ⟨ga, len, cap, rfl, by omega, HD⟩
    · intro q w2 c2 hlq hqN hR2 hc2 hg2 hen
      have HR2 := Lib.hid hR2
      have HG2 := Lib.hid hg2
      have HQ := Lib.hid (And.intro hlq (h2.sub hlq))
      have H1' := Lib.hid (H1.out.keep hg2 h2.notCells)
      have HO := Lib.hid H1'.out.2
      have hz2 : w.heap.size ≤ w2.heap.size := Nat.le_trans hz hg2.size
      have hl9 : len ≤ 1000000000 := by omega
      obtain ⟨g, rfl⟩ : ∃ g, gk = g + 1 := ⟨gk - 1, by omega⟩
      clear hlq hR2 hg2 h2
      go_wp2_with (at_builtin; refine wp_appQ hz2 HO.out hl9 rfl (.tmp 16) (.tmp 18) rfl rfl rfl ?_; intro g' cap' w3 hown3 hg3; have HN3 := Lib.hid (Gath.more H1.out H3.out H4.out (Nat.le_refl _) HQ.out.1 HQ.out.2 HR2.out HG2.out H1'.out hown3 hg3); clear hown3 hg3)
      go_roundg g
      case measure => omega
      case rel => exact ⟨_, len + 1, cap', c2, by go_num, by omega, by omega, HN3⟩
end Go.Proofs.YtnpcbcnclncniaaGreatDoor
namespace Go.Proofs.YtnpcbcnclncniaaGreatDoor
open Go.RowKit

theorem rowPlaceR : (71 : TypeId) < Tryz.prog.types.size := of_decide_eq_true (by kernel_rfl)
theorem widePlaceR : (match Tryz.prog.underlying 71 with | some (.array _ _) | some (.struct _) => true | _ => false) = true := by rw [Tryz.underlying71]
theorem deepPlaceR : Tryz.prog.keyTypeAt 2 71 = true := by kernel_rfl
set_option maxRecDepth 100000 in
theorem keyedPlaceR : Maps.Keyed Tryz.prog 71 := Maps.Keyed.of_law (deep_law_laid laidOutK (m := 2) (by omega) rowPlaceR deepPlaceR widePlaceR)
theorem cellsPlaceR : Tryz.prog.cellsOf 71 = 2 := by kernel_rfl
theorem keyTPlaceR : Tryz.prog.keyType 71 = true := by kernel_rfl
theorem keyOf_placeR {a b : Int} (wa : (Lit.int .i64 a).wf = true) (wb : (Lit.int .i64 b).wf = true) : keyOf Tryz.prog 71 (.agg #[.int .i64 a, .int .i64 b]) = some (.string (keyBytes [.int .i64 a, .int .i64 b])) := by
  obtain ⟨m, hm⟩ := sizeTypes
  unfold keyOf
  simp only [Tryz.underlying71]
  rw [if_pos (by simp [keyTPlaceR, Value.formed, Tryz.underlying71, cellsPlaceR]), hm]
  unfold Program.keyLits
  simp only [Tryz.underlying71, Value.cells]
  rw [if_pos (by rw [cellsPlaceR]; exact ⟨rfl, by simp⟩)]
  simp [List.mapM_cons, List.mapM_nil, Program.keyLits, Tryz.underlying3, cellsInt, wa, wb]
/-- Places. -/
noncomputable def keyPR (N : Nat) (h : N ≤ 9223372036854775808) : KeyEnc Tryz.prog 71 (Nat × Nat) where
  val x := .agg #[.int .i64 x.1, .int .i64 x.2]
  enc x := .string (keyBytes [.int .i64 x.1, .int .i64 x.2])
  ok x := x.1 < N ∧ x.2 ≤ 3
  read x hx := keyOf_placeR (wf64 (by omega)) (wf64 (by omega))
  inj a b ha hb he := by
    have h1 := keyOf_placeR (wf64 (n := a.1) (by omega)) (wf64 (n := a.2) (by omega))
    have h2 := keyOf_placeR (wf64 (n := b.1) (by omega)) (wf64 (n := b.2) (by omega))
    have h3 := keyedPlaceR.inj (h1.trans (congrArg some he)) h2
    have h4 := Value.agg.inj h3
    clear h1 h2 h3 he
    simp only [Array.mk.injEq, List.cons.injEq, Value.int.injEq, true_and, and_true] at h4
    obtain ⟨a1, a2⟩ := a
    obtain ⟨b1, b2⟩ := b
    dsimp only at h4
    rw [show a1 = b1 by omega, show a2 = b2 by omega]
/-- What the search has in memory; X: blocks that it does not touch. -/
def SomeStR (N : Nat) (hN : N ≤ 9223372036854775808) (B bs bt : Nat) (X : Nat → Prop) (wx : World) (T : Nat × Nat → Bool) (l : List (Nat × Nat)) : Prop :=
  ∃ (ms : Nat) (ga : Option Addr) (cap : Nat), BoxIs wx bs #[.map (some ms)] 68 ∧ BoxIs wx bt #[.slice ga l.length cap] 69 ∧ SetAt wx (keyPR N hN) 4 ms (4 * N) T ∧
    wx.ownsRow B 71 2 (.slice ga l.length cap) l.length (l.map plCells).flatten ∧ B ≤ bs ∧ B ≤ bt ∧ B ≤ ms ∧ ∀ k, X k → k < wx.heap.size ∧ k ≠ ms ∧ k ≠ bt ∧ (Value.slice ga l.length cap).ownBlock ≠ some k

theorem elem_placeR : ∃ i : TypeInfo, Tryz.prog.underlying 69 = some (.slice 71) ∧ Tryz.prog.info? 71 = some i ∧ i.zero = some (.agg #[.int .i64 0, .int .i64 0]) ∧ i.size = 2 ∧ i.bytes = 16 := by
  obtain ⟨i0, hi, hz0, hz1, hz2⟩ := info_parts (show (Tryz.prog.info? 71).map (fun i => (i.zero, i.size, i.bytes)) = some (some (.agg #[.int .i64 0, .int .i64 0]), 2, 16) by kernel_rfl)
  exact ⟨i0, Tryz.underlying69, hi, hz0, hz1, hz2⟩
set_option maxRecDepth 100000 in
/-- A place more. -/
theorem wp_appPR {ops : Array Oper} {rest : List Oper} {o : Oper} {act : Act} {Q : Exit → Act → World → Prop} {te : TypeId} {base : Nat} {wx : World} {a : Option Addr} {n cap : Nat} {xs : List Value} {p q : Nat}
    (hz : base ≤ wx.heap.size) (hO : wx.ownsRow base 71 2 (.slice a n cap) n xs) (hby : n ≤ 1000000000) (hgd : o.guard = none) (s x : Operand)
    (ho : o.op = .call { callee := .builtin .append, args := #[s, x], argTypes := #[69, 69] }) (hs : act.eval s = .slice a n cap) (hx : act.eval x = .slice (some ⟨wx.heap.size, 0, none⟩) 1 1)
    (h : ∀ g cap' w', w'.ownsRow base 71 2 (.slice (some ⟨g, 0, none⟩) (n + 1) cap') (n + 1) (xs ++ plCells (p, q)) → wx.grownBy w' (Value.slice a n cap).ownBlock → ((Value.slice a n cap).ownBlock = some g ∨ wx.heap.size ≤ g) → wpList Tryz.prog ops Q rest (act.put o.dst (.slice (some ⟨g, 0, none⟩) (n + 1) cap')) w') :
    wpList Tryz.prog ops Q (o :: rest) act (wx.alloc (.cells #[.int .i64 p, .int .i64 q] te)) := by
  obtain ⟨i, ht, hi, hz0, hz1, hz2⟩ := elem_placeR
  have hba : base ≤ (wx.alloc (.cells #[.int .i64 p, .int .i64 q] te)).heap.size := by simp; omega
  refine wpList_append_lies _ hgd s x 69 ho base 71 i _ 2 16 ht hi hz0 hz1 hz2 rfl (by decide) _ n xs hs (hO.alloc _) ⟨wx.heap.size, 0, none⟩ 1 1 [.int .i64 p, .int .i64 q] hx rfl (World.news_of_block (heap_alloc_new wx (.cells #[.int .i64 p, .int .i64 q] te))) (by intro u hu; simp only [List.mem_cons, List.not_mem_nil, or_false] at hu; rcases hu with rfl | rfl <;> rfl) (by decide) (by unfold maxLen; omega) (by omega) hba _ rfl ?_
  intro g cap' w' hown hgrow hat hlt
  refine h g cap' w' hown ((World.grownBy_alloc wx _ _).andThen hgrow (fun j hj => .inr hj)) ?_
  rcases hat with h' | h'
  · exact .inl h'
  · right
    rw [h']
    simp

section
variable {N B bs bt : Nat} {hN : N ≤ 9223372036854775808} {X : Nat → Prop} {wx w2 w3 : World} {T : Nat × Nat → Bool} {l : List (Nat × Nat)}
/-- Blocks that are not touched may be lost sight of. -/
theorem SomeStR.weaken (h : SomeStR N hN B bs bt X wx T l) {Y : Nat → Prop} (hY : ∀ k, Y k → X k) : SomeStR N hN B bs bt Y wx T l := by
  obtain ⟨ms, ga, cap, h1, h2, h3, h4, h5, h6, h7, h8⟩ := h
  exact ⟨ms, ga, cap, h1, h2, h3, h4, h5, h6, h7, fun k hk => h8 k (hY k hk)⟩
/-- A new block: it is not touched. -/
theorem SomeStR.alloc (h : SomeStR N hN B bs bt X wx T l) (o : Obj) : SomeStR N hN B bs bt (fun k => X k ∨ k = wx.heap.size) (wx.alloc o) T l := by
  obtain ⟨ms, ga, cap, h1, h2, h3, h4, h5, h6, h7, h8⟩ := h
  have hb := bAlloc (Below.refl wx.heap.size wx) o
  refine ⟨ms, ga, cap, h1.under hb, h2.under hb, h3.same (hb.block ms h3.lt), h4.alloc o, h5, h6, h7, fun k hk => ?_⟩
  rcases hk with hk | rfl
  · obtain ⟨a1, a2⟩ := h8 k hk
    exact ⟨by simp; omega, a2⟩
  · refine ⟨by simp, fun e => ?_, fun e => ?_, fun e => ?_⟩
    · have := h3.lt
      omega
    · have := h2.lt
      omega
    · have := (stk_block h4 e).2.1
      omega
/-- Nothing that is there has changed. -/
theorem SomeStR.under (h : SomeStR N hN B bs bt X wx T l) (hb : Below wx.heap.size wx w2) : SomeStR N hN B bs bt X w2 T l := by
  obtain ⟨ms, ga, cap, h1, h2, h3, h4, h5, h6, h7, h8⟩ := h
  exact ⟨ms, ga, cap, h1.under hb, h2.under hb, h3.same (hb.block ms h3.lt), stk_same h4 (fun k hk => hb.block k (stk_block h4 hk).2.1), h5, h6, h7, fun k hk => ⟨Nat.lt_of_lt_of_le (h8 k hk).1 hb.size, (h8 k hk).2⟩⟩
/-- A block that is not touched is written. -/
theorem SomeStR.other (h : SomeStR N hN B bs bt X wx T l) {r : Nat} (hr : X r) (hbs : r ≠ bs) (hg : wx.grownBy w2 (some r)) : SomeStR N hN B bs bt X w2 T l := by
  obtain ⟨ms, ga, cap, h1, h2, h3, h4, h5, h6, h7, h8⟩ := h
  obtain ⟨a1, a2, a3, a4⟩ := h8 r hr
  have hk : ∀ k, k < wx.heap.size → k ≠ r → w2.heap[k]? = wx.heap[k]? := fun k hk hne => hg.block k hk (fun e => hne (by injection e))
  refine ⟨ms, ga, cap, (hk _ h1.lt (Ne.symm hbs)).trans h1, (hk _ h2.lt (Ne.symm a3)).trans h2, h3.same (hk _ h3.lt (Ne.symm a2)), stk_same h4 (fun k hk2 => hk k (stk_block h4 hk2).2.1 (fun e => a4 (e ▸ hk2))), h5, h6, h7, fun k hk => ⟨Nat.lt_of_lt_of_le (h8 k hk).1 hg.size, (h8 k hk).2⟩⟩

/-- A place is found: behind the stores. -/
theorem SomeStR.push {x : Nat × Nat} {ms g cap cap' : Nat} {ga : Option Addr} {o : Obj} (h1 : BoxIs wx bs #[.map (some ms)] 68) (h2 : BoxIs wx bt #[.slice ga l.length cap] 69) (h3 : SetAt wx (keyPR N hN) 4 ms (4 * N) T)
    (h4 : wx.ownsRow B 71 2 (.slice ga l.length cap) l.length (l.map plCells).flatten) (h5 : B ≤ bs) (h6 : B ≤ bt) (h7 : B ≤ ms) (h8 : ∀ k, X k → k < wx.heap.size ∧ k ≠ ms ∧ k ≠ bt ∧ (Value.slice ga l.length cap).ownBlock ≠ some k)
    (g1 : SetAt w2 (keyPR N hN) 4 ms (4 * N + 1) (ins T x)) (g2 : (wx.alloc o).grownBy w2 (some ms)) (g3 : w3.ownsRow B 71 2 (.slice (some ⟨g, 0, none⟩) (l.length + 1) cap') (l.length + 1) ((l.map plCells).flatten ++ plCells x)) (g4 : w2.grownBy w3 (Value.slice ga l.length cap).ownBlock) (g5 : (Value.slice ga l.length cap).ownBlock = some g ∨ w2.heap.size ≤ g) :
    SomeStR N hN B bs bt X (w3.setCell ⟨bt, 0, none⟩ (.slice (some ⟨g, 0, none⟩) (l.length + 1) cap')) (ins T x) (l ++ [x]) ∧ ∀ k, k < wx.heap.size → k ≠ ms → k ≠ bt → (Value.slice ga l.length cap).ownBlock ≠ some k → (w3.setCell ⟨bt, 0, none⟩ (.slice (some ⟨g, 0, none⟩) (l.length + 1) cap')).heap[k]? = wx.heap[k]? := by
  have hty : 68 ≠ 71 ∧ 69 ≠ 71 ∧ 68 ≠ 69 := by decide
  have hsz1 : wx.heap.size ≤ w2.heap.size := Nat.le_trans (by simp) g2.size
  have k2 : ∀ k, k < wx.heap.size → k ≠ ms → w2.heap[k]? = wx.heap[k]? := fun k hk hne => by
    rw [g2.block k (by simp; omega) (fun e => hne (by injection e))]
    exact Below.heap_alloc _ _ _ hk
  have k3 : ∀ k, k < w2.heap.size → (Value.slice ga l.length cap).ownBlock ≠ some k → w3.heap[k]? = w2.heap[k]? := fun k hk hne => g4.block k hk (fun e => hne e.symm)
  have k4 : ∀ k, k ≠ bt → (w3.setCell ⟨bt, 0, none⟩ (.slice (some ⟨g, 0, none⟩) (l.length + 1) cap')).heap[k]? = w3.heap[k]? := fun k hk => Below.heap_setCell _ _ _ _ (fun e => hk e)
  have hmap := h3.notCells
  have nms : ∀ {k : Nat} {vs : Array Value} {t : TypeId}, BoxIs wx k vs t → k ≠ ms := fun hb e => hmap _ _ _ (e ▸ hb)
  have nown : ∀ {k : Nat} {vs : Array Value} {t : TypeId}, BoxIs wx k vs t → t ≠ 71 → (Value.slice ga l.length cap).ownBlock ≠ some k := fun {k vs t} hb ht e => by
    obtain ⟨_, _, cur, h⟩ := stk_block h4 e
    exact notType hb h ht rfl
  have hbb : bs ≠ bt := notType h1 h2 hty.2.2
  have b2 : w3.heap[bt]? = some (.cells #[.slice ga l.length cap] 69 (0, 0)) := ((k3 bt (Nat.lt_of_lt_of_le h2.lt hsz1) (nown h2 hty.2.1)).trans (k2 bt h2.lt (nms h2))).trans h2
  have hmo : (Value.slice ga l.length cap).ownBlock ≠ some ms := fun e => by
    obtain ⟨_, _, cur, h⟩ := stk_block h4 e
    exact hmap _ _ _ h
  have hmb : ms ≠ bt := Ne.symm (nms h2)
  obtain ⟨_, gl, cur, hcur⟩ := stk_block g3 rfl
  have hgb : g ≠ bt := (notType b2 hcur hty.2.1).symm
  have hlen : (l ++ [x]).length = l.length + 1 := by simp
  refine ⟨⟨ms, some ⟨g, 0, none⟩, cap', ?_, ?_, ?_, ?_, h5, h6, h7, fun k hk => ?_⟩, fun k hk hm hb ho => ?_⟩
  · show (w3.setCell _ _).heap[bs]? = _
    rw [k4 bs hbb, k3 bs (Nat.lt_of_lt_of_le h1.lt hsz1) (nown h1 hty.1), k2 bs h1.lt (nms h1)]
    exact h1
  · rw [hlen]
    exact set_box b2
  · have h9 := g1.few keyedPlaceR (places N) (fun a ha => places_mem ha)
    rw [places_len] at h9
    refine h9.same ?_
    rw [k4 ms hmb]
    exact k3 ms (Nat.lt_of_lt_of_le h3.lt hsz1) hmo
  · rw [hlen, List.map_append, List.flatten_append]
    refine stk_same (xs := (l.map plCells).flatten ++ ([x].map plCells).flatten) ?_ (fun k hk => ?_) (w := w3)
    · simpa using g3
    · injection hk with hk
      rw [k4 k (hk ▸ hgb)]
  · obtain ⟨a1, a2, a3, a4⟩ := h8 k hk
    refine ⟨by have := g4.size; simp [World.setCell]; omega, a2, a3, fun e => ?_⟩
    injection e with e
    rcases g5 with g5 | g5
    · exact a4 (e ▸ g5)
    · have e2 : g = k := e
      omega
  · rw [k4 k hb, k3 k (Nat.lt_of_lt_of_le hk hsz1) ho, k2 k hk hm]
end
section
variable {w : World} {N m n : Nat} {hN : N ≤ 9223372036854775808} {S : Nat × Nat → Bool}
theorem lookPR (h : SetAt w (keyPR N hN) 4 m n S) {x : Nat × Nat} (hx : x.1 < N ∧ x.2 ≤ 3) : (Instr.lookup 68 (.map (some m)) (.agg #[.int .i64 x.1, .int .i64 x.2]) false).run Tryz.prog w = .ok (.bool (S x)) w :=
  h.look (a := x) keyedPlaceR Tryz.underlying68 Tryz.underlying4 (zeroBool w) hx
theorem storePR (h : SetAt w (keyPR N hN) 4 m n S) {x : Nat × Nat} (hx : x.1 < N ∧ x.2 ≤ 3) (hn : n < 1000000000) :
    ∃ w', (Instr.mapUpdate 68 (.map (some m)) (.agg #[.int .i64 x.1, .int .i64 x.2]) (.bool true)).run Tryz.prog w = .ok () w' ∧ SetAt w' (keyPR N hN) 4 m (n + 1) (ins S x) ∧ w.grownBy w' (some m) :=
  h.store (a := x) keyedPlaceR Tryz.underlying68 Tryz.underlying4 (by unfold maxLen; omega) hx
end

end Go.Proofs.YtnpcbcnclncniaaGreatDoor
namespace Go.Proofs.YtnpcbcnclncniaaGreatDoor
open Go.RowKit

/-- What visits do, one after the other. -/
def visL (T : Nat × Nat → Bool) (l : List (Nat × Nat)) (ys : List (Nat × Nat)) : (Nat × Nat → Bool) × List (Nat × Nat) := ys.foldl (fun s y => vis s.1 s.2 y) (T, l)
theorem visL_snoc (T : Nat × Nat → Bool) (l ys : List (Nat × Nat)) (y : Nat × Nat) : visL T l (ys ++ [y]) = vis (visL T l ys).1 (visL T l ys).2 y := by
  unfold visL
  rw [List.foldl_append]
  rfl
theorem visL_cons (T : Nat × Nat → Bool) (l ys : List (Nat × Nat)) (y : Nat × Nat) : visL T l (y :: ys) = visL (vis T l y).1 (vis T l y).2 ys := rfl
theorem visL_of : ∀ (ys : List (Nat × Nat)) {T : Nat × Nat → Bool} (l : List (Nat × Nat)) {y : Nat × Nat}, T y = true → (visL T l ys).1 y = true
  | [], _, _, _, h => h
  | x :: ys, T, l, y, h => by
    rw [visL_cons]
    exact visL_of ys _ (vis_of l h)
theorem visL_has : ∀ (ys : List (Nat × Nat)) (T : Nat × Nat → Bool) (l : List (Nat × Nat)) {y : Nat × Nat}, y ∈ ys → (visL T l ys).1 y = true
  | x :: ys, T, l, y, h => by
    rw [visL_cons]
    rcases List.mem_cons.1 h with rfl | h
    · exact visL_of ys _ (vis_self T l y)
    · exact visL_has ys _ _ h
theorem visL_mid {E : Nat × Nat → Nat × Nat → Prop} {S bad : Nat × Nat → Prop} {x : Nat × Nat} : ∀ (ys : List (Nat × Nat)) {T : Nat × Nat → Bool} {l : List (Nat × Nat)}, Mid E S bad T l x → (∀ y ∈ ys, E x y) → Mid E S bad (visL T l ys).1 (visL T l ys).2 x
  | [], _, _, h, _ => h
  | y :: ys, T, l, h, hy => by
    rw [visL_cons]
    exact visL_mid ys (vis_mid h (hy y (by simp))) (fun z hz => hy z (by simp [hz]))
theorem visL_miss {N : Nat} : ∀ (ys : List (Nat × Nat)) (T : Nat × Nat → Bool) (l : List (Nat × Nat)), (∀ y ∈ ys, y.1 < N ∧ y.2 ≤ 3) → miss (places N) (visL T l ys).1 + (visL T l ys).2.length = miss (places N) T + l.length
  | [], _, _, _ => rfl
  | y :: ys, T, l, h => by
    rw [visL_cons, visL_miss ys _ _ (fun z hz => h z (by simp [hz]))]
    exact vis_miss l (h y (by simp))
theorem visL_len : ∀ (ys : List (Nat × Nat)) (T : Nat × Nat → Bool) (l : List (Nat × Nat)), (visL T l ys).2.length ≤ l.length + ys.length
  | [], _, _ => Nat.le_refl _
  | y :: ys, T, l => by
    rw [visL_cons]
    have h1 := visL_len ys (vis T l y).1 (vis T l y).2
    have h2 : (vis T l y).2.length ≤ l.length + 1 := by
      unfold vis
      split <;> simp
    rw [List.length_cons]
    omega
/-- When what is found is what is listed, it stays so. -/
theorem visL_iff : ∀ (ys : List (Nat × Nat)) {T : Nat × Nat → Bool} {l : List (Nat × Nat)}, (∀ x, T x = true ↔ x ∈ l) → (∀ x, (visL T l ys).1 x = true ↔ x ∈ (visL T l ys).2) ∧ ∀ x, x ∈ (visL T l ys).2 ↔ x ∈ l ∨ x ∈ ys
  | [], _, _, h => ⟨h, fun x => by simp [visL]⟩
  | y :: ys, T, l, h => by
    obtain ⟨h1, h2, _⟩ := vis_iff h y
    obtain ⟨h3, h4⟩ := visL_iff ys h1
    rw [visL_cons]
    refine ⟨h3, fun x => ?_⟩
    rw [h4, h2, List.mem_cons]
    constructor
    · rintro ((h | h) | h)
      · exact .inl h
      · exact .inr (.inl h)
      · exact .inr (.inr h)
    · rintro (h | h | h)
      · exact .inl (.inl h)
      · exact .inl (.inr h)
      · exact .inr h

/-- What the closure leaves: places with a name's part nm, of the states to which n leads at once. -/
def PutRes (A : NetA) (hN : A.length ≤ 9223372036854775808) (B bs bt : Nat) (X : Nat → Prop) (T : Nat × Nat → Bool) (l : List (Nat × Nat)) (n nm : Nat) (w : World) (e : Ending) (w' : World) : Prop :=
  e = .returned (.tuple #[]) ∧ ∃ ys : List (Nat × Nat), (∀ y, y ∈ ys ↔ Path A n [] y.1 ∧ y.2 = nm) ∧ SomeStR A.length hN B bs bt X w' (visL T l ys).1 (visL T l ys).2 ∧ Below B w w' ∧ ∀ k, X k → w'.heap[k]? = w.heap[k]?
/-- .. under way. -/
def PutL (A : NetA) (hN : A.length ≤ 9223372036854775808) (B bs bt : Nat) (X : Nat → Prop) (T : Nat × Nat → Bool) (l : List (Nat × Nat)) (nm mm r n' : Nat) (Sc : Nat → Bool) (w wx : World) (c : Nat) : Prop :=
  ∃ (ys : List (Nat × Nat)) (left : Nat → Bool), RangeAt wx (keyN A.length hN) 4 mm r n' Sc left c ∧ SomeStR A.length hN B bs bt (fun k => (X k ∨ k = mm) ∨ k = r) wx (visL T l ys).1 (visL T l ys).2 ∧ Below B w wx ∧ (∀ k, X k → wx.heap[k]? = w.heap[k]?) ∧
    (∀ y, y ∈ ys ↔ (Sc y.1 = true ∧ left y.1 = false) ∧ y.2 = nm) ∧ ys.length + c ≤ n'

theorem SomeStR.grows {N B bs bt : Nat} {hN : N ≤ 9223372036854775808} {X : Nat → Prop} {wx w2 : World} {T : Nat × Nat → Bool} {l : List (Nat × Nat)} (h : SomeStR N hN B bs bt X wx T l) (hg : wx.grownBy w2 none) (hlt : wx.heap.size < w2.heap.size) : SomeStR N hN B bs bt (fun k => X k ∨ k = wx.heap.size) w2 T l := by
  have hb := grown_none hg
  obtain ⟨ms, ga, cap, h1, h2, h3, h4, h5, h6, h7, h8⟩ := h
  refine ⟨ms, ga, cap, h1.under hb, h2.under hb, h3.same (hb.block ms h3.lt), stk_same h4 (fun k hk => hb.block k (stk_block h4 hk).2.1), h5, h6, h7, fun k hk => ?_⟩
  rcases hk with hk | rfl
  · obtain ⟨a1, a2⟩ := h8 k hk
    exact ⟨by omega, a2⟩
  · refine ⟨hlt, fun e => ?_, fun e => ?_, fun e => ?_⟩
    · have := h3.lt
      omega
    · have := h2.lt
      omega
    · have := (stk_block h4 e).2.1
      omega
theorem enters_put : ∀ args w, (callFunc 31 args).run Tryz.prog w = .ok (.enter 31 args) w := enters_of Tryz.func31 (by kernel_rfl) rfl

/-- One more state to which n leads. -/
theorem PutL.more {A : NetA} {hN : A.length ≤ 9223372036854775808} {B bs bt nm mm r n' c c2 q : Nat} {X : Nat → Prop} {T : Nat × Nat → Bool} {l ys : List (Nat × Nat)} {Sc left : Nat → Bool} {w wx w2 w3 : World} (h4 : Below B w wx) (h5 : ∀ k, X k → wx.heap[k]? = w.heap[k]?) (hXr : ∀ k, X k → k < wx.heap.size ∧ k ≠ r)
    (h6 : ∀ y, y ∈ ys ↔ (Sc y.1 = true ∧ left y.1 = false) ∧ y.2 = nm) (h7 : ys.length + c ≤ n') (hB : B ≤ wx.heap.size) (hr : B ≤ r) (hq : left q = true) (hSq : Sc q = true) (k1 : RangeAt w2 (keyN A.length hN) 4 mm r n' Sc (fun y => left y && !decide (y = q)) c2) (k2 : c2 < c) (k3 : wx.grownBy w2 (some r))
    (v1 : SomeStR A.length hN B bs bt (fun k => (X k ∨ k = mm) ∨ k = r) w3 (vis (visL T l ys).1 (visL T l ys).2 (q, nm)).1 (vis (visL T l ys).1 (visL T l ys).2 (q, nm)).2) (v2 : Below B w2 w3) (v3 : ∀ k, ((X k ∨ k = mm) ∨ k = r) → w3.heap[k]? = w2.heap[k]?) : PutL A hN B bs bt X T l nm mm r n' Sc w w3 c2 := by
  have hb2 : Below B w w2 := h4.grown k3 hB (fun k hk => by cases hk; exact hr)
  refine ⟨ys ++ [(q, nm)], _, k1.same (v3 mm (.inl (.inr rfl))) (v3 r (.inr rfl)), by rw [visL_snoc]; exact v1, hb2.trans v2, fun k hk => ?_, fun y => ?_, by rw [List.length_append, List.length_singleton]; omega⟩
  · obtain ⟨a1, a2⟩ := hXr k hk
    rw [v3 k (.inl (.inl hk)), k3.block k a1 (fun e => a2 (by injection e)), h5 k hk]
  · rw [List.mem_append, List.mem_singleton, h6]
    obtain ⟨y1, y2⟩ := y
    dsimp only
    by_cases e : y1 = q
    · subst e
      simp [hSq, hq]
    · simp [e]

variable {Xa : Nat → Prop}
set_option maxHeartbeats 4000000 in
set_option maxRecDepth 100000 in
theorem put_any {w0 : World} {b ba B bs bt : Nat} {G : List GNode} {rows : List (List Value)} {X : Nat → Prop} {T : Nat × Nat → Bool} {l : List (Nat × Nat)} (hN : (netG G).length ≤ 9223372036854775808) (w : World) (hG : GAt Xa w0 w b G rows) (hw : WF (netG G)) (hA : (netG G).length ≤ 100000000) (hE : ∀ g ∈ G, g.eps.length ≤ 100000000)
    (h : SomeStR (netG G).length hN B bs bt X w T l) (hba : BoxIs w ba #[.pointer (some ⟨b, 0, none⟩)] 54) (n nm : Nat) (hn : n < (netG G).length) (hnm : nm ≤ 3) (hl : l.length ≤ 800000000) (hB : B ≤ w.heap.size) :
    Calls Tryz.prog 31 #[.int .i64 n, .int .i64 nm, .pointer (some ⟨ba, 0, none⟩), .pointer (some ⟨bs, 0, none⟩), .pointer (some ⟨bt, 0, none⟩)] w (PutRes (netG G) hN B bs bt X T l n nm w) := by
  have hbm : Below w.heap.size w (w.alloc (.map #[] 0)) := bAlloc (Below.refl _ _) _
  have hM : SetAt (w.alloc (.map #[] 0)) (keyN (netG G).length hN) 4 w.heap.size 0 (fun _ => false) := SetAt.made w _ _
  obtain ⟨w2, hrun, h8, h9⟩ := storeN (q := n) hM hn (by decide)
  obtain ⟨es, cl, hm⟩ := hM.map
  have hG1 := hG.under hbm
  have hG2 : GAt Xa w0 w2 b G rows := hG1.stay (hG1.below.grown h9 hG1.below.size (fun k hk => by cases hk; exact hG.below.size)) h9.size (CellsStay.grown h9 hm)
  have HCl := Lib.hid (close_any hN w2 hG2 hw hA hE h8 (by omega))
  have hbsl : bs < w.heap.size := by
    obtain ⟨ms, ga, cap, h1, _⟩ := h
    exact h1.lt
  have hS2 : SomeStR (netG G).length hN B bs bt (fun k => X k ∨ k = w.heap.size) w2 T l := (h.alloc (.map #[] 0)).other (.inr rfl) (by omega) h9
  have HS2 := Lib.hid hS2
  have HB2 : Hid (Below B w w2) := Lib.hid ((hbm.mono hB).grown h9 (Nat.le_trans hB hbm.size) (fun k hk => by cases hk; exact hB))
  have HX2 : Hid (∀ k, X k → w2.heap[k]? = w.heap[k]?) := Lib.hid (fun k hk => by
    obtain ⟨ms, ga, cap, _, _, _, _, _, _, _, a8⟩ := h
    have h1 := (a8 k hk).1
    rw [h9.block k (Nat.lt_of_lt_of_le h1 hbm.size) (fun e => by injection e with e; omega), hbm.block k h1])
  have HXl : Hid (∀ k, X k → k < w.heap.size) := Lib.hid (fun k hk => by
    obtain ⟨ms, ga, cap, _, _, _, _, _, _, _, a8⟩ := h
    exact (a8 k hk).1)
  have ca := hba.cell (j := 0) rfl
  have hmm := @run_makeMap Tryz.prog
  change (Instr.mapUpdate 65 (.map (some w.heap.size)) (.int .i64 n) (.bool true)).run Tryz.prog (w.alloc (.map #[] 0)) = .ok () w2 at hrun
  have HFc : Hid (∀ (T3 : Nat → Bool), (∀ q, T3 q = true ↔ fclos (netG G) (fun p => ins (fun _ => false) n p = true) q) → ∀ q, T3 q = true ↔ Path (netG G) n [] q) := Lib.hid (fun T3 h3 q => (h3 q).trans ⟨fun ⟨p, hp, hq⟩ => by
    (rcases ins_iff.1 hp with hp | hp
     · exact hp ▸ hq
     · cases hp), fun hq => ⟨n, ins_self _ n, hq⟩⟩)
  have hsz2 : w.heap.size < w2.heap.size := Nat.lt_of_lt_of_le (by simp) h9.size
  clear h hM h8 h9 hm hG1 hG2 hbm hS2 hba hG hw hE
  generalize netG G = A at *
  go_enter Tryz.func31, Tryz.ntmps31
  go_wp2_with (first | (go_at_call 29; refine HCl.out.mono ?_; rintro e w3 ⟨rfl, g3, T3, n3, hT3, _, hq3⟩; have HT3 := Lib.hid hT3.small; have HQ3 := Lib.hid (HFc.out T3 hq3); have HS3 : Hid (SomeStR A.length hN B bs bt (fun k => X k ∨ k = w.heap.size) w3 T l) := Lib.hid (HS2.out.other (.inr rfl) (by omega) g3); have HB3 : Hid (Below B w w3) := Lib.hid (HB2.out.grown g3 (Nat.le_trans hB (Nat.le_of_lt hsz2)) (fun k hk => by cases hk; exact hB)); have HX3 : Hid (∀ k, X k → w3.heap[k]? = w.heap[k]?) := Lib.hid (fun k hk => (g3.block k (Nat.lt_trans (HXl.out k hk) hsz2) (fun e => by injection e with e; have := HXl.out k hk; omega)).trans (HX2.out k hk)); have hsz3 := g3.size; clear HCl HFc hT3 hq3 HS2 HB2 HX2 g3) | (at_range; refine wp_rangeN rfl (.tmp 13) rfl rfl HT3.out ?_; intro w4 c4 hR4 hg4 hc4))
  go_frame
  obtain ⟨r, hr0⟩ : ∃ r, w3.heap.size = r := ⟨_, rfl⟩
  rw [hr0] at hR4 ⊢
  have hrl : r < w4.heap.size := hR4.lt.1
  have hbr : bs < r := by omega
  have hBr : B ≤ r := by omega
  have HI : Hid (PutL A hN B bs bt X T l nm w.heap.size r A.length T3 w w4 c4) := Lib.hid ⟨[], T3, hR4, (HS3.out.grows hg4 (by omega)).weaken (fun k hk => by rw [hr0]; exact hk), HB3.out.grown hg4 (by omega) (fun k hk => by cases hk), fun k hk => (hg4.block k (by have := HXl.out k hk; omega) (by simp)).trans (HX3.out k hk), fun y => by
    cases hy : T3 y.1 <;> simp, by simpa using hc4⟩
  have HXr : Hid (∀ k, X k → k < w.heap.size) := HXl
  clear hR4 hg4 HS3 HB3 HX3 HXl hrun hmm ca
  go_loopg [] A.length (fun g wx => ∃ c : Nat, c ≤ g ∧ Hid (PutL A hN B bs bt X T l nm w.heap.size r A.length T3 w wx c))
  case atStart => exact ⟨c4, hc4, HI⟩
  case round =>
    clear HI hc4
    obtain ⟨c, hcg, HG⟩ := hrel
    obtain ⟨ys, left, h2, h3, h4, h5, h6, h7⟩ := HG.out
    have hlen := visL_len ys T l
    have hzr := h2.lt
    have H := Lib.hid (And.intro h3 (And.intro h4 (And.intro h5 (And.intro h6 h7))))
    clear h3 h4 h5 h6 HG
    go_wp2_with (at_next; refine wp_nextN rfl (.tmp 14) rfl rfl h2 ?_ ?_)
    · intro hl0
      clear h2
      go_wp2_with fail
      go_end0
      refine ⟨rfl, ys, fun y => ?_, H.out.1.weaken (fun k hk => .inl (.inl hk)), H.out.2.1, H.out.2.2.1⟩
      rw [H.out.2.2.2.1 y, hl0, ← HQ3.out]
      simp
    · intro q w5 c5 hlq hqN hR5 hc5 hg5 hen5
      obtain ⟨g, rfl⟩ : ∃ g, gk = g + 1 := ⟨gk - 1, by omega⟩
      have hx : (q, nm).1 < A.length ∧ (q, nm).2 ≤ 3 := ⟨hqN, hnm⟩
      have hsq := h2.sub hlq
      have hz5 := hg5.size
      have HMore := Lib.hid (fun w9 v1 v2 v3 => PutL.more (hN := hN) (X := X) (T := T) (l := l) (ys := ys) (bs := bs) (bt := bt) (nm := nm) (mm := w.heap.size) (r := r) (n' := A.length) (Sc := T3) (left := left) (w := w) (wx := wr) (w2 := w5) (w3 := w9) H.out.2.1 H.out.2.2.1 (fun k hk => ⟨by have := HXr.out k hk; omega, by have := HXr.out k hk; omega⟩) H.out.2.2.2.1 H.out.2.2.2.2 (by omega) hBr hlq hsq hR5 hc5 hg5 v1 v2 v3)
      have hS5 := H.out.1.other (.inr rfl) (by omega) hg5
      generalize hT' : (visL T l ys).1 = T' at *
      generalize hl' : (visL T l ys).2 = l' at *
      obtain ⟨ms, ga, cap, h1, h2, h3, h4, h5, h6, h7, h8⟩ := hS5
      have hb1 : Below w5.heap.size w5 (w5.alloc (.cells #[.int .i64 q, .int .i64 nm] 71)) := bAlloc (Below.refl _ _) _
      have H8 := Lib.hid h8
      have g1 := h1.under hb1
      have g2 := h2.under hb1
      have g3 := h3.same (hb1.block ms h3.lt)
      have HP := Lib.hid (BoxIs.new w5 #[.int .i64 q, .int .i64 nm] 71)
      have s0 := BoxIs.cell (j := 0) g1 rfl
      have p0 := BoxIs.cell (j := 0) HP.out rfl
      have p1 := BoxIs.cell (j := 1) HP.out rfl
      have hlook := lookPR g3 hx
      have hB5 : B ≤ w5.heap.size := by omega
      cases hT : T' (q, nm) with
      | true =>
        rw [hT] at hlook
        have hv : vis T' l' (q, nm) = (T', l') := by simp [vis, hT]
        have HF : Hid (PutL A hN B bs bt X T l nm w.heap.size r A.length T3 w (w5.alloc (.cells #[.int .i64 q, .int .i64 nm] 71)) c5) := Lib.hid (HMore.out _ (by
          rw [hv]
          exact (SomeStR.alloc ⟨ms, ga, cap, h1, h2, h3, h4, h5, h6, h7, h8⟩ _).weaken (fun k hk => .inl hk)) (hb1.mono hB5) (fun k hk => hb1.block k (h8 k hk).1))
        clear h1 h2 h3 h4 h8 hT hv g1 g2 g3 hb1 HMore hR5 hg5
        go_wp2_with fail
        go_roundg g
        case measure => omega
        case rel => exact ⟨c5, by omega, HF⟩
      | false =>
        rw [hT] at hlook
        have hv : vis T' l' (q, nm) = (ins T' (q, nm), l' ++ [(q, nm)]) := by simp [vis, hT]
        obtain ⟨w6, hrun, k1, k2⟩ := storePR g3 hx (by omega)
        have hmt := h3.notCells
        have hst : CellsStay (w5.alloc (.cells #[.int .i64 q, .int .i64 nm] 71)) w6 := by
          obtain ⟨es, cl, hm⟩ := g3.map
          exact CellsStay.grown k2 hm
        have q0 := hst.cell p0
        have q1 := hst.cell p1
        have q2 := hst.cell s0
        have G2 : Hid (BoxIs w6 bt #[.slice ga l'.length cap] 69) := Lib.hid (hst _ _ _ _ g2)
        have q3 := BoxIs.cell (j := 0) G2.out rfl
        have HO : Hid (w6.ownsRow B 71 2 (.slice ga l'.length cap) l'.length (l'.map plCells).flatten) := Lib.hid (stk_same (h4.alloc _) (fun k hk => by
          obtain ⟨_, _, cur, h⟩ := stk_block (h4.alloc (.cells #[.int .i64 q, .int .i64 nm] 71)) hk
          rw [h, hst _ _ _ _ h]))
        have hz6 : B ≤ w6.heap.size := Nat.le_trans hB5 (Nat.le_trans (by simp) k2.size)
        have HQ := Lib.hid (fun (g cap' : Nat) (w7 : World) (k3 : w7.ownsRow B 71 2 (.slice (some ⟨g, 0, none⟩) (l'.length + 1) cap') (l'.length + 1) ((l'.map plCells).flatten ++ plCells (q, nm))) (k4 : w6.grownBy w7 (Value.slice ga l'.length cap).ownBlock) (k5 : (Value.slice ga l'.length cap).ownBlock = some g ∨ w6.heap.size ≤ g) =>
          SomeStR.push h1 h2 h3 h4 h5 h6 h7 h8 k1 k2 k3 k4 k5)
        have HBl := Lib.hid (fun (w7 : World) (k4 : w6.grownBy w7 (Value.slice ga l'.length cap).ownBlock) (v : Value) =>
          (Below.setCell (((hb1.mono hB5).grown k2 (Nat.le_trans hB5 (by simp)) (fun k hk => by cases hk; exact h7)).grown k4 hz6 (fun k hk => (stk_block h4 hk).1)) (p := ⟨bt, 0, none⟩) h6 v : Below B w5 (w7.setCell ⟨bt, 0, none⟩ v)))
        have HBo := Lib.hid (fun (w7 : World) (k4 : w6.grownBy w7 (Value.slice ga l'.length cap).ownBlock) => (by
          refine (k4.block bt G2.out.lt (fun e => ?_)).trans G2.out
          obtain ⟨_, _, cur, h⟩ := stk_block h4 e.symm
          exact notType h2 h (by decide) rfl : w7.heap[bt]? = some (.cells #[.slice ga l'.length cap] 69 (0, 0))))
        have HFin := Lib.hid (fun (g cap' : Nat) (w7 : World) (k3 : w7.ownsRow B 71 2 (.slice (some ⟨g, 0, none⟩) (l'.length + 1) cap') (l'.length + 1) ((l'.map plCells).flatten ++ plCells (q, nm))) (k4 : w6.grownBy w7 (Value.slice ga l'.length cap).ownBlock) (k5 : (Value.slice ga l'.length cap).ownBlock = some g ∨ w6.heap.size ≤ g) => (by
          obtain ⟨f1, f2⟩ := HQ.out g cap' w7 k3 k4 k5
          refine HMore.out _ (by rw [hv]; exact f1) (HBl.out w7 k4 _) (fun k hk => ?_)
          obtain ⟨a1, a2, a3, a4⟩ := H8.out k hk
          exact f2 k a1 a2 a3 a4 : PutL A hN B bs bt X T l nm w.heap.size r A.length T3 w (w7.setCell ⟨bt, 0, none⟩ (.slice (some ⟨g, 0, none⟩) (l'.length + 1) cap')) c5))
        have hl9 : l'.length ≤ 1000000000 := by omega
        clear h1 h2 h3 h4 h8 hT hv g1 g2 g3 hb1 k1 k2 hst hmt HMore hR5 hg5 HQ
        generalize hL : l'.length = L at *
        clear hL
        dsimp only at hrun
        go_wp2_with (at_builtin; refine wp_appPR (p := q) (q := nm) hz6 HO.out hl9 rfl (.tmp 28) (.tmp 30) rfl rfl rfl ?_; intro gq cap' w7 k3 k4 k5; have HF := Lib.hid (HFin.out gq cap' w7 k3 k4 k5); have b3 := HBo.out w7 k4; have t0 := BoxIs.cell (j := 0) b3 rfl; have f0 := Lib.frozen_of_heap b3 0; clear k3 k4 k5 b3 q3)
        go_roundg g
        case measure => omega
        case rel => exact ⟨c5, by omega, HF⟩
end Go.Proofs.YtnpcbcnclncniaaGreatDoor
namespace Go.Proofs.YtnpcbcnclncniaaGreatDoor
open Go.RowKit

/-- Behind the first bytes of a text. -/
theorem fol_zero {A : NetA} {st q : Nat} {D : List UInt8} : Path A st (D.take 0) q ↔ fclos A (fun p => p = st) q := by
  rw [List.take_zero]
  exact ⟨fun h => ⟨st, rfl, h⟩, fun ⟨p, hp, h⟩ => hp ▸ h⟩
theorem fol_succ {A : NetA} {st q k : Nat} {c : UInt8} {D : List UInt8} (hc : D[k]? = some c) : Path A st (D.take (k + 1)) q ↔ stepN A (fun p => Path A st (D.take k) p) c q := by
  rw [List.take_add_one, hc, Option.toList_some, path_app]
  constructor
  · rintro ⟨m, h1, h2⟩
    obtain ⟨p, a, t, h3, h4⟩ := path_one.1 h2
    refine ⟨p, a, t, ?_, h4⟩
    have := h1.trans h3
    rwa [List.append_nil] at this
  · rintro ⟨p, a, t, h1, h4⟩
    exact ⟨p, h1, path_one.2 ⟨p, a, t, .here _, h4⟩⟩

/-- From a place by a byte, and on to what follows at once. -/
def placeG (A : NetA) (x y : Nat × Nat) : Prop := ∃ (c : UInt8) (d k : Nat), c ≠ 0 ∧ hit A c x.1 d ∧ grownN x.2 c = some k ∧ Path A d [] y.1 ∧ y.2 = k
/-- Where the search begins. -/
def startG (A : NetA) (S : Nat → Prop) (x : Nat × Nat) : Prop := (∃ p, S p ∧ Path A p [] x.1) ∧ x.2 = 0
theorem rch_trans {α : Type} {E : α → α → Prop} {x y z : α} (h : Rch E x y) (k : Rch E y z) : Rch E x z := by
  induction k with
  | here => exact h
  | next _ h2 ih => exact .next ih h2
theorem rchG_iff {A : NetA} {S : Nat → Prop} {x : Nat × Nat} : (∃ s, startG A S s ∧ Rch (placeG A) s x) ↔ ∃ s, startP S s ∧ Rch (placeE A) s x := by
  have free : ∀ (p q k : Nat), Path A p [] q → Rch (placeE A) (p, k) (q, k) := fun p q k h => rch_place.2 ⟨[], h, rfl⟩
  constructor
  · rintro ⟨s, ⟨⟨p, hp, hs⟩, h0⟩, hr⟩
    refine ⟨(p, 0), ⟨hp, rfl⟩, ?_⟩
    induction hr with
    | here =>
      obtain ⟨s1, s2⟩ := s
      dsimp only at h0 hs
      subst h0
      exact free p s1 0 hs
    | @next y z _ h2 ih =>
      obtain ⟨c, d, k, hc, ⟨a, ha, t, ht, htc, rfl⟩, hk, hq, hz⟩ := h2
      obtain ⟨z1, z2⟩ := z
      dsimp only at hz hq
      subst hz
      exact rch_trans (.next ih ⟨a, ha, .inr ⟨t, c, ht, hc, htc, _, hk, rfl⟩⟩) (free _ _ _ hq)
  · rintro ⟨⟨p, k0⟩, ⟨hp, h0⟩, hr⟩
    have h0 : k0 = 0 := h0
    subst h0
    have key : ∀ y, Rch (placeE A) (p, 0) y → (startG A S y ∨ ∃ u, (∃ s, startG A S s ∧ Rch (placeG A) s u) ∧ placeG A u y) := by
      intro y hy
      induction hy with
      | here => exact .inl ⟨⟨p, hp, .here _⟩, rfl⟩
      | @next y z _ h2 ih =>
        obtain ⟨a, ha, h3⟩ := h2
        rcases h3 with ⟨ht, rfl⟩ | ⟨t, c, ht, hc, htc, k, hk, rfl⟩
        · rcases ih with ⟨⟨p', hp', hq⟩, h0⟩ | ⟨u, hu, c, d, k, hc, hh, hk, hq, hz⟩
          · refine .inl ⟨⟨p', hp', ?_⟩, h0⟩
            have := hq.trans (Path.free ha ht (.here _))
            rwa [List.nil_append] at this
          · refine .inr ⟨u, hu, c, d, k, hc, hh, hk, ?_, hz⟩
            have := hq.trans (Path.free ha ht (.here _))
            rwa [List.nil_append] at this
        · refine .inr ⟨y, ?_, c, a.dst, k, hc, ⟨a, ha, t, ht, htc, rfl⟩, hk, .here _, rfl⟩
          rcases ih with h | ⟨u, ⟨s, hs, hsu⟩, huy⟩
          · exact ⟨y, h, .here⟩
          · exact ⟨s, hs, .next hsu huy⟩
    rcases key x hr with h | ⟨u, ⟨s, hs, hsu⟩, hux⟩
    · exact ⟨x, h, .here⟩
    · exact ⟨s, hs, .next hsu hux⟩
theorem someG_iff {A : NetA} {S : Nat → Prop} {e : Nat} : someN A S e ↔ ∃ s, startG A S s ∧ Rch (placeG A) s (e, 3) := by
  rw [rchG_iff]
  constructor
  · rintro ⟨q, r, h1, h2, h3⟩
    exact ⟨(q, 0), ⟨h1, rfl⟩, rch_place.2 ⟨r, h2, h3⟩⟩
  · rintro ⟨⟨s, k⟩, ⟨h1, h2⟩, h3⟩
    have h2 : k = 0 := h2
    subst h2
    obtain ⟨r, h4, h5⟩ := rch_place.1 h3
    exact ⟨s, r, h1, h4, h5⟩
theorem someG_found {A : NetA} {S : Nat → Prop} {bad : Nat × Nat → Prop} {T : Nat × Nat → Bool} {l : List (Nat × Nat)} {e : Nat} (h : Work (placeG A) (startG A S) bad T l) (hm : (e, 3) ∈ l) : someN A S e := someG_iff.2 (h.sound _ (h.todo _ hm))
theorem someG_none {A : NetA} {S : Nat → Prop} {T : Nat × Nat → Bool} {e : Nat} (h : Work (placeG A) (startG A S) (fun x => x = (e, 3)) T []) : ¬ someN A S e := fun hs => h.all.2 _ ((h.all.1 (e, 3)).2 (someG_iff.1 hs)) rfl

section
variable {A : NetA} {hN : A.length ≤ 9223372036854775808} {S : Nat → Bool} {e bs bt m r n c g B : Nat} {w wx w2 : World}
/-- The begin: the states of a set and what follows at once, with nothing of a name. -/
def Sg1 (A : NetA) (hN : A.length ≤ 9223372036854775808) (S : Nat → Bool) (bs bt m r : Nat) (w wx : World) (c : Nat) : Prop :=
  ∃ (T : Nat × Nat → Bool) (l : List (Nat × Nat)) (left : Nat → Bool), SomeStR A.length hN w.heap.size bs bt (fun k => k = m ∨ k = r) wx T l ∧ RangeAt wx (keyN A.length hN) 4 m r A.length S left c ∧ Below w.heap.size w wx ∧ (∀ x, T x = true ↔ x ∈ l) ∧ (∀ x, x ∈ l ↔ (∃ p, (S p = true ∧ left p = false) ∧ Path A p [] x.1) ∧ x.2 = 0) ∧ miss (places A.length) T + l.length ≤ 4 * A.length
/-- The search. -/
def SrG (A : NetA) (hN : A.length ≤ 9223372036854775808) (S : Nat → Bool) (bs bt : Nat) (w wx : World) (g : Nat) : Prop :=
  ∃ (T : Nat × Nat → Bool) (l : List (Nat × Nat)), SomeStR A.length hN w.heap.size bs bt (fun _ => False) wx T l ∧ Below w.heap.size w wx ∧ Work (placeG A) (startG A (fun p => S p = true)) (fun y => y = (0, 3)) T l ∧ miss (places A.length) T + l.length ≤ g
/-- .. while one place is looked at: Y: what is seen to be found. -/
def ScG (A : NetA) (hN : A.length ≤ 9223372036854775808) (S : Nat → Bool) (bs bt : Nat) (x : Nat × Nat) (pb : Nat) (Y : Nat × Nat → Prop) (w wx : World) (g : Nat) : Prop :=
  ∃ (T : Nat × Nat → Bool) (l : List (Nat × Nat)), SomeStR A.length hN w.heap.size bs bt (fun k => k = pb) wx T l ∧ BoxIs wx pb (plBox x) 71 ∧ Below w.heap.size w wx ∧ Mid (placeG A) (startG A (fun p => S p = true)) (fun y => y = (0, 3)) T l x ∧ (∀ y, Y y → T y = true) ∧ miss (places A.length) T + l.length ≤ g
theorem Sg1.done {T : Nat × Nat → Bool} {l : List (Nat × Nat)} {left : Nat → Bool} (h1 : SomeStR A.length hN w.heap.size bs bt (fun k => k = m ∨ k = r) wx T l) (h3 : Below w.heap.size w wx) (h4 : ∀ x, T x = true ↔ x ∈ l) (h5 : ∀ x, x ∈ l ↔ (∃ p, (S p = true ∧ left p = false) ∧ Path A p [] x.1) ∧ x.2 = 0) (h6 : miss (places A.length) T + l.length ≤ 4 * A.length) (hl : ∀ q, left q = false) : SrG A hN S bs bt w wx (4 * A.length) := by
  refine ⟨T, l, h1.weaken (fun k hk => hk.elim), h3, Work.begun (fun x => ?_) h4, h6⟩
  rw [h4, h5]
  simp [startG, hl]
/-- What the closure adds at the begin. -/
theorem Sg1.more {T : Nat × Nat → Bool} {l : List (Nat × Nat)} {left : Nat → Bool} {q c2 : Nat} {w3 : World} {ed : Ending} (hWF : WF A) (h3 : Below w.heap.size w wx) (h4 : ∀ x, T x = true ↔ x ∈ l) (h5 : ∀ x, x ∈ l ↔ (∃ p, (S p = true ∧ left p = false) ∧ Path A p [] x.1) ∧ x.2 = 0) (h6 : miss (places A.length) T + l.length ≤ 4 * A.length)
    (hz : w.heap.size ≤ wx.heap.size) (hr : w.heap.size ≤ r) (hq : left q = true) (hSq : S q = true) (hqA : q < A.length) (k1 : RangeAt w2 (keyN A.length hN) 4 m r A.length S (fun y => left y && !decide (y = q)) c2) (k3 : wx.grownBy w2 (some r)) (hv : PutRes A hN w.heap.size bs bt (fun k => k = m ∨ k = r) T l q 0 w2 ed w3) : Sg1 A hN S bs bt m r w w3 c2 := by
  obtain ⟨_, ys, v0, v1, v2, v3⟩ := hv
  obtain ⟨i1, i2⟩ := visL_iff ys h4
  have hlt : ∀ (u : List UInt8) (a b : Nat), Path A a u b → a < A.length → b < A.length := fun u a b hp => by
    induction hp with
    | here => exact fun h => h
    | free g1 g2 _ ih => exact fun _ => ih (hWF _ _ g1)
    | byte g1 g2 g3 _ ih => exact fun _ => ih (hWF _ _ g1)
  refine ⟨_, _, _, v1, k1.same (v3 m (.inl rfl)) (v3 r (.inr rfl)), (h3.grown k3 hz (fun k hk => by cases hk; exact hr)).trans v2, i1, fun x => ?_, ?_⟩
  · rw [i2, h5, v0]
    constructor
    · rintro (⟨⟨p, ⟨g1, g2⟩, g3⟩, g4⟩ | ⟨g1, g2⟩)
      · exact ⟨⟨p, ⟨g1, by simp [g2]⟩, g3⟩, g4⟩
      · exact ⟨⟨q, ⟨hSq, by simp⟩, g1⟩, g2⟩
    · rintro ⟨⟨p, ⟨g1, g2⟩, g3⟩, g4⟩
      by_cases e : p = q
      · subst e
        exact .inr ⟨g3, g4⟩
      · simp [e] at g2
        exact .inl ⟨⟨p, ⟨g1, g2⟩, g3⟩, g4⟩
  · rw [visL_miss ys T l (fun y hy => by
      obtain ⟨g1, g2⟩ := (v0 y).1 hy
      exact ⟨hlt _ _ _ g1 hqA, by omega⟩)]
    exact h6
variable {x : Nat × Nat} {pb : Nat} {Y : Nat × Nat → Prop}
theorem ScG.under (h : ScG A hN S bs bt x pb Y w wx g) (hb : Below wx.heap.size wx w2) : ScG A hN S bs bt x pb Y w w2 g := by
  obtain ⟨T, l, h1, h2, h4, h5⟩ := h
  exact ⟨T, l, h1.under hb, h2.under hb, bTrans h4 hb, h5⟩
theorem ScG.weaken (h : ScG A hN S bs bt x pb Y w wx g) {Y' : Nat × Nat → Prop} (hY : ∀ y, Y' y → Y y) : ScG A hN S bs bt x pb Y' w wx g := by
  obtain ⟨T, l, h1, h2, h4, h5, h6, h7⟩ := h
  exact ⟨T, l, h1, h2, h4, h5, fun y hy => h6 y (hY y hy), h7⟩
theorem ScG.below (h : ScG A hN S bs bt x pb Y w wx g) : Below w.heap.size w wx := by
  obtain ⟨T, l, h1, h2, h4, h5⟩ := h
  exact h4
theorem ScG.box (h : ScG A hN S bs bt x pb Y w wx g) : BoxIs wx pb (plBox x) 71 := by
  obtain ⟨T, l, h1, h2, h4, h5⟩ := h
  exact h2
theorem ScG.ok (h : ScG A hN S bs bt x pb Y w wx g) : x.1 < A.length ∧ x.2 ≤ 3 := by
  obtain ⟨T, l, ⟨ms, ga, cap, _, _, ⟨D, _, hok, _⟩, _⟩, _, _, h5, _⟩ := h
  exact hok x h5.this
theorem ScG.finish (h : ScG A hN S bs bt x pb Y w wx g) (hb : ¬ x = (0, 3)) (hY : ∀ y, placeG A x y → Y y) : SrG A hN S bs bt w wx g := by
  obtain ⟨T, l, h1, h2, h4, h5, h6, h7⟩ := h
  exact ⟨T, l, h1.weaken (fun k hk => hk.elim), h4, h5.finish hb (fun y hy => h6 y (hY y hy)), h7⟩
/-- By the first bytes. -/
def byC (A : NetA) (x : Nat × Nat) (ci : Nat) (y : Nat × Nat) : Prop := ∃ (c : UInt8) (d k : Nat), c ≠ 0 ∧ c.toNat < ci ∧ hit A c x.1 d ∧ grownN x.2 c = some k ∧ Path A d [] y.1 ∧ y.2 = k
theorem byC_one {y : Nat × Nat} (h : byC A x 1 y) : False := by
  obtain ⟨c, d, k, h1, h2, _⟩ := h
  exact h1 (UInt8.toNat_inj.1 (show c.toNat = (0 : UInt8).toNat by
    show c.toNat = 0
    omega))
theorem byC_all {y : Nat × Nat} (h : placeG A x y) : byC A x 256 y := by
  obtain ⟨c, d, k, h1, h2⟩ := h
  exact ⟨c, d, k, h1, UInt8.toNat_lt c, h2⟩
theorem byC_succ {cc : UInt8} {y : Nat × Nat} (h : byC A x (cc.toNat + 1) y) : byC A x cc.toNat y ∨ ∃ d k, hit A cc x.1 d ∧ grownN x.2 cc = some k ∧ Path A d [] y.1 ∧ y.2 = k := by
  obtain ⟨c, d, k, h1, h2, h3⟩ := h
  by_cases e : c.toNat = cc.toNat
  · obtain rfl : c = cc := UInt8.toNat_inj.1 e
    exact .inr ⟨d, k, h3⟩
  · exact .inl ⟨c, d, k, h1, by omega, h3⟩
theorem path_lt {u : List UInt8} {p q : Nat} (hWF : WF A) (h : Path A p u q) (hp : p < A.length) : q < A.length := by
  induction h with
  | here => exact hp
  | free g1 g2 _ ih => exact ih (hWF _ _ g1)
  | byte g1 g2 g3 _ ih => exact ih (hWF _ _ g1)
/-- What the closure adds on the way. -/
theorem ScG.put {d k : Nat} {c : UInt8} {T : Nat × Nat → Bool} {l : List (Nat × Nat)} {ed : Ending} {w3 : World} (hWF : WF A) (hc : c ≠ 0) (hd : hit A c x.1 d) (hdA : d < A.length) (hk : grownN x.2 c = some k) (hk3 : k ≤ 3) (h2 : BoxIs wx pb (plBox x) 71) (h4 : Below w.heap.size w wx)
    (h5 : Mid (placeG A) (startG A (fun p => S p = true)) (fun y => y = (0, 3)) T l x) (h6 : ∀ y, byC A x c.toNat y → T y = true) (h7 : miss (places A.length) T + l.length ≤ g) (hone : ∀ d', hit A c x.1 d' → d' = d) (hv : PutRes A hN w.heap.size bs bt (fun j => j = pb) T l d k wx ed w3) : ScG A hN S bs bt x pb (byC A x (c.toNat + 1)) w w3 g := by
  obtain ⟨_, ys, v0, v1, v2, v3⟩ := hv
  refine ⟨_, _, v1, ?_, h4.trans v2, visL_mid ys h5 (fun y hy => ?_), fun y hy => ?_, ?_⟩
  · unfold BoxIs at h2 ⊢
    rw [v3 pb rfl]
    exact h2
  · obtain ⟨g1, g2⟩ := (v0 y).1 hy
    exact ⟨c, d, k, hc, hd, hk, g1, g2⟩
  · rcases byC_succ hy with h | ⟨d', k', g1, g2, g3, g4⟩
    · exact visL_of ys l (h6 y h)
    · rw [hone d' g1] at g3
      rw [hk] at g2
      injection g2 with g2
      exact visL_has ys T l ((v0 y).2 ⟨g3, g4.trans g2.symm⟩)
  · rw [visL_miss ys T l (fun y hy => by
      obtain ⟨g1, g2⟩ := (v0 y).1 hy
      exact ⟨path_lt hWF g1 hdA, by omega⟩)]
    exact h7
/-- The last place is taken off the list. -/
theorem SrG.pop {l' : List (Nat × Nat)} {T : Nat × Nat → Bool} {ms g' cap : Nat} (h1 : BoxIs wx bs #[.map (some ms)] 68) (h2 : BoxIs wx bt #[.slice (some ⟨g', 0, none⟩) (l'.length + 1) cap] 69) (h3 : SetAt wx (keyPR A.length hN) 4 ms (4 * A.length) T)
    (h4 : wx.ownsRow w.heap.size 71 2 (.slice (some ⟨g', 0, none⟩) (l'.length + 1) cap) (l'.length + 1) ((l' ++ [x]).map plCells).flatten) (h5 : w.heap.size ≤ bs) (h6 : w.heap.size ≤ bt) (h7 : w.heap.size ≤ ms) (hb : Below w.heap.size w wx)
    (hwk : Work (placeG A) (startG A (fun p => S p = true)) (fun y => y = (0, 3)) T (l' ++ [x])) (hm : miss (places A.length) T + (l'.length + 1) ≤ g + 1) :
    ScG A hN S bs bt x wx.heap.size (fun _ => False) w ((wx.alloc (.cells (plBox x) 71)).setCell ⟨bt, 0, none⟩ (.slice (some ⟨g', 0, none⟩) l'.length cap)) g := by
  have hty : 68 ≠ 71 ∧ 69 ≠ 71 ∧ 68 ≠ 69 := by decide
  have hb1 : Below wx.heap.size wx (wx.alloc (.cells (plBox x) 71)) := bAlloc (Below.refl _ _) _
  rw [List.map_append, List.flatten_append] at h4
  obtain ⟨h8, _⟩ := stk_pop (ys := ([x].map plCells).flatten) h4 rfl
  obtain ⟨_, gl, cur, hcur⟩ := stk_block h8 rfl
  have k4 : ∀ k, k ≠ bt → ((wx.alloc (.cells (plBox x) 71)).setCell ⟨bt, 0, none⟩ (.slice (some ⟨g', 0, none⟩) l'.length cap)).heap[k]? = (wx.alloc (.cells (plBox x) 71)).heap[k]? := fun k hk => Below.heap_setCell _ _ _ _ (fun e => hk e)
  have nb : bs ≠ bt := notType h1 h2 hty.2.2
  have ng : g' ≠ bt := (notType h2 hcur hty.2.1).symm
  have nm : ms ≠ bt := fun e2 => h3.notCells _ _ _ (e2 ▸ h2)
  have np : wx.heap.size ≠ bt := by have := h2.lt; omega
  refine ⟨T, l', ⟨ms, some ⟨g', 0, none⟩, cap, ?_, ?_, ?_, ?_, h5, h6, h7, fun k hk => ?_⟩, ?_, Below.setCell (bTrans hb hb1) (p := ⟨bt, 0, none⟩) h6 _, hwk.pop, fun y hy => hy.elim, by omega⟩
  · exact (k4 bs nb).trans (h1.under hb1)
  · exact set_box (h2.under hb1)
  · exact h3.same ((k4 ms nm).trans (hb1.block ms h3.lt))
  · refine stk_same h8 (fun k hk => ?_)
    injection hk with hk
    subst hk
    exact (k4 g' ng).trans (hb1.block g' gl)
  · subst hk
    refine ⟨by simp [World.setCell], fun e2 => ?_, np, fun e2 => ?_⟩
    · have := h3.lt
      omega
    · injection e2 with e2
      have e3 : g' = wx.heap.size := e2
      omega
  · exact (k4 _ np).trans (BoxIs.new wx (plBox x) 71)
theorem place_cellsR {l : List (Nat × Nat)} {gb cap B : Nat} (h4 : wx.ownsRow B 71 2 (.slice (some ⟨gb, 0, none⟩) (l.length + 1) cap) (l.length + 1) (((l ++ [x]).map plCells).flatten)) :
    wx.cell? ⟨gb, l.length * 2, none⟩ = some (.int .i64 x.1) ∧ wx.cell? ⟨gb, l.length * 2 + 1, none⟩ = some (.int .i64 x.2) := by
  rw [List.map_append, List.flatten_append] at h4
  obtain ⟨_, h9⟩ := stk_pop (ys := ([x].map plCells).flatten) h4 rfl
  exact ⟨h9 0 _ rfl, h9 1 _ rfl⟩
end
end Go.Proofs.YtnpcbcnclncniaaGreatDoor
namespace Go.Proofs.YtnpcbcnclncniaaGreatDoor
open Go.RowKit

/-- No state has more ways than so many. -/
def EpsB (M : Nat) (A : List GNode) : Prop := ∀ g ∈ A, g.eps.length ≤ M
theorem EpsB.add {M : Nat} {A : List GNode} {g : GNode} (h : EpsB M A) (hg : g.eps.length ≤ M) : EpsB M (A ++ [g]) := fun x hx => by
  rcases List.mem_append.1 hx with hx | hx
  · exact h x hx
  · rw [List.mem_singleton.1 hx]
    exact hg
theorem textG_eps {M : Nat} (T : List UInt8) {A : List GNode} (d : Nat) (h : EpsB M A) : EpsB M (textG T A d).1 := by
  induction T with
  | nil => exact h
  | cons b r ih => exact EpsB.add ih (Nat.zero_le _)
theorem loopG_eps {M : Nat} (hM : 2 ≤ M) (deep : Bool) {A : List GNode} (d : Nat) (h : EpsB M A) : EpsB M (loopG deep A d).1 := fun x hx => by
  unfold loopG at hx
  rcases List.mem_append.1 hx with hx | hx
  · exact h x hx
  · rcases List.mem_cons.1 hx with rfl | hx
    · exact hM
    · rw [List.mem_singleton.1 hx]
      cases deep <;> exact Nat.zero_le _
theorem waysG_eps {α : Type} {M : Nat} (g : Sl α → List GNode → Nat → List GNode × Nat) (d : Nat) : ∀ (ts : List (Sl α)) (A : List GNode) (es : List Nat), (∀ t ∈ ts, ∀ A, EpsB M A → EpsB M (g t A d).1) → EpsB M A → EpsB M (waysG g d ts (A, es)).1 ∧ (waysG g d ts (A, es)).2.length = es.length + ts.length
  | [], A, es, _, hA => ⟨hA, rfl⟩
  | t :: r, A, es, h, hA => by
    obtain ⟨h2, h3⟩ := waysG_eps g d r (g t A d).1 (es ++ [(g t A d).2]) (fun t ht => h t (by simp [ht])) (h t (by simp) A hA)
    have hgo : waysG g d (t :: r) (A, es) = waysG g d r ((g t A d).1, es ++ [(g t A d).2]) := rfl
    rw [hgo]
    rw [List.length_append, List.length_singleton] at h3
    rw [List.length_cons]
    exact ⟨h2, by omega⟩
theorem ways_size {α : Type} (f : α → Nat) : ∀ ts : List (Sl α), ts.length ≤ (ts.map (fun s => 1 + (s.xs.map f).sum)).sum
  | [] => Nat.le_refl _
  | t :: r => by
    have := ways_size f r
    rw [List.map_cons, List.sum_cons, List.length_cons]
    omega
theorem way_size {α : Type} (f : α → Nat) : ∀ (ts : List (Sl α)), ∀ t ∈ ts, (t.xs.map f).sum ≤ (ts.map (fun s => 1 + (s.xs.map f).sum)).sum
  | [], t, h => by cases h
  | s :: r, t, h => by
    rw [List.map_cons, List.sum_cons]
    rcases List.mem_cons.1 h with rfl | h
    · omega
    · have := way_size f r t h
      omega
theorem partG_eps {n M : Nat} {f : P n → Nat} {g : Sl (P n) → List GNode → Nat → List GNode × Nat} {p : PartOf (P n)} (hM : 2 ≤ M) (hp : szOf f p ≤ M) (hg : ∀ t ∈ p.ways.xs, ∀ A d, EpsB M A → EpsB M (g t A d).1) {A : List GNode} (d : Nat) (h : EpsB M A) : EpsB M (partG g p A d).1 := by
  unfold partG
  unfold szOf at hp
  by_cases h1 : p.kind = 1
  · rw [if_pos h1]
    exact textG_eps _ d h
  rw [if_neg h1]
  by_cases h3 : p.kind = 3 ∨ p.kind = 4
  · rw [if_pos h3]
    exact loopG_eps hM _ d h
  rw [if_neg h3]
  by_cases h6 : p.kind = 6
  · rw [if_pos h6]
    obtain ⟨h7, h8⟩ := waysG_eps g d p.ways.xs A [] (fun t ht A hA => hg t ht A d hA) h
    refine EpsB.add h7 ?_
    have := ways_size f p.ways.xs
    show (waysG g d p.ways.xs (A, [])).2.length ≤ M
    rw [h8, List.length_nil]
    omega
  · rw [if_neg h6]
    exact EpsB.add h (Nat.zero_le _)
theorem listG_eps {M : Nat} (hM : 2 ≤ M) : ∀ (n : Nat) (xs : List (P n)) (A : List GNode) (d : Nat), szL n xs ≤ M → EpsB M A → EpsB M (listG n xs A d).1
  | 0, xs, A, d, _, h => h
  | n + 1, xs, A, d, hz, h => by
    induction xs with
    | nil => exact h
    | cons p r ih =>
      have h2 : szL (n + 1) (p :: r) = szOf (sz n) (pt n p) + szL (n + 1) r := rfl
      rw [h2] at hz
      refine partG_eps (p := pt n p) (f := sz n) (g := fun t => listG n t.xs) hM (by omega) (fun t ht A d hA => listG_eps hM n t.xs A d ?_ hA) _ (ih (by omega))
      have h4 := way_size (sz n) (pt n p).ways.xs t ht
      have h5 : szOf (sz n) (pt n p) = 1 + (pt n p).text.size + (pt n p).rg.xs.length + ((pt n p).ways.xs.map (fun s => 1 + (s.xs.map (sz n)).sum)).sum := rfl
      have h6 : szL n t.xs = (t.xs.map (sz n)).sum := rfl
      omega
theorem tailG_eps (dirs : Bool) : EpsB 2 (tailG dirs).1 := by
  intro g hg
  cases dirs with
  | false =>
    rw [List.mem_singleton.1 hg]
    decide
  | true =>
    have : ∀ g ∈ (tailG true).1, g.eps.length ≤ 2 := by
      intro g hg
      simp only [tailG, loopG, if_true, List.mem_append, List.mem_cons, List.not_mem_nil, or_false, List.append_assoc, List.cons_append, List.nil_append, deadG, anyG, byteG] at hg
      rcases hg with rfl | rfl | rfl | rfl | rfl <;> decide
    exact this g hg
theorem tailG_len (dirs : Bool) : (tailG dirs).1.length ≤ 5 := by
  cases dirs <;> decide
theorem wholeG_small (rooted dirs : Bool) (n : Nat) (xs : List (P n)) : (wholeG rooted dirs n xs).1.length ≤ 10 + 2 * szL n xs ∧ EpsB (2 + szL n xs) (wholeG rooted dirs n xs).1 := by
  have h1 := listG_len n xs (tailG dirs).1 (tailG dirs).2
  have h2 := tailG_len dirs
  have h3 := listG_eps (M := 2 + szL n xs) (by omega) n xs (tailG dirs).1 (tailG dirs).2 (by omega) (fun g hg => by have := tailG_eps dirs g hg; omega)
  cases rooted with
  | true => exact ⟨by show (listG n xs (tailG dirs).1 (tailG dirs).2).1.length ≤ _; omega, h3⟩
  | false =>
    unfold wholeG
    rw [if_neg (by decide)]
    generalize listG n xs (tailG dirs).1 (tailG dirs).2 = L at *
    unfold frontG
    refine ⟨?_, EpsB.add (loopG_eps (by omega) _ _ (EpsB.add h3 (Nat.zero_le _))) (by show 2 ≤ _; omega)⟩
    unfold loopG
    simp only [List.length_append, List.length_cons, List.length_nil]
    omega

theorem run_addS (a b : ByteArray) (W : World) (h : a.size + b.size ≤ 100000000) : (Op.stringOp .add a b).run Tryz.prog W = .ok (.string ⟨(a.data.toList ++ b.data.toList).toArray⟩) W := by
  rw [run_string_add_sum W _ _ (by omega)]
  congr 2

/-- What stands in the text's loop: the states behind the first bytes. -/
def GTxt (A : NetA) (hN : A.length ≤ 9223372036854775808) (st : Nat) (D : List UInt8) (m k : Nat) (w wx : World) : Prop :=
  w.heap.size ≤ m ∧ ∃ T : Nat → Bool, SetAt wx (keyN A.length hN) 4 m A.length T ∧ Below w.heap.size w wx ∧ ∀ q, T q = true ↔ Path A st (D.take k) q
theorem Stpg.next {A : NetA} {hN : A.length ≤ 9223372036854775808} {S T T0 left : Nat → Bool} {m m1 r s cnt : Nat} {c : UInt8} {w wx : World} (h1 : SetAt wx (keyN A.length hN) 4 m1 A.length T) (h2 : RangeAt wx (keyN A.length hN) 4 m r A.length S (fun y => left y && !decide (y = s)) cnt) (h3 : Below w.heap.size w wx)
    (h0 : ∀ q, T0 q = true ↔ ∃ p, (S p = true ∧ left p = false) ∧ hit A c p q) (hT : ∀ q, T q = true ↔ T0 q = true ∨ hit A c s q) (hS : S s = true) : Stpg A hN S c m r m1 w wx cnt := by
  refine ⟨T, _, h1, h2, h3, fun q => ?_⟩
  rw [hT, h0]
  constructor
  · rintro (⟨p, ⟨h5, h6⟩, h7⟩ | h)
    · exact ⟨p, ⟨h5, by simp [h6]⟩, h7⟩
    · exact ⟨s, ⟨hS, by simp⟩, h⟩
  · rintro ⟨p, ⟨h5, h6⟩, h7⟩
    by_cases e : p = s
    · subst e
      exact .inr h7
    · simp [e] at h6
      exact .inl ⟨p, ⟨h5, h6⟩, h7⟩
/-- The search's memory, made. -/
def someWR (w : World) : World := ((w.alloc (.map #[] 0)).alloc (.cells #[.map (some w.heap.size)] 68)).alloc (.cells #[.slice none 0 0] 69)
theorem some_startR {N : Nat} {hN : N ≤ 9223372036854775808} (w : World) : SomeStR N hN w.heap.size (w.heap.size + 1) (w.heap.size + 1 + 1) (fun _ => False) (someWR w) (fun _ => false) [] ∧ Below w.heap.size w (someWR w) ∧ (someWR w).heap.size = w.heap.size + 1 + 1 + 1 := by
  have e1 : (w.alloc (.map #[] 0)).heap.size = w.heap.size + 1 := by simp
  have e2 : ((w.alloc (.map #[] 0)).alloc (.cells #[.map (some w.heap.size)] 68)).heap.size = w.heap.size + 1 + 1 := by simp
  have b2 : Below (w.alloc (.map #[] 0)).heap.size (w.alloc (.map #[] 0)) ((w.alloc (.map #[] 0)).alloc (.cells #[.map (some w.heap.size)] 68)) := bAlloc (Below.refl _ _) _
  have b3 : Below ((w.alloc (.map #[] 0)).alloc (.cells #[.map (some w.heap.size)] 68)).heap.size ((w.alloc (.map #[] 0)).alloc (.cells #[.map (some w.heap.size)] 68)) (someWR w) := bAlloc (Below.refl _ _) _
  have b1 : Below w.heap.size w (w.alloc (.map #[] 0)) := bAlloc (Below.refl _ _) _
  have h1 := BoxIs.new (w.alloc (.map #[] 0)) #[.map (some w.heap.size)] 68
  have h2 := BoxIs.new ((w.alloc (.map #[] 0)).alloc (.cells #[.map (some w.heap.size)] 68)) #[.slice none 0 0] 69
  rw [e1] at h1
  rw [e2] at h2
  have hs : SetAt (w.alloc (.map #[] 0)) (keyPR N hN) 4 w.heap.size 0 (fun _ => false) := SetAt.made w _ _
  refine ⟨⟨w.heap.size, none, 0, h1.under b3, h2, ?_, World.ownsRow_nil _ _ _ _, by omega, by omega, Nat.le_refl _, fun k hk => hk.elim⟩, bTrans b1 (bTrans b2 b3), ?_⟩
  · have h9 := (hs.same ((b3.block _ (by rw [e2]; omega)).trans (b2.block _ hs.lt)) (w' := someWR w)).few keyedPlaceR (places N) (fun a ha => places_mem ha)
    rwa [places_len] at h9
  · simp [someWR]

theorem SomeStR.hold {N : Nat} {hN : N ≤ 9223372036854775808} {B bs bt j : Nat} {X : Nat → Prop} {wx : World} {T : Nat × Nat → Bool} {l : List (Nat × Nat)} (h : SomeStR N hN B bs bt X wx T l) (hj : j < B) : SomeStR N hN B bs bt (fun k => X k ∨ k = j) wx T l := by
  obtain ⟨ms, ga, cap, h1, h2, h3, h4, h5, h6, h7, h8⟩ := h
  refine ⟨ms, ga, cap, h1, h2, h3, h4, h5, h6, h7, fun k hk => ?_⟩
  rcases hk with hk | rfl
  · exact h8 k hk
  · have := h2.lt
    refine ⟨by omega, by omega, by omega, fun e => ?_⟩
    have := (stk_block h4 e).1
    omega
theorem miss_none (N : Nat) : miss (places N) (fun _ => false) ≤ 4 * N := by
  rw [← places_len]
  exact miss_le _ _
end Go.Proofs.YtnpcbcnclncniaaGreatDoor
namespace Go.Proofs.YtnpcbcnclncniaaGreatDoor
open Go.RowKit

/-- A new automaton. -/
theorem GAt.new {X : Nat → Prop} {w0 w : World} (hb : Below w0.heap.size w0 w) {b : Nat} (h : BoxIs w b #[.slice none 0 0] 57) (h0 : w0.heap.size ≤ b) : GAt X w0 w b [] [] :=
  ⟨none, 0, h0, hb, h, rfl, World.ownsRow_nil _ _ _ _, fun i g r h1 _ => by cases h1⟩

theorem intTwo (w : World) (base : Nat) (hz : base ≤ w.heap.size) (q r : Nat) : (w.alloc (.cells #[.int .i64 q, .int .i64 r] 3)).ownsRow base 3 1 (.slice (some ⟨w.heap.size, 0, none⟩) 2 2) 2 [vN q, vN r] :=
  ⟨rfl, .inr ⟨w.heap.size, 2, #[.int .i64 q, .int .i64 r], rfl, hz, heap_alloc_new w _, Nat.le_refl _, by unfold maxLen; omega, rfl, rfl⟩⟩
theorem glob_gTy : ¬ gTy 24 := by
  unfold gTy
  decide

set_option maxHeartbeats 8000000 in
set_option maxRecDepth 100000 in
theorem refGlobBelow_any (n : Nat) (x : Sl (P n)) (rooted dirs : Bool) (s : ByteArray) (w : World) (hs : SOk w n x) (hg : Good n x.xs) (hz : szL n x.xs ≤ 1048576) (hsz : s.size ≤ 100000) (hno : ∀ c ∈ s.data.toList, c ≠ 0) :
    Calls Tryz.prog 9 #[globVal rooted dirs x, .string s] w (BoolRes (RefBelowP rooted dirs n x.xs s.data.toList) w) := by
  have hb1 := bAlloc (bAlloc (bAlloc (Below.refl w.heap.size w) (.cells (globArr rooted dirs x) 24)) (.cells #[.slice none 0 0] 57)) (.cells #[.pointer (some ⟨w.heap.size + 1, 0, none⟩)] 54)
  have hBG := (BoxIs.new w (globArr rooted dirs x) 24).under (bAlloc (bAlloc (Below.refl _ _) (.cells #[.slice none 0 0] 57)) (.cells #[.pointer (some ⟨w.heap.size + 1, 0, none⟩)] 54))
  have hBB := (BoxIs.new (w.alloc (.cells (globArr rooted dirs x) 24)) #[.slice none 0 0] 57).under (bAlloc (Below.refl _ _) (.cells #[.pointer (some ⟨w.heap.size + 1, 0, none⟩)] 54))
  have hBA := BoxIs.new ((w.alloc (.cells (globArr rooted dirs x) 24)).alloc (.cells #[.slice none 0 0] 57)) #[.pointer (some ⟨w.heap.size + 1, 0, none⟩)] 54
  have e1 : (w.alloc (.cells (globArr rooted dirs x) 24)).heap.size = w.heap.size + 1 := by simp
  have e2 : ((w.alloc (.cells (globArr rooted dirs x) 24)).alloc (.cells #[.slice none 0 0] 57)).heap.size = w.heap.size + 1 + 1 := by simp
  rw [e1] at hBB
  rw [e2] at hBA
  have HG1 : Hid (GAt (fun _ => False) w _ (w.heap.size + 1) [] []) := Lib.hid (GAt.new hb1 hBB (by omega))
  have HBG1 := Lib.hid hBG
  have HBA1 := Lib.hid hBA
  have HGw := Lib.hid (And.intro hs (And.intro hg hz))
  have hmm := @run_makeMap Tryz.prog
  clear hb1 hBG hBB hBA e1 e2 hs
  go_enter Tryz.func9, Tryz.ntmps9
  go_upto_region 2 with fail
  generalize ((w.alloc _).alloc _).alloc _ = W1 at *
  generalize hba : w.heap.size + 1 + 1 = ba at *
  generalize hb : w.heap.size + 1 = b at *
  obtain ⟨bG, hbG⟩ : ∃ bG, w.heap.size = bG := ⟨_, rfl⟩
  rw [hbG] at HBG1 ⊢
  have HAd := Lib.hid (fun (W : World) (A : List GNode) (rows : List (List Value)) (g : GNode) (r0 r1 r2 r3 : Value) (h : GAt (fun _ => False) w W b A rows) (hn : NodeAt (fun _ => False) w W g [r0, r1, r2, r3]) (hl : A.length ≤ 100000000) => add_any W h g r0 r1 r2 r3 hn hl)
  have hnode : ∀ (W : World) (c : Int) (d : Nat), NodeAt (fun _ => False) w W ⟨[], none, c, d⟩ [.slice none 0 0, .pointer none, .int .i64 c, .int .i64 d] := fun W c d => ⟨none, 0, none, rfl, World.ownsRow_nil _ _ _ _, rfl, fun x hx => by cases hx⟩
  have HNd := Lib.hid hnode
  have HA1 : Hid (Calls Tryz.prog 26 #[.pointer (some ⟨b, 0, none⟩), .agg #[.slice none 0 0, .pointer none, .int .i64 0, .int .i64 0]] W1 fun e w' => e = .returned (.int .i64 0) ∧ (∃ rows, GAt (fun _ => False) w w' b [deadG] rows) ∧ GKept W1 w') := Lib.hid ((HAd.out W1 [] [] deadG _ _ _ _ HG1.out (hnode W1 0 0) (by decide)).mono (fun e w' h => ⟨h.1, ⟨_, h.2.1⟩, h.2.2⟩))
  have ca := HBA1.out.cell (j := 0) rfl
  clear hnode HG1 hba hb
  go_upto_if 28 with (go_at_call 26; refine HA1.out.mono ?_; rintro e w2 ⟨rfl, hg2, hk2⟩; have HSt2 := Lib.hid (And.intro hg2 (And.intro (HBG1.out.gkept hk2 glob_gTy) (HBA1.out.gkept hk2 ptr_gTy))); have k1 := HSt2.out.2.1.cell (j := 1) rfl; clear hg2 hk2 HA1 HBG1 HBA1 ca)
  go_cut [7] (fun s7 wx => s7 = .int .i64 (tailG dirs).2 ∧ Hid ((∃ rows, GAt (fun _ => False) w wx b (tailG dirs).1 rows) ∧ BoxIs wx bG (globArr rooted dirs x) 24 ∧ BoxIs wx ba #[.pointer (some ⟨b, 0, none⟩)] 54))
  case first =>
    cases dirs with
    | false =>
      go_wp2_with fail
      go_meet
      exact ⟨rfl, HSt2⟩
    | true =>
      obtain ⟨rows2, hG2⟩ := HSt2.out.1
      have HBA2 := Lib.hid (HSt2.out.2.2.under (drB0 (Below.refl _ _)))
      have HS0 := Lib.hid (HBA2.out.cell (j := 0) rfl)
      have HL5 : Hid (Calls Tryz.prog 27 #[.pointer (some ⟨b, 0, none⟩), .int .i64 0, .bool true] w2.drew fun e w' => e = .returned (.int .i64 1) ∧ (∃ rows', GAt (fun _ => False) w w' b (loopG true [deadG] 0).1 rows') ∧ GKept w2.drew w') := Lib.hid (loop_any w2.drew (hG2.under (drB0 (Below.refl _ _))) 0 true (by decide) (fun k hk => hk.elim))
      have HAdd := Lib.hid (fun (w5 : World) (rows5 : List (List Value)) (hg5 : GAt (fun _ => False) w w5 b (loopG true [deadG] 0).1 rows5) => (HAd.out w5 _ rows5 (anyG 1) (.slice none 0 0) (.pointer none) (.int .i64 (-1)) (.int .i64 1) hg5 (HNd.out w5 (-1) 1) (by decide) : Calls Tryz.prog 26 #[.pointer (some ⟨b, 0, none⟩), .agg #[.slice none 0 0, .pointer none, .int .i64 (-1), .int .i64 1]] w5 fun e w' => e = .returned (.int .i64 3) ∧ GAt (fun _ => False) w w' b ((loopG true [deadG] 0).1 ++ [anyG 1]) (rows5 ++ [[.slice none 0 0, .pointer none, .int .i64 (-1), .int .i64 1]]) ∧ GKept w5 w'))
      have HAdd6 := Lib.hid (fun (w5 : World) (rows5 : List (List Value)) (hg5 : GAt (fun _ => False) w w5 b ((loopG true [deadG] 0).1 ++ [anyG 1]) rows5) => (HAd.out w5 _ rows5 (byteG 47 3) (.slice none 0 0) (.pointer none) (.int .i64 47) (.int .i64 3) hg5 (HNd.out w5 47 3) (by decide) : Calls Tryz.prog 26 #[.pointer (some ⟨b, 0, none⟩), .agg #[.slice none 0 0, .pointer none, .int .i64 47, .int .i64 3]] w5 fun e w' => e = .returned (.int .i64 4) ∧ GAt (fun _ => False) w w' b (tailG true).1 (rows5 ++ [[.slice none 0 0, .pointer none, .int .i64 47, .int .i64 3]]) ∧ GKept w5 w'))
      have HBGd := Lib.hid (HSt2.out.2.1.under (drB0 (Below.refl w2.heap.size w2)))
      clear hG2 HSt2
      go_upto_region 5 with fail
      refine wp_region_seq (fun W => W.cell? ⟨ba, 0, none⟩ = some (.pointer (some ⟨b, 0, none⟩))) [(0, true), (1, true), (2, true), (3, false), (4, true), (5, false), (6, true)] (by as_aux_lemma => kernel_rfl) (by as_aux_lemma => kernel_rfl) (by decide) (by as_aux_lemma => kernel_rfl) (HS0.out) ?_
      intro OPS HO
      refine seq_take (o := ⟨_, _, _, _, _, _⟩) (v := ?_) (by rw [HO.out]; rfl) (by rfl) ?_ ?_
      rotate_left 1
      · first | ((intro W _; go_simp) <;> with_reducible rfl) | (intro W hW; have s0 := hW; (go_simp <;> with_reducible rfl))
      try simp only [Act.put, List.setIfInBounds_toArray, List.set_cons_zero, List.set_cons_succ]
      refine seq_take (o := ⟨_, _, _, _, _, _⟩) (v := ?_) (by rw [HO.out]; rfl) (by rfl) ?_ ?_
      rotate_left 1
      · first | ((intro W _; go_simp) <;> with_reducible rfl) | (intro W hW; have s0 := hW; (go_simp <;> with_reducible rfl))
      try simp only [Act.put, List.setIfInBounds_toArray, List.set_cons_zero, List.set_cons_succ]
      refine seq_take (o := ⟨_, _, _, _, _, _⟩) (v := ?_) (by rw [HO.out]; rfl) (by rfl) ?_ ?_
      rotate_left 1
      · first | ((intro W _; go_simp) <;> with_reducible rfl) | (intro W hW; have s0 := hW; (go_simp <;> with_reducible rfl))
      try simp only [Act.put, List.setIfInBounds_toArray, List.set_cons_zero, List.set_cons_succ]
      refine seq_do (o := ⟨_, _, _, _, _, _⟩) (by rw [HO.out]; rfl) (by rfl) (fun K hK => ?_)
      go_wp2_with (go_at_call 27; refine HL5.out.mono ?_; rintro e w5 ⟨rfl, ⟨rows5, hg5⟩, hk5⟩; have H5 := Lib.hid (And.intro hg5 hk5); have hS := (HBA2.out.gkept hk5 ptr_gTy).cell (j := 0) rfl; have HA5 := Lib.hid (HAdd.out w5 rows5 hg5); clear hg5 hk5 HL5)
      refine hK.out _ _ hS (fun _ => ?_)
      clear hK K
      try simp only [Act.put, List.setIfInBounds_toArray, List.set_cons_zero, List.set_cons_succ]
      refine seq_take (o := ⟨_, _, _, _, _, _⟩) (v := ?_) (by rw [HO.out]; rfl) (by rfl) ?_ ?_
      rotate_left 1
      · first | ((intro W _; go_simp) <;> with_reducible rfl) | (intro W hW; have s0 := hW; (go_simp <;> with_reducible rfl))
      try simp only [Act.put, List.setIfInBounds_toArray, List.set_cons_zero, List.set_cons_succ]
      refine seq_do (o := ⟨_, _, _, _, _, _⟩) (by rw [HO.out]; rfl) (by rfl) (fun K hK => ?_)
      go_wp2_with (go_at_call 26; refine HA5.out.mono ?_; rintro e w6 ⟨rfl, hg6, hk6⟩; have H6 := Lib.hid (And.intro hg6 (H5.out.2.trans hk6)); replace hS := (HBA2.out.gkept H6.out.2 ptr_gTy).cell (j := 0) rfl; clear hg6 hk6 HA5 H5)
      refine hK.out _ _ hS (fun _ => ?_)
      clear hK K
      try simp only [Act.put, List.setIfInBounds_toArray, List.set_cons_zero, List.set_cons_succ]
      refine seq_take (o := ⟨_, _, _, _, _, _⟩) (v := ?_) (by rw [HO.out]; rfl) (by rfl) ?_ ?_
      rotate_left 1
      · first | ((intro W _; go_simp) <;> with_reducible rfl) | (intro W hW; have s0 := hW; (go_simp <;> with_reducible rfl))
      try simp only [Act.put, List.setIfInBounds_toArray, List.set_cons_zero, List.set_cons_succ]
      refine seq_done ?_
      clear HO OPS
      have HA6 := Lib.hid (HAdd6.out _ _ H6.out.1)
      go_wp2_with (go_at_call 26; refine HA6.out.mono ?_; rintro e w7 ⟨rfl, hg7, hk7⟩; have H7 := Lib.hid (And.intro (show ∃ rows, GAt (fun _ => False) w w7 b (tailG true).1 rows from ⟨_, hg7⟩) (H6.out.2.trans hk7)); clear hg7 hk7 HA6 hS k1)
      go_meet
      exact ⟨rfl, Lib.hid ⟨H7.out.1, HBGd.out.gkept H7.out.2 glob_gTy, HBA2.out.gkept H7.out.2 ptr_gTy⟩⟩
  case rest =>
  obtain ⟨rfl, H3⟩ := hcut
  obtain ⟨rows3, hG3⟩ := H3.out.1
  have hT := tailG_len dirs
  have HB : Hid (Calls Tryz.prog 28 #[.pointer (some ⟨b, 0, none⟩), x.val, .int .i64 (tailG dirs).2] wc fun e w' => e = .returned (.int .i64 (listG n x.xs (tailG dirs).1 (tailG dirs).2).2) ∧ (∃ rows', GAt (fun _ => False) w w' b (listG n x.xs (tailG dirs).1 (tailG dirs).2).1 rows') ∧ GKept wc w') := Lib.hid (build_ok n (fun _ => False) w wc b (tailG dirs).1 rows3 (tailG dirs).2 x hG3 (fun k hk => hk.elim) HGw.out.1 HGw.out.2.1 ⟨by omega, hz⟩)
  have hLl := listG_len n x.xs (tailG dirs).1 (tailG dirs).2
  have HWh : Hid ((wholeG true dirs n x.xs) = (listG n x.xs (tailG dirs).1 (tailG dirs).2) ∧ (wholeG false dirs n x.xs) = frontG (listG n x.xs (tailG dirs).1 (tailG dirs).2).1 (listG n x.xs (tailG dirs).1 (tailG dirs).2).2) := Lib.hid ⟨rfl, rfl⟩
  have HGwd := HGw
  clear hG3
  generalize hL4 : listG n x.xs (tailG dirs).1 (tailG dirs).2 = L4 at *
  obtain ⟨A4, d4⟩ := L4
  dsimp only at HB hLl HWh
  have k0 := H3.out.2.2.cell (j := 0) rfl
  have k2 := H3.out.2.1.cell (j := 2) rfl
  have HA4 : Hid (A4.length ≤ 40000000) := Lib.hid (by omega)
  clear hT hLl hL4
  generalize (tailG dirs).2 = td at *
  go_upto_if 46 with (go_at_call 28; refine HB.out.mono ?_; rintro e w4 ⟨rfl, hg4, hk4⟩; have HSt4 := Lib.hid (And.intro hg4 (And.intro (H3.out.2.1.gkept hk4 glob_gTy) (H3.out.2.2.gkept hk4 ptr_gTy))); have k1 := HSt4.out.2.1.cell (j := 0) rfl; clear hg4 hk4 HB H3 k0 k2)
  go_cut [8] (fun s8 wx => s8 = .int .i64 (wholeG rooted dirs n x.xs).2 ∧ Hid ((∃ rows, GAt (fun _ => False) w wx b (wholeG rooted dirs n x.xs).1 rows) ∧ BoxIs wx ba #[.pointer (some ⟨b, 0, none⟩)] 54))
  case first =>
    cases rooted with
    | true =>
      go_wp2_with fail
      go_meet
      rw [HWh.out.1]
      exact ⟨rfl, Lib.hid ⟨HSt4.out.1, HSt4.out.2.2⟩⟩
    | false =>
      obtain ⟨rows4, hG4⟩ := HSt4.out.1
      have HBA8 := Lib.hid (HSt4.out.2.2.under (drB0 (Below.refl w4.heap.size w4)))
      have HS0 := Lib.hid (HBA8.out.cell (j := 0) rfl)
      have HA9 : Hid (Calls Tryz.prog 26 #[.pointer (some ⟨b, 0, none⟩), .agg #[.slice none 0 0, .pointer none, .int .i64 47, .int .i64 d4]] w4.drew fun e w' => e = .returned (.int .i64 A4.length) ∧ (∃ rows, GAt (fun _ => False) w w' b (A4 ++ [byteG 47 d4]) rows) ∧ GKept w4.drew w') := Lib.hid ((HAd.out w4.drew A4 rows4 (byteG 47 d4) _ _ _ _ (hG4.under (drB0 (Below.refl _ _))) (HNd.out _ 47 d4) (by have := HA4.out; omega)).mono (fun e w' h => ⟨h.1, ⟨_, h.2.1⟩, h.2.2⟩))
      obtain ⟨B1, hB1⟩ : ∃ B1, (A4 ++ [byteG 47 d4]).length = B1 := ⟨_, rfl⟩
      obtain ⟨B0, hB0⟩ : ∃ B0, A4.length = B0 := ⟨_, rfl⟩
      obtain ⟨B2, hB2⟩ : ∃ B2, (loopG true (A4 ++ [byteG 47 d4]) B0).1.length = B2 := ⟨_, rfl⟩
      have HFr : Hid (frontG A4 d4 = ((loopG true (A4 ++ [byteG 47 d4]) B0).1 ++ [⟨[d4, B1], none, 0, 0⟩], B2)) := Lib.hid (by subst hB1 hB0 hB2; rfl)
      have hb2 : B2 ≤ 50000000 := by
        rw [← hB2]
        unfold loopG
        rw [List.length_append, List.length_append]
        have := HA4.out
        simp only [List.length_cons, List.length_nil]
        omega
      have HLoop := Lib.hid (fun (W : World) (rows : List (List Value)) (h : GAt (fun _ => False) w W b (A4 ++ [byteG 47 d4]) rows) => (by
        have := loop_any W h B0 true (by have := HA4.out; rw [List.length_append, List.length_singleton]; omega) (fun k hk => hk.elim)
        rwa [hB1] at this : Calls Tryz.prog 27 #[.pointer (some ⟨b, 0, none⟩), .int .i64 B0, .bool true] W fun e w' => e = .returned (.int .i64 B1) ∧ (∃ rows', GAt (fun _ => False) w w' b (loopG true (A4 ++ [byteG 47 d4]) B0).1 rows') ∧ GKept W w'))
      have HEps := Lib.hid (fun (W : World) (rows : List (List Value)) (h : GAt (fun _ => False) w W b (loopG true (A4 ++ [byteG 47 d4]) B0).1 rows) (hk : GKept w4.drew W) => (by
        have h1 := bAlloc (Below.refl W.heap.size W) (.cells #[.int .i64 d4, .int .i64 B1] 3)
        have := add_any (W.alloc (.cells #[.int .i64 d4, .int .i64 B1] 3)) (h.under h1) ⟨[d4, B1], none, 0, 0⟩ (.slice (some ⟨W.heap.size, 0, none⟩) 2 2) (.pointer none) (.int .i64 0) (.int .i64 0) ⟨some ⟨W.heap.size, 0, none⟩, 2, none, rfl, intTwo W _ h.below.size d4 B1, rfl, fun x hx hX => hX.elim⟩ (by omega)
        rw [hB2] at this
        exact this.mono (fun e w' h => ⟨h.1, ⟨_, h.2.1⟩, hk.trans ((GKept.below h1).trans h.2.2)⟩) : Calls Tryz.prog 26 #[.pointer (some ⟨b, 0, none⟩), .agg #[.slice (some ⟨W.heap.size, 0, none⟩) 2 2, .pointer none, .int .i64 0, .int .i64 0]] (W.alloc (.cells #[.int .i64 d4, .int .i64 B1] 3)) fun e w' => e = .returned (.int .i64 B2) ∧ (∃ rows', GAt (fun _ => False) w w' b ((loopG true (A4 ++ [byteG 47 d4]) B0).1 ++ [⟨[d4, B1], none, 0, 0⟩]) rows') ∧ GKept w4.drew w'))
      rw [hB0] at HA9
      clear hG4 hB0 hB1 hB2 HAd
      go_upto_region 9 with fail
      refine wp_region_seq (fun W => W.cell? ⟨ba, 0, none⟩ = some (.pointer (some ⟨b, 0, none⟩))) [(0, true), (1, true), (2, true), (3, true), (4, true), (5, true), (6, false), (7, false), (8, false), (9, true), (10, false), (11, true)] (by as_aux_lemma => kernel_rfl) (by as_aux_lemma => kernel_rfl) (by decide) (by as_aux_lemma => kernel_rfl) (HS0.out) ?_
      intro OPS HO
      refine seq_take (o := ⟨_, _, _, _, _, _⟩) (v := ?_) (by rw [HO.out]; rfl) (by rfl) ?_ ?_
      rotate_left 1
      · first | ((intro W _; go_simp) <;> with_reducible rfl) | (intro W hW; have s0 := hW; (go_simp <;> with_reducible rfl))
      try simp only [Act.put, List.setIfInBounds_toArray, List.set_cons_zero, List.set_cons_succ]
      refine seq_take (o := ⟨_, _, _, _, _, _⟩) (v := ?_) (by rw [HO.out]; rfl) (by rfl) ?_ ?_
      rotate_left 1
      · first | ((intro W _; go_simp) <;> with_reducible rfl) | (intro W hW; have s0 := hW; (go_simp <;> with_reducible rfl))
      try simp only [Act.put, List.setIfInBounds_toArray, List.set_cons_zero, List.set_cons_succ]
      refine seq_take (o := ⟨_, _, _, _, _, _⟩) (v := ?_) (by rw [HO.out]; rfl) (by rfl) ?_ ?_
      rotate_left 1
      · first | ((intro W _; go_simp) <;> with_reducible rfl) | (intro W hW; have s0 := hW; (go_simp <;> with_reducible rfl))
      try simp only [Act.put, List.setIfInBounds_toArray, List.set_cons_zero, List.set_cons_succ]
      refine seq_take (o := ⟨_, _, _, _, _, _⟩) (v := ?_) (by rw [HO.out]; rfl) (by rfl) ?_ ?_
      rotate_left 1
      · first | ((intro W _; go_simp) <;> with_reducible rfl) | (intro W hW; have s0 := hW; (go_simp <;> with_reducible rfl))
      try simp only [Act.put, List.setIfInBounds_toArray, List.set_cons_zero, List.set_cons_succ]
      refine seq_take (o := ⟨_, _, _, _, _, _⟩) (v := ?_) (by rw [HO.out]; rfl) (by rfl) ?_ ?_
      rotate_left 1
      · first | ((intro W _; go_simp) <;> with_reducible rfl) | (intro W hW; have s0 := hW; (go_simp <;> with_reducible rfl))
      try simp only [Act.put, List.setIfInBounds_toArray, List.set_cons_zero, List.set_cons_succ]
      refine seq_take (o := ⟨_, _, _, _, _, _⟩) (v := ?_) (by rw [HO.out]; rfl) (by rfl) ?_ ?_
      rotate_left 1
      · first | ((intro W _; go_simp) <;> with_reducible rfl) | (intro W hW; have s0 := hW; (go_simp <;> with_reducible rfl))
      try simp only [Act.put, List.setIfInBounds_toArray, List.set_cons_zero, List.set_cons_succ]
      refine seq_do (o := ⟨_, _, _, _, _, _⟩) (by rw [HO.out]; rfl) (by rfl) (fun K hK => ?_)
      go_wp2_with (go_at_call 26; refine HA9.out.mono ?_; rintro e w5 ⟨rfl, ⟨rows5, hg5⟩, hk5⟩; have H5 := Lib.hid (And.intro hg5 hk5); have hS := (HBA8.out.gkept hk5 ptr_gTy).cell (j := 0) rfl; have HL9 := Lib.hid (HLoop.out w5 _ hg5); clear hg5 hk5 HA9)
      refine hK.out _ _ hS (fun _ => ?_)
      clear hK K
      try simp only [Act.put, List.setIfInBounds_toArray, List.set_cons_zero, List.set_cons_succ]
      refine seq_do (o := ⟨_, _, _, _, _, _⟩) (by rw [HO.out]; rfl) (by rfl) (fun K hK => ?_)
      go_wp2_with (go_at_call 27; refine HL9.out.mono ?_; rintro e w6 ⟨rfl, ⟨rows6, hg6⟩, hk6⟩; have H6 := Lib.hid (And.intro hg6 (H5.out.2.trans hk6)); replace hS := (HBA8.out.gkept H6.out.2 ptr_gTy).cell (j := 0) rfl; clear hg6 hk6 HL9 H5)
      refine hK.out _ _ hS (fun _ => ?_)
      clear hK K
      try simp only [Act.put, List.setIfInBounds_toArray, List.set_cons_zero, List.set_cons_succ]
      refine seq_do (o := ⟨_, _, _, _, _, _⟩) (by rw [HO.out]; rfl) (by rfl) (fun K hK => ?_)
      go_wp2_with fail
      have H7 := Lib.hid (HEps.out w6 rows6 H6.out.1 H6.out.2)
      replace hS := ((HBA8.out.gkept H6.out.2 ptr_gTy).under (bAlloc (Below.refl _ _) (.cells #[.int .i64 d4, .int .i64 B1] 3))).cell (j := 0) rfl
      refine hK.out _ _ hS (fun _ => ?_)
      clear hK K
      try simp only [Act.put, List.setIfInBounds_toArray, List.set_cons_zero, List.set_cons_succ]
      refine seq_take (o := ⟨_, _, _, _, _, _⟩) (v := ?_) (by rw [HO.out]; rfl) (by rfl) ?_ ?_
      rotate_left 1
      · first | ((intro W _; go_simp) <;> with_reducible rfl) | (intro W hW; have s0 := hW; (go_simp <;> with_reducible rfl))
      try simp only [Act.put, List.setIfInBounds_toArray, List.set_cons_zero, List.set_cons_succ]
      refine seq_do (o := ⟨_, _, _, _, _, _⟩) (by rw [HO.out]; rfl) (by rfl) (fun K hK => ?_)
      go_wp2_with (go_at_call 26; refine H7.out.mono ?_; rintro e w8 ⟨rfl, hg8, hk8⟩; have H8 := Lib.hid (And.intro hg8 hk8); replace hS := (HBA8.out.gkept hk8 ptr_gTy).cell (j := 0) rfl; clear hg8 hk8 H7 H6)
      refine hK.out _ _ hS (fun _ => ?_)
      clear hK K
      try simp only [Act.put, List.setIfInBounds_toArray, List.set_cons_zero, List.set_cons_succ]
      refine seq_take (o := ⟨_, _, _, _, _, _⟩) (v := ?_) (by rw [HO.out]; rfl) (by rfl) ?_ ?_
      rotate_left 1
      · first | ((intro W _; go_simp) <;> with_reducible rfl) | (intro W hW; have s0 := hW; (go_simp <;> with_reducible rfl))
      try simp only [Act.put, List.setIfInBounds_toArray, List.set_cons_zero, List.set_cons_succ]
      refine seq_done ?_
      clear HO OPS
      go_wp2_with fail
      go_meet
      rw [HWh.out.2, HFr.out]
      exact ⟨rfl, Lib.hid ⟨H8.out.1, HBA8.out.gkept H8.out.2 ptr_gTy⟩⟩
  case rest =>
  obtain ⟨rfl, H8⟩ := hcut
  obtain ⟨rowsA, hGA⟩ := H8.out.1
  have hwr := wholeG_reads [] rooted dirs n x.xs hg
  obtain ⟨hwl, hwe⟩ := wholeG_small rooted dirs n x.xs
  have HP : Hid (RefBelowP rooted dirs n x.xs s.data.toList ↔ someN (netG (wholeG rooted dirs n x.xs).1) (fun q => Path (netG (wholeG rooted dirs n x.xs).1) (wholeG rooted dirs n x.xs).2 (intoDir s.data.toList) q) 0) := Lib.hid Iff.rfl
  have HBA := Lib.hid H8.out.2
  have hw1 := hwr.1
  have hw2 := hwr.2.1
  clear HWh HGwd HSt4 H8 hwr HAd HNd
  generalize (wholeG rooted dirs n x.xs).1 = G at *
  generalize (wholeG rooted dirs n x.xs).2 = st at *
  have HW : Hid (WF (netG G)) := Lib.hid hw1
  have hstN : st < (netG G).length := by rw [netG_len]; exact hw2
  have hAl : (netG G).length ≤ 40000000 := by rw [netG_len]; omega
  have hN : (netG G).length ≤ 9223372036854775808 := by omega
  have HE : Hid (∀ g ∈ G, g.eps.length ≤ 100000000) := Lib.hid (fun g hg => by have := hwe g hg; omega)
  have HGl : Hid (G.length = (netG G).length) := Lib.hid (netG_len G).symm
  have HGA := Lib.hid hGA
  have HBW : Hid (Below w.heap.size w wc) := Lib.hid hGA.below
  have hbm : Below wc.heap.size wc (wc.alloc (.map #[] 0)) := bAlloc (Below.refl _ _) _
  have hM : SetAt (wc.alloc (.map #[] 0)) (keyN (netG G).length hN) 4 wc.heap.size 0 (fun _ => false) := SetAt.made wc _ _
  obtain ⟨w2, hrun, h8, h9⟩ := storeN (q := st) hM hstN (by decide)
  have hb2 : Below wc.heap.size wc w2 := hbm.grown h9 hbm.size (fun k hk => by cases hk; exact Nat.le_refl _)
  have HCl := Lib.hid (close_any hN w2 (hGA.under hb2) HW.out (by omega) HE.out h8 (by omega))
  have HB2 := Lib.hid hb2
  have hmm := @run_makeMap Tryz.prog
  change (Instr.mapUpdate 65 (.map (some wc.heap.size)) (.int .i64 st) (.bool true)).run Tryz.prog (wc.alloc (.map #[] 0)) = .ok () w2 at hrun
  have k0 := HBA.out.cell (j := 0) rfl
  have HFc : Hid (∀ (T3 : Nat → Bool), (∀ q, T3 q = true ↔ fclos (netG G) (fun p => ins (fun _ => false) st p = true) q) → ∀ q, T3 q = true ↔ Path (netG G) st ((intoDir s.data.toList).take 0) q) := Lib.hid (fun T3 h3 q => (h3 q).trans (Iff.trans ⟨fun ⟨p, hp, hq⟩ => by
    (rcases ins_iff.1 hp with hp | hp
     · exact ⟨p, hp, hq⟩
     · cases hp), fun ⟨p, hp, hq⟩ => ⟨p, ins_iff.2 (.inl hp), hq⟩⟩ fol_zero.symm))
  have HClK := Lib.hid (fun (wx : World) (m : Nat) (T : Nat → Bool) (hb : Below wc.heap.size wc wx) (hT : SetAt wx (keyN (netG G).length hN) 4 m (netG G).length T) => close_any hN wx (hGA.under hb) HW.out (by omega) HE.out hT (by omega))
  have HPsK : Hid (∀ q, q < (netG G).length → ∃ (g : GNode) (gb cap : Nat), (∀ c d, hit (netG G) c q d ↔ passB g c = true ∧ d = g.tt) ∧ ∀ wx, Below wc.heap.size wc wx → (wx.cell? ⟨b, 0, none⟩ = some (.slice (some ⟨gb, 0, none⟩) (netG G).length cap) ∧ wx.cell? ⟨gb, q * 4 + 3, none⟩ = some (.int .i64 g.tt)) ∧ ∀ c : UInt8, c ≠ 0 → Calls Tryz.prog 30 #[.pointer (some ⟨b, 0, none⟩), .int .i64 q, .int .u8 c.toNat] wx (fun e w' => e = .returned (.bool (passB g c)) ∧ Below wx.heap.size wx w')) := Lib.hid (fun q hq => by
    rw [netG_len] at hq
    obtain ⟨g, hg⟩ : ∃ g, G[q]? = some g := ⟨_, List.getElem?_eq_getElem hq⟩
    obtain ⟨gb, cap, ea, ec, pp, c0, n0, n1, n2, n3, _⟩ := hGA.cells hg
    refine ⟨g, gb, cap, fun c d => passB_hit hg c d, fun wx hb => ⟨⟨?_, (CellsStay.below hb).cell n3⟩, fun c hc => gpasses_any wx (hGA.under hb) hg c hc (by have := HGl.out; omega)⟩⟩
    rw [netG_len]
    exact (CellsStay.below hb).cell c0)
  have HPutK := Lib.hid (fun (wx : World) (B bs bt : Nat) (X : Nat → Prop) (T : Nat × Nat → Bool) (l : List (Nat × Nat)) (n nm : Nat) (hb : Below wc.heap.size wc wx) (h : SomeStR (netG G).length hN B bs bt X wx T l) (hn : n < (netG G).length) (hnm : nm ≤ 3) (hl : l.length ≤ 800000000) (hB : B ≤ wx.heap.size) => put_any hN wx (hGA.under hb) HW.out (by omega) HE.out h (HBA.out.under hb) n nm hn hnm hl hB)
  clear hbm hM h8 h9 hb2 hGA hwl hwe hw1 hw2 hz hg HE HGA HGl
  generalize hA : netG G = A at *
  have HAG := Lib.hid hA
  clear hA
  go_upto_if 65 with (go_at_call 29; refine HCl.out.mono ?_; rintro e w3 ⟨rfl, g3, T3, n3, hT3, _, hq3⟩; have HI3 : Hid (GTxt A hN st (intoDir s.data.toList) wc.heap.size 0 wc w3) := Lib.hid ⟨Nat.le_refl _, T3, hT3.small, HB2.out.grown g3 HB2.out.size (fun k hk => by cases hk; exact Nat.le_refl _), HFc.out T3 hq3⟩; clear g3 hT3 hq3 HCl HFc HB2 hrun hmm k0)
  have hadd := fun W => run_addS s ⟨#[47]⟩ W (by show _ + 1 ≤ _; omega)
  have hsd := Lib.toList_data s
  go_cut [10] (fun s10 wx => ∃ t : ByteArray, s10 = .string t ∧ w3 = wx ∧ Hid (t.data.toList = intoDir s.data.toList))
  case first =>
    cases hem : s.toList.isEmpty with
    | true =>
      have HD : Hid (s.data.toList = intoDir s.data.toList) := Lib.hid (by
        rw [← hsd]
        unfold intoDir
        rw [if_pos (List.isEmpty_iff.1 hem)]
        exact List.isEmpty_iff.1 hem)
      clear hsd
      go_wp2_with fail
      go_meet
      exact ⟨s, rfl, rfl, HD⟩
    | false =>
      have HD : Hid (s.data.toList ++ [47] = intoDir s.data.toList) := Lib.hid (by
        rw [← hsd]
        unfold intoDir
        rw [if_neg (fun h => by rw [h] at hem; cases hem)])
      clear hsd
      go_wp2_with fail
      go_meet
      exact ⟨_, rfl, rfl, Lib.hid (by rw [← HD.out])⟩
  case rest =>
  obtain ⟨t, rfl, rfl, HT⟩ := hcut
  rw [← HT.out] at HP HI3
  have hnt : Hid (∀ c ∈ t.data.toList, c ≠ 0) := Lib.hid (by
    rw [HT.out]
    intro c hc
    unfold intoDir at hc
    split at hc
    · cases hc
    · rcases List.mem_append.1 hc with h | h
      · exact hno c h
      · rw [List.mem_singleton.1 h]
        decide)
  have htz : t.size ≤ 100001 := by
    have h1 := Lib.size_eq s
    rw [Lib.size_eq, HT.out]
    unfold intoDir
    split
    · exact Nat.zero_le _
    · rw [List.length_append, List.length_singleton]
      omega
  have HDk : Hid (∀ k (h : k < t.size), t.data.toList[k]? = some (t[k]'h)) := Lib.hid (fun k h => Lib.data_getElem? t k h)
  have HDl : Hid (t.data.toList.length = t.size) := Lib.hid (Lib.size_eq t).symm
  clear HT hno hsd hadd
  generalize t.data.toList = D at HP HI3 hnt HDk HDl
  go_wp2_with fail
  go_loopg [9, 70] t.size (fun g s9 s70 wx => ∃ k m : Nat, k + g = t.size ∧ s70 = .int .i64 k ∧ s9 = .map (some m) ∧ Hid (GTxt A hN st D m k wc wx))
  case atStart => exact ⟨0, _, by omega, rfl, rfl, HI3⟩
  case round =>
    clear HI3
    obtain ⟨k, m, hk, rfl, rfl, HI⟩ := hrel
    by_cases hkl : k < t.size
    ·
      obtain ⟨g, rfl⟩ : ∃ g, gk = g + 1 := ⟨gk - 1, by omega⟩
      have hklI : (k : Int) < (t.size : Int) := by omega
      have hk0 : (0 : Int) ≤ (k : Int) := by omega
      obtain ⟨cc, hch⟩ : ∃ ch : UInt8, t[k]'hkl = ch := ⟨_, rfl⟩
      have HCc : Hid (D[k]? = some cc) := Lib.hid (by rw [HDk.out k hkl, hch])
      have HC0 : Hid (cc ≠ 0) := Lib.hid (hnt.out cc (List.mem_of_getElem? HCc.out))
      obtain ⟨hm, T, hT, hb, hq⟩ := HI.out
      have hbm : Below wr.heap.size wr (wr.alloc (.map #[] 0)) := bAlloc (Below.refl _ _) _
      have HM1 : Hid (SetAt (wr.alloc (.map #[] 0)) (keyN A.length hN) 4 wr.heap.size A.length (fun _ => false)) := Lib.hid (SetAt.made wr (keyN A.length hN) 4).small
      have HS1 : Hid (SetAt (wr.alloc (.map #[] 0)) (keyN A.length hN) 4 m A.length T) := Lib.hid (hT.same (hbm.block m hT.lt))
      have HB1 := Lib.hid (bTrans hb hbm)
      have HB0 : Hid (wc.heap.size ≤ wr.heap.size) := Lib.hid hb.size
      have HQ := Lib.hid hq
      have Hml : Hid (m < wr.heap.size) := Lib.hid hT.lt
      have hsz1 : (wr.alloc (.map #[] 0)).heap.size = wr.heap.size + 1 := by simp
      have hmm := @run_makeMap Tryz.prog
      clear hT hb hq hbm HI hm
      go_upto_region 18 with fail
      obtain ⟨W1, hW1⟩ : ∃ W1, wr.alloc (.map #[] 0) = W1 := ⟨_, rfl⟩
      rw [hW1] at HM1 HS1 HB1 hsz1 ⊢
      obtain ⟨m1, hm1⟩ : ∃ m1, wr.heap.size = m1 := ⟨_, rfl⟩
      rw [hm1] at HM1 Hml HB0 hsz1 ⊢
      have Hsz := Lib.hid hsz1
      clear hW1 hmm hm1 hsz1
      go_wp2_with (at_range; refine wp_rangeN rfl (.tmp 74) rfl rfl HS1.out ?_; intro w1 c1 hR1 hg1 hc1)
      go_frame
      have HI : Hid (Stpg A hN T cc m W1.heap.size m1 wc w1 c1) := Lib.hid ⟨_, T, SetAt.same HM1.out (hg1.block _ HM1.out.lt (by simp)), hR1, HB1.out.grown hg1 HB1.out.size (fun k hk => by cases hk), fun q => by
        constructor
        · intro h
          cases h
        · rintro ⟨p, ⟨h1, h2⟩, _⟩
          rw [h1] at h2
          cases h2⟩
      clear hR1 hg1 HM1 HS1 HB1
      go_loopg [] A.length (fun gq wx => ∃ c2 : Nat, c2 ≤ gq ∧ Hid (Stpg A hN T cc m W1.heap.size m1 wc wx c2))
      case atStart => exact ⟨c1, hc1, HI⟩
      case round =>
        clear HI hc1
        obtain ⟨c2, hcg, HG⟩ := hrel
        obtain ⟨T0, left, h1, h2, h3, h4⟩ := HG.out
        have H1 : Hid (SetAt wr (keyN A.length hN) 4 m1 A.length T0) := Lib.hid h1
        have H3 := Lib.hid h3
        have H4 := Lib.hid h4
        clear h1 h3 h4 HG
        go_wp2_with (at_next; refine wp_nextN rfl (.tmp 75) rfl rfl h2 ?_ ?_)
        · intro hl
          have HT2 : Hid (∀ q, T0 q = true ↔ ∃ p, Path A st (D.take k) p ∧ hit A cc p q) := Lib.hid (fun q => by
            rw [H4.out q]
            simp [hl, HQ.out])
          have HC := Lib.hid (HClK.out wr m1 T0 H3.out H1.out)
          have k0 := (HBA.out.under H3.out).cell (j := 0) rfl
          clear h2 hl
          go_wp2_with (go_at_call 29; refine HC.out.mono ?_; rintro e w5 ⟨rfl, hg5, T5, n5, hT5, _, hq5⟩; have HNx : Hid (GTxt A hN st D m1 (k + 1) wc w5) := Lib.hid ⟨HB0.out, T5, hT5.small, H3.out.grown hg5 H3.out.size (fun k hk => by cases hk; exact HB0.out), fun q => (hq5 q).trans ((step_hit HT2.out q).trans (fol_succ HCc.out).symm)⟩; clear hg5 hT5 hq5 HC k0)
          go_roundg g
          case measure => omega
          case rel => exact ⟨k + 1, m1, by omega, by go_num, rfl, HNx⟩
        · intro q w2 c3 hlq hqN hR2 hc2 hg2 hen
          obtain ⟨gi, rfl⟩ : ∃ gi, gk = gi + 1 := ⟨gk - 1, by omega⟩
          have hb2 : Below wc.heap.size wc w2 := H3.out.grown hg2 H3.out.size (fun k hk => by cases hk; have := Hsz.out; have := HB0.out; omega)
          have hm2 : SetAt w2 (keyN A.length hN) 4 m1 A.length T0 := H1.out.same (hg2.block _ H1.out.lt (fun e => by
            injection e with e
            have := Hsz.out
            omega))
          have hbd : Below w2.heap.size w2 w2.drew := drB0 (Below.refl _ _)
          obtain ⟨gq, gb, cap, hhit, hcl⟩ := HPsK.out q hqN
          have HC := Lib.hid ((hcl w2.drew (bTrans hb2 hbd)).2 cc HC0.out)
          have HCl := Lib.hid (And.intro hhit hcl)
          have HBA2 := Lib.hid (HBA.out.under (bTrans hb2 hbd))
          have HS0 := Lib.hid (HBA2.out.cell (j := 0) rfl)
          have HW2 := Lib.hid (And.intro hm2 (And.intro hR2 (And.intro hb2 (h2.sub hlq))))
          have hqI : (q : Int) < (A.length : Int) := by omega
          have hq0 : (0 : Int) ≤ (q : Int) := by omega
          clear hlq hR2 hg2 h2 hb2 hm2 hhit hcl hbd
          go_upto_region 21 with fail
          refine wp_region_seq (fun W => W.cell? ⟨ba, 0, none⟩ = some (.pointer (some ⟨b, 0, none⟩))) [(0, true), (1, true), (2, true), (3, true), (4, true), (5, false)] (by as_aux_lemma => kernel_rfl) (by as_aux_lemma => kernel_rfl) (by decide) (by as_aux_lemma => kernel_rfl) (HS0.out) ?_
          intro OPS HO
          refine seq_take (o := ⟨_, _, _, _, _, _⟩) (v := ?_) (by rw [HO.out]; rfl) (by rfl) ?_ ?_
          rotate_left 1
          · first | ((intro W _; go_simp) <;> with_reducible rfl) | (intro W hW; have s0 := hW; (go_simp <;> with_reducible rfl))
          try simp only [Act.put, List.setIfInBounds_toArray, List.set_cons_zero, List.set_cons_succ]
          refine seq_take (o := ⟨_, _, _, _, _, _⟩) (v := ?_) (by rw [HO.out]; rfl) (by rfl) ?_ ?_
          rotate_left 1
          · first | ((intro W _; go_simp) <;> with_reducible rfl) | (intro W hW; have s0 := hW; (go_simp <;> with_reducible rfl))
          try simp only [Act.put, List.setIfInBounds_toArray, List.set_cons_zero, List.set_cons_succ]
          refine seq_take (o := ⟨_, _, _, _, _, _⟩) (v := ?_) (by rw [HO.out]; rfl) (by rfl) ?_ ?_
          rotate_left 1
          · first | ((intro W _; go_simp) <;> with_reducible rfl) | (intro W hW; have s0 := hW; (go_simp <;> with_reducible rfl))
          try simp only [Act.put, List.setIfInBounds_toArray, List.set_cons_zero, List.set_cons_succ]
          refine seq_take (o := ⟨_, _, _, _, _, _⟩) (v := ?_) (by rw [HO.out]; rfl) (by rfl) ?_ ?_
          rotate_left 1
          · first | ((intro W _; go_simp) <;> with_reducible rfl) | (intro W hW; have s0 := hW; (go_simp <;> with_reducible rfl))
          try simp only [Act.put, List.setIfInBounds_toArray, List.set_cons_zero, List.set_cons_succ]
          refine seq_take (o := ⟨_, _, _, _, _, _⟩) (v := ?_) (by rw [HO.out]; rfl) (by rfl) ?_ ?_
          rotate_left 1
          · first | ((intro W _; go_simp) <;> with_reducible rfl) | (intro W hW; have s0 := hW; (go_simp <;> with_reducible rfl))
          try simp only [Act.put, List.setIfInBounds_toArray, List.set_cons_zero, List.set_cons_succ]
          refine seq_do (o := ⟨_, _, _, _, _, _⟩) (by rw [HO.out]; rfl) (by rfl) (fun K hK => ?_)
          go_wp2_with (go_at_call 30; refine HC.out.mono ?_; rintro e w7 ⟨rfl, hb7⟩; have H7 := Lib.hid (bTrans (drB0 (Below.refl w2.heap.size w2)) hb7); have hS := (HBA2.out.under hb7).cell (j := 0) rfl; clear hb7 HC)
          refine hK.out _ _ hS (fun _ => ?_)
          clear hK K
          try simp only [Act.put, List.setIfInBounds_toArray, List.set_cons_zero, List.set_cons_succ]
          refine seq_done ?_
          clear HO OPS HS0 HBA2
          have hk1 : SetAt w7 (keyN A.length hN) 4 m1 A.length T0 := HW2.out.1.same (H7.out.block m1 HW2.out.1.lt)
          have hk2 := RangeAt.under HW2.out.2.1 H7.out
          have hk3 : Below wc.heap.size wc w7 := bTrans HW2.out.2.2.1 H7.out
          cases hps : passB gq cc with
          | false =>
            have HNx : Hid (Stpg A hN T cc m W1.heap.size m1 wc w7 c3) := Lib.hid (Stpg.next hk1 hk2 hk3 H4.out (fun p => by rw [HCl.out.1, hps]; simp) HW2.out.2.2.2)
            clear hk1 hk2 hk3 hps
            go_wp2_with fail
            go_roundg gi
            case measure => omega
            case rel => exact ⟨c3, by omega, HNx⟩
          | true =>
            have hd : gq.tt < A.length := by
              obtain ⟨a, ha, _, _, _, e⟩ := (HCl.out.1 cc gq.tt).2 ⟨hps, rfl⟩
              rw [← e]
              exact HW.out q a ha
            obtain ⟨w9, hrun, k8, k9⟩ := storeN hk1 hd (by omega)
            have HNx : Hid (Stpg A hN T cc m W1.heap.size m1 wc w9 c3) := Lib.hid (Stpg.next k8.small (hk2.same (k9.block m hk2.lt.2.1 (fun e => by injection e with e; have := Hml.out; omega)) (k9.block W1.heap.size hk2.lt.1 (fun e => by injection e with e; have := Hsz.out; omega))) (hk3.grown k9 hk3.size (fun k hk => by cases hk; exact HB0.out)) H4.out (fun p => by
              rw [ins_iff, HCl.out.1, hps]
              simp only [true_and]
              exact or_comm) HW2.out.2.2.2)
            obtain ⟨c0, n3⟩ := (HCl.out.2 w7 hk3).1
            have k0 := (HBA.out.under hk3).cell (j := 0) rfl
            generalize gq.tt = d at *
            clear hk1 hk2 hk3 hps k8 k9
            go_wp2_with fail
            go_roundg gi
            case measure => omega
            case rel => exact ⟨c3, by omega, HNx⟩
    · obtain rfl : k = t.size := by omega
      obtain ⟨wz, hwz⟩ : ∃ wz, wz = wr := ⟨_, rfl⟩
      subst hwz
      obtain ⟨hm, T, hT, hb, hq⟩ := HI.out
      have HQ : Hid (∀ q, T q = true ↔ Path A st D q) := Lib.hid (fun q => by rw [hq, List.take_of_length_le (by rw [HDl.out]; exact Nat.le_refl _)])
      have HP2 := Lib.hid (HP.out.trans (someN_congr (e := 0) HQ.out).symm)
      have hmlt : m < wz.heap.size := hT.lt
      have HTm := Lib.hid hT
      have HBz := Lib.hid hb
      have hmm := @run_makeMap Tryz.prog
      have HW3 := Lib.hid (some_startR (N := A.length) (hN := hN) wz)
      clear hT hb hq HI HP HQ hm
      go_upto_region 27 with fail
      obtain ⟨W3, hW3⟩ : ∃ W3, someWR wz = W3 := ⟨_, rfl⟩
      have hW3' : ((wz.alloc (.map #[] 0)).alloc (.cells #[.map (some wz.heap.size)] 68)).alloc (.cells #[.slice none 0 0] 69) = W3 := hW3
      rw [hW3'] at ⊢
      rw [hW3] at HW3
      clear hW3 hW3'
      generalize hbt : wz.heap.size + 1 + 1 = bt at *
      generalize hbs : wz.heap.size + 1 = bs at *
      have HBB := Lib.hid (And.intro hbs hbt)
      clear hbs hbt hmm
      have HS3 : Hid (SetAt W3 (keyN A.length hN) 4 m A.length T) := Lib.hid (StSet.under (A := A) (hN := hN) HTm.out HW3.out.2.1)
      have hen := enters_put
      go_wp2_with (at_range; refine wp_rangeN rfl (.tmp 101) rfl rfl HS3.out ?_; intro w1 c1 hR1 hg1 hc1)
      go_frame
      have hr : wz.heap.size ≤ W3.heap.size ∧ bs < W3.heap.size := by
        have h1 := HW3.out.2.2
        have h2 := HBB.out
        omega
      have HI : Hid (Sg1 A hN T bs bt m W3.heap.size wz w1 c1) := Lib.hid ⟨_, [], T, ((HW3.out.1.hold hmlt).grows hg1 hR1.lt.1).weaken (fun k hk => by
          rcases hk with h | h
          · exact .inl (.inr h)
          · exact .inr h), hR1, HW3.out.2.1.grown hg1 HW3.out.2.1.size (fun k hk => by cases hk), fun x => by simp, fun x => by
          (constructor
           · intro h
             cases h
           · rintro ⟨⟨p, ⟨h1, h2⟩, _⟩, _⟩
             rw [h1] at h2
             cases h2), by simpa using miss_none A.length⟩
      clear hR1 hg1 HS3
      go_loopg [] A.length (fun gq wx => ∃ c : Nat, c ≤ gq ∧ Hid (Sg1 A hN T bs bt m W3.heap.size wz wx c))
      case atStart => exact ⟨c1, hc1, HI⟩
      case round =>
        clear HI hc1
        obtain ⟨c, hcg, HG⟩ := hrel
        obtain ⟨T1, l, left, h1, h2, h3, h4, h5, h6⟩ := HG.out
        have H := Lib.hid (And.intro h1 (And.intro h3 (And.intro h4 (And.intro h5 h6))))
        clear h1 h3 h4 h5 h6 HG
        go_wp2_with (at_next; refine wp_nextN rfl (.tmp 102) rfl rfl h2 ?_ ?_)
        · intro hl
          have HD : Hid (SrG A hN T bs bt wz wr (4 * A.length)) := Lib.hid (Sg1.done H.out.1 H.out.2.1 H.out.2.2.1 H.out.2.2.2.1 H.out.2.2.2.2 hl)
          clear h2 hl H
          go_wp2_with fail
          go_loopg [] (4 * A.length) (fun gs wx => gs ≤ 500000000 ∧ Hid (SrG A hN T bs bt wz wx gs))
          case atStart => exact ⟨by omega, HD⟩
          case round =>
            clear HD hcg
            obtain ⟨hgb, HG⟩ := hrel
            obtain ⟨T1, l, h1, h2, h3, h4⟩ := HG.out
            obtain ⟨ms, ga, cap, k1, k2, k3, k4, k5, k6, k7, _⟩ := h1
            rcases List.eq_nil_or_concat l with rfl | ⟨l', x, hlx⟩
            · have c0 := BoxIs.cell (j := 0) k2 rfl
              have HF := Lib.hid (And.intro (someG_none h3) (bTrans (bTrans HBW.out HBz.out) h2))
              clear k1 k2 k3 k4 k5 k6 k7 h2 h3 h4 HG
              go_wp2_with fail
              go_ret
              exact ⟨false, rfl, ⟨fun h => absurd h (by decide), fun h => absurd (HP2.out.1 h) HF.out.1⟩, HF.out.2⟩
            · obtain rfl : l = l' ++ [x] := by simpa using hlx
              have hll : (l' ++ [x]).length = l'.length + 1 := by simp
              rw [hll] at k2 k4 h4
              obtain ⟨g', rfl, _, hcap, hcm, _⟩ := stk_some k4
              obtain ⟨g, rfl⟩ : ∃ g, gk = g + 1 := ⟨gk - 1, by omega⟩
              have HPop := Lib.hid (SrG.pop (S := T) k1 k2 k3 k4 k5 k6 k7 h2 h3 h4)
              have HW2 := Lib.hid h3
              obtain ⟨p0, p1⟩ := place_cellsR k4
              have HBt := Lib.hid k2
              obtain ⟨k, hk⟩ : ∃ k, l'.length = k := ⟨_, rfl⟩
              rw [hk] at k2 p0 p1 hcap HPop HBt
              obtain ⟨len, hlen⟩ : ∃ len, k + 1 = len := ⟨_, rfl⟩
              rw [hlen] at k2 HBt hcap
              have hposI : (0 : Int) < (len : Int) := by omega
              have hdec : decide (0 < len) = true := decide_eq_true (by omega)
              have hkI : (len : Int) - 1 = (k : Int) := by omega
              have hkl : (k : Int) < (len : Int) := by omega
              have hkc : (k : Int) ≤ (cap : Int) := by omega
              have hk0 : (0 : Int) ≤ (k : Int) := by omega
              have hlm : len ≤ maxLen := by omega
              have hkb : (k : Int) ≤ 9223372036854775806 := by
                have : maxLen = 9223372036854775807 := rfl
                omega
              have c0 := BoxIs.cell (j := 0) k2 rfl
              have hx : x.1 < A.length ∧ x.2 ≤ 3 := HPop.out.ok
              have HLen := Lib.hid hlen
              clear k1 k2 k3 k4 k5 k6 k7 h2 h3 h4 HG hk hlen hll hlx
              have HBt2 := Lib.hid (HBt.out.under (bAlloc (Below.refl wr.heap.size wr) (.cells #[.int .i64 x.1, .int .i64 x.2] 71)))
              change Hid (ScG A hN T bs bt x wr.heap.size (fun _ => False) wz (World.setCell (wr.alloc (.cells #[.int .i64 x.1, .int .i64 x.2] 71)) ⟨bt, 0, none⟩ (.slice (some ⟨g', 0, none⟩) k cap)) g) at HPop
              go_upto_region 34 with fail
              clear c0 p0 p1
              have c0 := BoxIs.cell (j := 0) HBt2.out rfl
              have f0 := Lib.frozen_of_heap HBt2.out 0
              go_upto_region 35 with fail
              clear c0 f0 HBt2 HBt hkI hkl hkc hk0 hlm hkb
              generalize World.setCell (wr.alloc _) _ _ = w6 at *
              generalize wr.heap.size = pb at *
              have p0 := BoxIs.cell (j := 0) HPop.out.box rfl
              have p1 := BoxIs.cell (j := 1) HPop.out.box rfl
              by_cases hbad : x = (0, 3)
              · have e1 : ((x.1 : Int) == 0) = true := by rw [hbad]; rfl
                have e2 : ((x.2 : Int) == 3) = true := by rw [hbad]; rfl
                have HF := Lib.hid (And.intro (someG_found (e := 0) HW2.out (by simp [hbad])) (bTrans (bTrans HBW.out HBz.out) HPop.out.below))
                clear hbad
                go_wp2_with fail
                go_ret
                exact ⟨true, rfl, ⟨fun _ => HP2.out.2 HF.out.1, fun _ => rfl⟩, HF.out.2⟩
              have hor : ((x.1 : Int) == 0) = false ∨ (((x.1 : Int) == 0) = true ∧ ((x.2 : Int) == 3) = false) := by
                obtain ⟨x1, x2⟩ := x
                by_cases h1 : x1 = 0
                · subst h1
                  right
                  refine ⟨rfl, ?_⟩
                  by_cases h2 : x2 = 3
                  · subst h2
                    exact absurd rfl hbad
                  · simp
                    omega
                · left
                  simp
                  omega
              have HBad := Lib.hid hbad
              have hxI : (x.1 : Int) < (A.length : Int) := by omega
              have hx0 : (0 : Int) ≤ (x.1 : Int) := by omega
              have HI4 : Hid (ScG A hN T bs bt x pb (byC A x 1) wz w6 g) := Lib.hid (HPop.out.weaken (fun y hy => byC_one hy))
              obtain ⟨gq, gb, cap2, hhit, hcl⟩ := HPsK.out x.1 hx.1
              have HCl := Lib.hid (And.intro hhit hcl)
              clear hbad hhit hcl HPop
              go_cut [132] (fun s132 wx => s132 = .bool false ∧ w6 = wx)
              case first =>
                rcases hor with e1 | ⟨e1, e2⟩
                all_goals
                  go_wp2_with fail
                  go_meet
                  exact ⟨rfl, rfl⟩
              case rest =>
                obtain ⟨rfl, rfl⟩ := hcut
                clear hor p0 p1
                go_wp2_with fail
                go_loopg [19] 255 (fun gc s19 wx => ∃ ci : Nat, ci + gc = 256 ∧ 1 ≤ ci ∧ s19 = .int .i64 ci ∧ Hid (ScG A hN T bs bt x pb (byC A x ci) wz wx g))
                case atStart => exact ⟨1, by omega, by omega, rfl, HI4⟩
                case round =>
                  clear HI4
                  obtain ⟨ci, hci, hci1, rfl, HI⟩ := hrel
                  by_cases hlc : ci < 256
                  · obtain ⟨gc, rfl⟩ : ∃ gc, gk = gc + 1 := ⟨gk - 1, by omega⟩
                    have hlcI : (ci : Int) < 256 := by omega
                    obtain ⟨cc, rfl⟩ : ∃ cc : UInt8, cc.toNat = ci := ⟨UInt8.ofNat ci, by simp; omega⟩
                    have hc0 : cc ≠ 0 := fun h0 => by
                      rw [h0] at hci1
                      exact absurd hci1 (by decide)
                    have HC0 := Lib.hid hc0
                    have hbx : Below wc.heap.size wc wr := bTrans HBz.out HI.out.below
                    have HC := Lib.hid ((HCl.out.2 wr hbx).2 cc hc0)
                    have k0 := (HBA.out.under hbx).cell (j := 0) rfl
                    have p0 := BoxIs.cell (j := 0) HI.out.box rfl
                    clear hc0 hbx
                    cases hps : passB gq cc with
                    | false =>
                      rw [hps] at HC
                      have HNg : Hid (∀ y, byC A x (cc.toNat + 1) y → byC A x cc.toNat y) := Lib.hid (fun y hy => (byC_succ hy).resolve_right (fun h => by
                        obtain ⟨d, k, h, _⟩ := h
                        rw [HCl.out.1, hps] at h
                        exact absurd h.1 (by decide)))
                      clear hps
                      go_wp2_with (go_at_call 30; refine HC.out.mono ?_; rintro ed w7 ⟨rfl, hb7⟩; have HNx : Hid (ScG A hN T bs bt x pb (byC A x (cc.toNat + 1)) wz w7 g) := Lib.hid ((HI.out.under hb7).weaken HNg.out); clear hb7 HC HI k0 p0)
                      go_roundg gc
                      case measure => omega
                      case rel => exact ⟨cc.toNat + 1, by omega, by omega, by go_num, HNx⟩
                    | true =>
                      rw [hps] at HC
                      have HPs := Lib.hid hps
                      clear hps
                      go_upto_region 41 with (go_at_call 30; refine HC.out.mono ?_; rintro ed w7 ⟨rfl, hb7⟩; have HI7 := Lib.hid (HI.out.under hb7); clear hb7 HC HI k0 p0)
                      have p1 := BoxIs.cell (j := 1) HI7.out.box rfl
                      have hdA : gq.tt < A.length := by
                        obtain ⟨a, ha, _, _, _, e⟩ := (HCl.out.1 cc gq.tt).2 ⟨HPs.out, rfl⟩
                        rw [← e]
                        exact HW.out x.1 a ha
                      by_cases h47 : cc = 47
                      · have e47 : ((cc.toNat : Int) == 47) = true := by rw [h47]; rfl
                        by_cases h3 : x.2 = 3
                        · have e3 : ((x.2 : Int) == 3) = true := by rw [h3]; rfl
                          have HGr : Hid (grownN x.2 cc = some 0) := Lib.hid (by unfold grownN; rw [if_pos h47, if_pos h3])
                          have hkk : (0 : Nat) ≤ 3 := by decide
                          have HKv : Hid (((0 : Nat) : Int) = 0) := Lib.hid rfl
                          clear h47 h3
                          have HI7d := Lib.hid (HI7.out.under (drB0 (Below.refl w7.heap.size w7)))
                          obtain ⟨T1, l, a1, a2, a3, a4, a5, a6⟩ := HI7d.out
                          have hbx : Below wc.heap.size wc w7.drew := bTrans HBz.out a3
                          have HV : Hid (Calls Tryz.prog 31 #[.int .i64 gq.tt, .int .i64 0, .pointer (some ⟨ba, 0, none⟩), .pointer (some ⟨bs, 0, none⟩), .pointer (some ⟨bt, 0, none⟩)] w7.drew (PutRes A hN wz.heap.size bs bt (fun j => j = pb) T1 l gq.tt 0 w7.drew)) := Lib.hid (HPutK.out w7.drew wz.heap.size bs bt (fun j => j = pb) T1 l gq.tt 0 hbx a1 hdA hkk (by omega) a3.size)
                          have HMk := Lib.hid (fun w9 ed (hv : PutRes A hN wz.heap.size bs bt (fun j => j = pb) T1 l gq.tt 0 w7.drew ed w9) => ScG.put HW.out HC0.out ((HCl.out.1 cc gq.tt).2 ⟨HPs.out, rfl⟩) hdA HGr.out hkk a2 a3 a4 a5 a6 (fun d' hd' => ((HCl.out.1 cc d').1 hd').2) hv)
                          have HS0 : Hid (w7.drew.cell? ⟨ba, 0, none⟩ = some (.pointer (some ⟨b, 0, none⟩)) ∧ w7.drew.cell? ⟨b, 0, none⟩ = some (.slice (some ⟨gb, 0, none⟩) A.length cap2) ∧ w7.drew.cell? ⟨gb, x.1 * 4 + 3, none⟩ = some (.int .i64 gq.tt) ∧ w7.drew.cell? ⟨pb, 0, none⟩ = some (.int .i64 x.1)) := Lib.hid ⟨(HBA.out.under hbx).cell (j := 0) rfl, (HCl.out.2 w7.drew hbx).1.1, (HCl.out.2 w7.drew hbx).1.2, BoxIs.cell (j := 0) a2 rfl⟩
                          clear a1 a2 a3 a4 a5 a6 hbx HI7d HI7 HGr HKv hkk
                          go_upto_region 47 with fail
                          clear p1
                          refine wp_region_seq (fun W => W.cell? ⟨ba, 0, none⟩ = some (.pointer (some ⟨b, 0, none⟩)) ∧ W.cell? ⟨b, 0, none⟩ = some (.slice (some ⟨gb, 0, none⟩) A.length cap2) ∧ W.cell? ⟨gb, x.1 * 4 + 3, none⟩ = some (.int .i64 gq.tt) ∧ W.cell? ⟨pb, 0, none⟩ = some (.int .i64 x.1)) [(0, true), (1, true), (2, true), (3, true), (4, true), (5, true), (6, true), (7, true), (8, true), (9, true), (10, true), (11, false)] (by as_aux_lemma => kernel_rfl) (by as_aux_lemma => kernel_rfl) (by decide) (by as_aux_lemma => kernel_rfl) (HS0.out) ?_
                          intro OPS HO
                          refine seq_take (o := ⟨_, _, _, _, _, _⟩) (v := ?_) (by rw [HO.out]; rfl) (by rfl) ?_ ?_
                          rotate_left 1
                          · first | ((intro W _; go_simp) <;> with_reducible rfl) | (intro W hW; have s0 := hW.1; have s1 := hW.2.1; have s2 := hW.2.2.1; have s3 := hW.2.2.2; (go_simp <;> with_reducible rfl))
                          try simp only [Act.put, List.setIfInBounds_toArray, List.set_cons_zero, List.set_cons_succ]
                          refine seq_take (o := ⟨_, _, _, _, _, _⟩) (v := ?_) (by rw [HO.out]; rfl) (by rfl) ?_ ?_
                          rotate_left 1
                          · first | ((intro W _; go_simp) <;> with_reducible rfl) | (intro W hW; have s0 := hW.1; have s1 := hW.2.1; have s2 := hW.2.2.1; have s3 := hW.2.2.2; (go_simp <;> with_reducible rfl))
                          try simp only [Act.put, List.setIfInBounds_toArray, List.set_cons_zero, List.set_cons_succ]
                          refine seq_take (o := ⟨_, _, _, _, _, _⟩) (v := ?_) (by rw [HO.out]; rfl) (by rfl) ?_ ?_
                          rotate_left 1
                          · first | ((intro W _; go_simp) <;> with_reducible rfl) | (intro W hW; have s0 := hW.1; have s1 := hW.2.1; have s2 := hW.2.2.1; have s3 := hW.2.2.2; (go_simp <;> with_reducible rfl))
                          try simp only [Act.put, List.setIfInBounds_toArray, List.set_cons_zero, List.set_cons_succ]
                          refine seq_take (o := ⟨_, _, _, _, _, _⟩) (v := ?_) (by rw [HO.out]; rfl) (by rfl) ?_ ?_
                          rotate_left 1
                          · first | ((intro W _; go_simp) <;> with_reducible rfl) | (intro W hW; have s0 := hW.1; have s1 := hW.2.1; have s2 := hW.2.2.1; have s3 := hW.2.2.2; (go_simp <;> with_reducible rfl))
                          try simp only [Act.put, List.setIfInBounds_toArray, List.set_cons_zero, List.set_cons_succ]
                          refine seq_take (o := ⟨_, _, _, _, _, _⟩) (v := ?_) (by rw [HO.out]; rfl) (by rfl) ?_ ?_
                          rotate_left 1
                          · first | ((intro W _; go_simp) <;> with_reducible rfl) | (intro W hW; have s0 := hW.1; have s1 := hW.2.1; have s2 := hW.2.2.1; have s3 := hW.2.2.2; (go_simp <;> with_reducible rfl))
                          try simp only [Act.put, List.setIfInBounds_toArray, List.set_cons_zero, List.set_cons_succ]
                          refine seq_take (o := ⟨_, _, _, _, _, _⟩) (v := ?_) (by rw [HO.out]; rfl) (by rfl) ?_ ?_
                          rotate_left 1
                          · first | ((intro W _; go_simp) <;> with_reducible rfl) | (intro W hW; have s0 := hW.1; have s1 := hW.2.1; have s2 := hW.2.2.1; have s3 := hW.2.2.2; (go_simp <;> with_reducible rfl))
                          try simp only [Act.put, List.setIfInBounds_toArray, List.set_cons_zero, List.set_cons_succ]
                          refine seq_take (o := ⟨_, _, _, _, _, _⟩) (v := ?_) (by rw [HO.out]; rfl) (by rfl) ?_ ?_
                          rotate_left 1
                          · first | ((intro W _; go_simp) <;> with_reducible rfl) | (intro W hW; have s0 := hW.1; have s1 := hW.2.1; have s2 := hW.2.2.1; have s3 := hW.2.2.2; (go_simp <;> with_reducible rfl))
                          try simp only [Act.put, List.setIfInBounds_toArray, List.set_cons_zero, List.set_cons_succ]
                          refine seq_take (o := ⟨_, _, _, _, _, _⟩) (v := ?_) (by rw [HO.out]; rfl) (by rfl) ?_ ?_
                          rotate_left 1
                          · first | ((intro W _; go_simp) <;> with_reducible rfl) | (intro W hW; have s0 := hW.1; have s1 := hW.2.1; have s2 := hW.2.2.1; have s3 := hW.2.2.2; (go_simp <;> with_reducible rfl))
                          try simp only [Act.put, List.setIfInBounds_toArray, List.set_cons_zero, List.set_cons_succ]
                          refine seq_take (o := ⟨_, _, _, _, _, _⟩) (v := ?_) (by rw [HO.out]; rfl) (by rfl) ?_ ?_
                          rotate_left 1
                          · first | ((intro W _; go_simp) <;> with_reducible rfl) | (intro W hW; have s0 := hW.1; have s1 := hW.2.1; have s2 := hW.2.2.1; have s3 := hW.2.2.2; (go_simp <;> with_reducible rfl))
                          try simp only [Act.put, List.setIfInBounds_toArray, List.set_cons_zero, List.set_cons_succ]
                          refine seq_take (o := ⟨_, _, _, _, _, _⟩) (v := ?_) (by rw [HO.out]; rfl) (by rfl) ?_ ?_
                          rotate_left 1
                          · first | ((intro W _; go_simp) <;> with_reducible rfl) | (intro W hW; have s0 := hW.1; have s1 := hW.2.1; have s2 := hW.2.2.1; have s3 := hW.2.2.2; (go_simp <;> with_reducible rfl))
                          try simp only [Act.put, List.setIfInBounds_toArray, List.set_cons_zero, List.set_cons_succ]
                          refine seq_take (o := ⟨_, _, _, _, _, _⟩) (v := ?_) (by rw [HO.out]; rfl) (by rfl) ?_ ?_
                          rotate_left 1
                          · first | ((intro W _; go_simp) <;> with_reducible rfl) | (intro W hW; have s0 := hW.1; have s1 := hW.2.1; have s2 := hW.2.2.1; have s3 := hW.2.2.2; (go_simp <;> with_reducible rfl))
                          try simp only [Act.put, List.setIfInBounds_toArray, List.set_cons_zero, List.set_cons_succ]
                          refine seq_do (o := ⟨_, _, _, _, _, _⟩) (by rw [HO.out]; rfl) (by rfl) (fun K hK => ?_)
                          go_wp2_with (refine HV.out.mono ?_; rintro ed w9 hv; have HNx := Lib.hid (HMk.out w9 ed hv); obtain ⟨rfl, _⟩ := hv; have hb9 := bTrans HBz.out HNx.out.below; have hS := And.intro ((HBA.out.under hb9).cell (j := 0) rfl) (And.intro (HCl.out.2 w9 hb9).1.1 (And.intro (HCl.out.2 w9 hb9).1.2 (BoxIs.cell (j := 0) HNx.out.box rfl))); clear hb9 HV HMk)
                          refine hK.out _ _ hS (fun _ => ?_)
                          clear hK K
                          try simp only [Act.put, List.setIfInBounds_toArray, List.set_cons_zero, List.set_cons_succ]
                          refine seq_done ?_
                          clear HO OPS HS0
                          go_wp2_with fail
                          go_roundg gc
                          case measure => omega
                          case rel => exact ⟨cc.toNat + 1, by omega, by omega, by go_num, HNx⟩
                        · have e3 : ((x.2 : Int) == 3) = false := by
                            rw [beq_eq_false_iff_ne]
                            omega
                          have HNx : Hid (ScG A hN T bs bt x pb (byC A x (cc.toNat + 1)) wz w7 g) := Lib.hid (HI7.out.weaken (fun y hy => (byC_succ hy).resolve_right (fun h => by
                            obtain ⟨d, k, _, h, _⟩ := h
                            unfold grownN at h
                            rw [if_pos h47, if_neg h3] at h
                            cases h)))
                          clear h47 h3 HI7
                          go_wp2_with fail
                          go_roundg gc
                          case measure => omega
                          case rel => exact ⟨cc.toNat + 1, by omega, by omega, by go_num, HNx⟩
                      · have e47 : ((cc.toNat : Int) == 47) = false := by
                          have : cc.toNat ≠ 47 := fun e => h47 (UInt8.toNat_inj.1 (by simpa using e))
                          rw [beq_eq_false_iff_ne]
                          omega
                        by_cases h46 : cc = 46
                        · have e46 : ((cc.toNat : Int) == 46) = true := by rw [h46]; rfl
                          by_cases h3 : x.2 < 3
                          · have e3 : (x.2 : Int) < 3 := by omega
                            obtain ⟨k4, hk4⟩ : ∃ k4, x.2 + 1 = k4 := ⟨_, rfl⟩
                            have hk4I : (x.2 : Int) + 1 = (k4 : Int) := by omega
                            have hkk : k4 ≤ 3 := by omega
                            have HGr : Hid (grownN x.2 cc = some k4) := Lib.hid (by unfold grownN; rw [if_neg h47, if_pos ⟨h46, by omega⟩, hk4])
                            have HKv : Hid ((k4 : Int) = (k4 : Int)) := Lib.hid rfl
                            clear h46 h47 h3 hk4
                            have HI7d := Lib.hid (HI7.out.under (drB0 (Below.refl w7.heap.size w7)))
                            obtain ⟨T1, l, a1, a2, a3, a4, a5, a6⟩ := HI7d.out
                            have hbx : Below wc.heap.size wc w7.drew := bTrans HBz.out a3
                            have HV : Hid (Calls Tryz.prog 31 #[.int .i64 gq.tt, .int .i64 k4, .pointer (some ⟨ba, 0, none⟩), .pointer (some ⟨bs, 0, none⟩), .pointer (some ⟨bt, 0, none⟩)] w7.drew (PutRes A hN wz.heap.size bs bt (fun j => j = pb) T1 l gq.tt k4 w7.drew)) := Lib.hid (HPutK.out w7.drew wz.heap.size bs bt (fun j => j = pb) T1 l gq.tt k4 hbx a1 hdA hkk (by omega) a3.size)
                            have HMk := Lib.hid (fun w9 ed (hv : PutRes A hN wz.heap.size bs bt (fun j => j = pb) T1 l gq.tt k4 w7.drew ed w9) => ScG.put HW.out HC0.out ((HCl.out.1 cc gq.tt).2 ⟨HPs.out, rfl⟩) hdA HGr.out hkk a2 a3 a4 a5 a6 (fun d' hd' => ((HCl.out.1 cc d').1 hd').2) hv)
                            have HS0 : Hid (w7.drew.cell? ⟨ba, 0, none⟩ = some (.pointer (some ⟨b, 0, none⟩)) ∧ w7.drew.cell? ⟨b, 0, none⟩ = some (.slice (some ⟨gb, 0, none⟩) A.length cap2) ∧ w7.drew.cell? ⟨gb, x.1 * 4 + 3, none⟩ = some (.int .i64 gq.tt) ∧ w7.drew.cell? ⟨pb, 0, none⟩ = some (.int .i64 x.1)) := Lib.hid ⟨(HBA.out.under hbx).cell (j := 0) rfl, (HCl.out.2 w7.drew hbx).1.1, (HCl.out.2 w7.drew hbx).1.2, BoxIs.cell (j := 0) a2 rfl⟩
                            clear a1 a2 a3 a4 a5 a6 hbx HI7d HI7 HGr HKv hkk
                            go_upto_region 47 with fail
                            clear p1
                            refine wp_region_seq (fun W => W.cell? ⟨ba, 0, none⟩ = some (.pointer (some ⟨b, 0, none⟩)) ∧ W.cell? ⟨b, 0, none⟩ = some (.slice (some ⟨gb, 0, none⟩) A.length cap2) ∧ W.cell? ⟨gb, x.1 * 4 + 3, none⟩ = some (.int .i64 gq.tt) ∧ W.cell? ⟨pb, 0, none⟩ = some (.int .i64 x.1)) [(0, true), (1, true), (2, true), (3, true), (4, true), (5, true), (6, true), (7, true), (8, true), (9, true), (10, true), (11, false)] (by as_aux_lemma => kernel_rfl) (by as_aux_lemma => kernel_rfl) (by decide) (by as_aux_lemma => kernel_rfl) (HS0.out) ?_
                            intro OPS HO
                            refine seq_take (o := ⟨_, _, _, _, _, _⟩) (v := ?_) (by rw [HO.out]; rfl) (by rfl) ?_ ?_
                            rotate_left 1
                            · first | ((intro W _; go_simp) <;> with_reducible rfl) | (intro W hW; have s0 := hW.1; have s1 := hW.2.1; have s2 := hW.2.2.1; have s3 := hW.2.2.2; (go_simp <;> with_reducible rfl))
                            try simp only [Act.put, List.setIfInBounds_toArray, List.set_cons_zero, List.set_cons_succ]
                            refine seq_take (o := ⟨_, _, _, _, _, _⟩) (v := ?_) (by rw [HO.out]; rfl) (by rfl) ?_ ?_
                            rotate_left 1
                            · first | ((intro W _; go_simp) <;> with_reducible rfl) | (intro W hW; have s0 := hW.1; have s1 := hW.2.1; have s2 := hW.2.2.1; have s3 := hW.2.2.2; (go_simp <;> with_reducible rfl))
                            try simp only [Act.put, List.setIfInBounds_toArray, List.set_cons_zero, List.set_cons_succ]
                            refine seq_take (o := ⟨_, _, _, _, _, _⟩) (v := ?_) (by rw [HO.out]; rfl) (by rfl) ?_ ?_
                            rotate_left 1
                            · first | ((intro W _; go_simp) <;> with_reducible rfl) | (intro W hW; have s0 := hW.1; have s1 := hW.2.1; have s2 := hW.2.2.1; have s3 := hW.2.2.2; (go_simp <;> with_reducible rfl))
                            try simp only [Act.put, List.setIfInBounds_toArray, List.set_cons_zero, List.set_cons_succ]
                            refine seq_take (o := ⟨_, _, _, _, _, _⟩) (v := ?_) (by rw [HO.out]; rfl) (by rfl) ?_ ?_
                            rotate_left 1
                            · first | ((intro W _; go_simp) <;> with_reducible rfl) | (intro W hW; have s0 := hW.1; have s1 := hW.2.1; have s2 := hW.2.2.1; have s3 := hW.2.2.2; (go_simp <;> with_reducible rfl))
                            try simp only [Act.put, List.setIfInBounds_toArray, List.set_cons_zero, List.set_cons_succ]
                            refine seq_take (o := ⟨_, _, _, _, _, _⟩) (v := ?_) (by rw [HO.out]; rfl) (by rfl) ?_ ?_
                            rotate_left 1
                            · first | ((intro W _; go_simp) <;> with_reducible rfl) | (intro W hW; have s0 := hW.1; have s1 := hW.2.1; have s2 := hW.2.2.1; have s3 := hW.2.2.2; (go_simp <;> with_reducible rfl))
                            try simp only [Act.put, List.setIfInBounds_toArray, List.set_cons_zero, List.set_cons_succ]
                            refine seq_take (o := ⟨_, _, _, _, _, _⟩) (v := ?_) (by rw [HO.out]; rfl) (by rfl) ?_ ?_
                            rotate_left 1
                            · first | ((intro W _; go_simp) <;> with_reducible rfl) | (intro W hW; have s0 := hW.1; have s1 := hW.2.1; have s2 := hW.2.2.1; have s3 := hW.2.2.2; (go_simp <;> with_reducible rfl))
                            try simp only [Act.put, List.setIfInBounds_toArray, List.set_cons_zero, List.set_cons_succ]
                            refine seq_take (o := ⟨_, _, _, _, _, _⟩) (v := ?_) (by rw [HO.out]; rfl) (by rfl) ?_ ?_
                            rotate_left 1
                            · first | ((intro W _; go_simp) <;> with_reducible rfl) | (intro W hW; have s0 := hW.1; have s1 := hW.2.1; have s2 := hW.2.2.1; have s3 := hW.2.2.2; (go_simp <;> with_reducible rfl))
                            try simp only [Act.put, List.setIfInBounds_toArray, List.set_cons_zero, List.set_cons_succ]
                            refine seq_take (o := ⟨_, _, _, _, _, _⟩) (v := ?_) (by rw [HO.out]; rfl) (by rfl) ?_ ?_
                            rotate_left 1
                            · first | ((intro W _; go_simp) <;> with_reducible rfl) | (intro W hW; have s0 := hW.1; have s1 := hW.2.1; have s2 := hW.2.2.1; have s3 := hW.2.2.2; (go_simp <;> with_reducible rfl))
                            try simp only [Act.put, List.setIfInBounds_toArray, List.set_cons_zero, List.set_cons_succ]
                            refine seq_take (o := ⟨_, _, _, _, _, _⟩) (v := ?_) (by rw [HO.out]; rfl) (by rfl) ?_ ?_
                            rotate_left 1
                            · first | ((intro W _; go_simp) <;> with_reducible rfl) | (intro W hW; have s0 := hW.1; have s1 := hW.2.1; have s2 := hW.2.2.1; have s3 := hW.2.2.2; (go_simp <;> with_reducible rfl))
                            try simp only [Act.put, List.setIfInBounds_toArray, List.set_cons_zero, List.set_cons_succ]
                            refine seq_take (o := ⟨_, _, _, _, _, _⟩) (v := ?_) (by rw [HO.out]; rfl) (by rfl) ?_ ?_
                            rotate_left 1
                            · first | ((intro W _; go_simp) <;> with_reducible rfl) | (intro W hW; have s0 := hW.1; have s1 := hW.2.1; have s2 := hW.2.2.1; have s3 := hW.2.2.2; (go_simp <;> with_reducible rfl))
                            try simp only [Act.put, List.setIfInBounds_toArray, List.set_cons_zero, List.set_cons_succ]
                            refine seq_take (o := ⟨_, _, _, _, _, _⟩) (v := ?_) (by rw [HO.out]; rfl) (by rfl) ?_ ?_
                            rotate_left 1
                            · first | ((intro W _; go_simp) <;> with_reducible rfl) | (intro W hW; have s0 := hW.1; have s1 := hW.2.1; have s2 := hW.2.2.1; have s3 := hW.2.2.2; (go_simp <;> with_reducible rfl))
                            try simp only [Act.put, List.setIfInBounds_toArray, List.set_cons_zero, List.set_cons_succ]
                            refine seq_do (o := ⟨_, _, _, _, _, _⟩) (by rw [HO.out]; rfl) (by rfl) (fun K hK => ?_)
                            go_wp2_with (refine HV.out.mono ?_; rintro ed w9 hv; have HNx := Lib.hid (HMk.out w9 ed hv); obtain ⟨rfl, _⟩ := hv; have hb9 := bTrans HBz.out HNx.out.below; have hS := And.intro ((HBA.out.under hb9).cell (j := 0) rfl) (And.intro (HCl.out.2 w9 hb9).1.1 (And.intro (HCl.out.2 w9 hb9).1.2 (BoxIs.cell (j := 0) HNx.out.box rfl))); clear hb9 HV HMk)
                            refine hK.out _ _ hS (fun _ => ?_)
                            clear hK K
                            try simp only [Act.put, List.setIfInBounds_toArray, List.set_cons_zero, List.set_cons_succ]
                            refine seq_done ?_
                            clear HO OPS HS0
                            go_wp2_with fail
                            go_roundg gc
                            case measure => omega
                            case rel => exact ⟨cc.toNat + 1, by omega, by omega, by go_num, HNx⟩
                          · have e3 : ¬ (x.2 : Int) < 3 := by omega
                            have HGr : Hid (grownN x.2 cc = some 3) := Lib.hid (by unfold grownN; rw [if_neg h47, if_neg (fun h => h.2 (by omega))])
                            have hkk : (3 : Nat) ≤ 3 := by decide
                            have HKv : Hid (((3 : Nat) : Int) = 3) := Lib.hid rfl
                            clear h46 h47 h3
                            have HI7d := Lib.hid (HI7.out.under (drB0 (Below.refl w7.heap.size w7)))
                            obtain ⟨T1, l, a1, a2, a3, a4, a5, a6⟩ := HI7d.out
                            have hbx : Below wc.heap.size wc w7.drew := bTrans HBz.out a3
                            have HV : Hid (Calls Tryz.prog 31 #[.int .i64 gq.tt, .int .i64 3, .pointer (some ⟨ba, 0, none⟩), .pointer (some ⟨bs, 0, none⟩), .pointer (some ⟨bt, 0, none⟩)] w7.drew (PutRes A hN wz.heap.size bs bt (fun j => j = pb) T1 l gq.tt 3 w7.drew)) := Lib.hid (HPutK.out w7.drew wz.heap.size bs bt (fun j => j = pb) T1 l gq.tt 3 hbx a1 hdA hkk (by omega) a3.size)
                            have HMk := Lib.hid (fun w9 ed (hv : PutRes A hN wz.heap.size bs bt (fun j => j = pb) T1 l gq.tt 3 w7.drew ed w9) => ScG.put HW.out HC0.out ((HCl.out.1 cc gq.tt).2 ⟨HPs.out, rfl⟩) hdA HGr.out hkk a2 a3 a4 a5 a6 (fun d' hd' => ((HCl.out.1 cc d').1 hd').2) hv)
                            have HS0 : Hid (w7.drew.cell? ⟨ba, 0, none⟩ = some (.pointer (some ⟨b, 0, none⟩)) ∧ w7.drew.cell? ⟨b, 0, none⟩ = some (.slice (some ⟨gb, 0, none⟩) A.length cap2) ∧ w7.drew.cell? ⟨gb, x.1 * 4 + 3, none⟩ = some (.int .i64 gq.tt) ∧ w7.drew.cell? ⟨pb, 0, none⟩ = some (.int .i64 x.1)) := Lib.hid ⟨(HBA.out.under hbx).cell (j := 0) rfl, (HCl.out.2 w7.drew hbx).1.1, (HCl.out.2 w7.drew hbx).1.2, BoxIs.cell (j := 0) a2 rfl⟩
                            clear a1 a2 a3 a4 a5 a6 hbx HI7d HI7 HGr HKv hkk
                            go_upto_region 47 with fail
                            clear p1
                            refine wp_region_seq (fun W => W.cell? ⟨ba, 0, none⟩ = some (.pointer (some ⟨b, 0, none⟩)) ∧ W.cell? ⟨b, 0, none⟩ = some (.slice (some ⟨gb, 0, none⟩) A.length cap2) ∧ W.cell? ⟨gb, x.1 * 4 + 3, none⟩ = some (.int .i64 gq.tt) ∧ W.cell? ⟨pb, 0, none⟩ = some (.int .i64 x.1)) [(0, true), (1, true), (2, true), (3, true), (4, true), (5, true), (6, true), (7, true), (8, true), (9, true), (10, true), (11, false)] (by as_aux_lemma => kernel_rfl) (by as_aux_lemma => kernel_rfl) (by decide) (by as_aux_lemma => kernel_rfl) (HS0.out) ?_
                            intro OPS HO
                            refine seq_take (o := ⟨_, _, _, _, _, _⟩) (v := ?_) (by rw [HO.out]; rfl) (by rfl) ?_ ?_
                            rotate_left 1
                            · first | ((intro W _; go_simp) <;> with_reducible rfl) | (intro W hW; have s0 := hW.1; have s1 := hW.2.1; have s2 := hW.2.2.1; have s3 := hW.2.2.2; (go_simp <;> with_reducible rfl))
                            try simp only [Act.put, List.setIfInBounds_toArray, List.set_cons_zero, List.set_cons_succ]
                            refine seq_take (o := ⟨_, _, _, _, _, _⟩) (v := ?_) (by rw [HO.out]; rfl) (by rfl) ?_ ?_
                            rotate_left 1
                            · first | ((intro W _; go_simp) <;> with_reducible rfl) | (intro W hW; have s0 := hW.1; have s1 := hW.2.1; have s2 := hW.2.2.1; have s3 := hW.2.2.2; (go_simp <;> with_reducible rfl))
                            try simp only [Act.put, List.setIfInBounds_toArray, List.set_cons_zero, List.set_cons_succ]
                            refine seq_take (o := ⟨_, _, _, _, _, _⟩) (v := ?_) (by rw [HO.out]; rfl) (by rfl) ?_ ?_
                            rotate_left 1
                            · first | ((intro W _; go_simp) <;> with_reducible rfl) | (intro W hW; have s0 := hW.1; have s1 := hW.2.1; have s2 := hW.2.2.1; have s3 := hW.2.2.2; (go_simp <;> with_reducible rfl))
                            try simp only [Act.put, List.setIfInBounds_toArray, List.set_cons_zero, List.set_cons_succ]
                            refine seq_take (o := ⟨_, _, _, _, _, _⟩) (v := ?_) (by rw [HO.out]; rfl) (by rfl) ?_ ?_
                            rotate_left 1
                            · first | ((intro W _; go_simp) <;> with_reducible rfl) | (intro W hW; have s0 := hW.1; have s1 := hW.2.1; have s2 := hW.2.2.1; have s3 := hW.2.2.2; (go_simp <;> with_reducible rfl))
                            try simp only [Act.put, List.setIfInBounds_toArray, List.set_cons_zero, List.set_cons_succ]
                            refine seq_take (o := ⟨_, _, _, _, _, _⟩) (v := ?_) (by rw [HO.out]; rfl) (by rfl) ?_ ?_
                            rotate_left 1
                            · first | ((intro W _; go_simp) <;> with_reducible rfl) | (intro W hW; have s0 := hW.1; have s1 := hW.2.1; have s2 := hW.2.2.1; have s3 := hW.2.2.2; (go_simp <;> with_reducible rfl))
                            try simp only [Act.put, List.setIfInBounds_toArray, List.set_cons_zero, List.set_cons_succ]
                            refine seq_take (o := ⟨_, _, _, _, _, _⟩) (v := ?_) (by rw [HO.out]; rfl) (by rfl) ?_ ?_
                            rotate_left 1
                            · first | ((intro W _; go_simp) <;> with_reducible rfl) | (intro W hW; have s0 := hW.1; have s1 := hW.2.1; have s2 := hW.2.2.1; have s3 := hW.2.2.2; (go_simp <;> with_reducible rfl))
                            try simp only [Act.put, List.setIfInBounds_toArray, List.set_cons_zero, List.set_cons_succ]
                            refine seq_take (o := ⟨_, _, _, _, _, _⟩) (v := ?_) (by rw [HO.out]; rfl) (by rfl) ?_ ?_
                            rotate_left 1
                            · first | ((intro W _; go_simp) <;> with_reducible rfl) | (intro W hW; have s0 := hW.1; have s1 := hW.2.1; have s2 := hW.2.2.1; have s3 := hW.2.2.2; (go_simp <;> with_reducible rfl))
                            try simp only [Act.put, List.setIfInBounds_toArray, List.set_cons_zero, List.set_cons_succ]
                            refine seq_take (o := ⟨_, _, _, _, _, _⟩) (v := ?_) (by rw [HO.out]; rfl) (by rfl) ?_ ?_
                            rotate_left 1
                            · first | ((intro W _; go_simp) <;> with_reducible rfl) | (intro W hW; have s0 := hW.1; have s1 := hW.2.1; have s2 := hW.2.2.1; have s3 := hW.2.2.2; (go_simp <;> with_reducible rfl))
                            try simp only [Act.put, List.setIfInBounds_toArray, List.set_cons_zero, List.set_cons_succ]
                            refine seq_take (o := ⟨_, _, _, _, _, _⟩) (v := ?_) (by rw [HO.out]; rfl) (by rfl) ?_ ?_
                            rotate_left 1
                            · first | ((intro W _; go_simp) <;> with_reducible rfl) | (intro W hW; have s0 := hW.1; have s1 := hW.2.1; have s2 := hW.2.2.1; have s3 := hW.2.2.2; (go_simp <;> with_reducible rfl))
                            try simp only [Act.put, List.setIfInBounds_toArray, List.set_cons_zero, List.set_cons_succ]
                            refine seq_take (o := ⟨_, _, _, _, _, _⟩) (v := ?_) (by rw [HO.out]; rfl) (by rfl) ?_ ?_
                            rotate_left 1
                            · first | ((intro W _; go_simp) <;> with_reducible rfl) | (intro W hW; have s0 := hW.1; have s1 := hW.2.1; have s2 := hW.2.2.1; have s3 := hW.2.2.2; (go_simp <;> with_reducible rfl))
                            try simp only [Act.put, List.setIfInBounds_toArray, List.set_cons_zero, List.set_cons_succ]
                            refine seq_take (o := ⟨_, _, _, _, _, _⟩) (v := ?_) (by rw [HO.out]; rfl) (by rfl) ?_ ?_
                            rotate_left 1
                            · first | ((intro W _; go_simp) <;> with_reducible rfl) | (intro W hW; have s0 := hW.1; have s1 := hW.2.1; have s2 := hW.2.2.1; have s3 := hW.2.2.2; (go_simp <;> with_reducible rfl))
                            try simp only [Act.put, List.setIfInBounds_toArray, List.set_cons_zero, List.set_cons_succ]
                            refine seq_do (o := ⟨_, _, _, _, _, _⟩) (by rw [HO.out]; rfl) (by rfl) (fun K hK => ?_)
                            go_wp2_with (refine HV.out.mono ?_; rintro ed w9 hv; have HNx := Lib.hid (HMk.out w9 ed hv); obtain ⟨rfl, _⟩ := hv; have hb9 := bTrans HBz.out HNx.out.below; have hS := And.intro ((HBA.out.under hb9).cell (j := 0) rfl) (And.intro (HCl.out.2 w9 hb9).1.1 (And.intro (HCl.out.2 w9 hb9).1.2 (BoxIs.cell (j := 0) HNx.out.box rfl))); clear hb9 HV HMk)
                            refine hK.out _ _ hS (fun _ => ?_)
                            clear hK K
                            try simp only [Act.put, List.setIfInBounds_toArray, List.set_cons_zero, List.set_cons_succ]
                            refine seq_done ?_
                            clear HO OPS HS0
                            go_wp2_with fail
                            go_roundg gc
                            case measure => omega
                            case rel => exact ⟨cc.toNat + 1, by omega, by omega, by go_num, HNx⟩
                        · have e46 : ((cc.toNat : Int) == 46) = false := by
                            have : cc.toNat ≠ 46 := fun e => h46 (UInt8.toNat_inj.1 (by simpa using e))
                            rw [beq_eq_false_iff_ne]
                            omega
                          have HGr : Hid (grownN x.2 cc = some 3) := Lib.hid (by unfold grownN; rw [if_neg h47, if_neg (fun h => h46 h.1)])
                          have hkk : (3 : Nat) ≤ 3 := by decide
                          have HKv : Hid (((3 : Nat) : Int) = 3) := Lib.hid rfl
                          clear h46 h47
                          have HI7d := Lib.hid (HI7.out.under (drB0 (Below.refl w7.heap.size w7)))
                          obtain ⟨T1, l, a1, a2, a3, a4, a5, a6⟩ := HI7d.out
                          have hbx : Below wc.heap.size wc w7.drew := bTrans HBz.out a3
                          have HV : Hid (Calls Tryz.prog 31 #[.int .i64 gq.tt, .int .i64 3, .pointer (some ⟨ba, 0, none⟩), .pointer (some ⟨bs, 0, none⟩), .pointer (some ⟨bt, 0, none⟩)] w7.drew (PutRes A hN wz.heap.size bs bt (fun j => j = pb) T1 l gq.tt 3 w7.drew)) := Lib.hid (HPutK.out w7.drew wz.heap.size bs bt (fun j => j = pb) T1 l gq.tt 3 hbx a1 hdA hkk (by omega) a3.size)
                          have HMk := Lib.hid (fun w9 ed (hv : PutRes A hN wz.heap.size bs bt (fun j => j = pb) T1 l gq.tt 3 w7.drew ed w9) => ScG.put HW.out HC0.out ((HCl.out.1 cc gq.tt).2 ⟨HPs.out, rfl⟩) hdA HGr.out hkk a2 a3 a4 a5 a6 (fun d' hd' => ((HCl.out.1 cc d').1 hd').2) hv)
                          have HS0 : Hid (w7.drew.cell? ⟨ba, 0, none⟩ = some (.pointer (some ⟨b, 0, none⟩)) ∧ w7.drew.cell? ⟨b, 0, none⟩ = some (.slice (some ⟨gb, 0, none⟩) A.length cap2) ∧ w7.drew.cell? ⟨gb, x.1 * 4 + 3, none⟩ = some (.int .i64 gq.tt) ∧ w7.drew.cell? ⟨pb, 0, none⟩ = some (.int .i64 x.1)) := Lib.hid ⟨(HBA.out.under hbx).cell (j := 0) rfl, (HCl.out.2 w7.drew hbx).1.1, (HCl.out.2 w7.drew hbx).1.2, BoxIs.cell (j := 0) a2 rfl⟩
                          clear a1 a2 a3 a4 a5 a6 hbx HI7d HI7 HGr HKv hkk
                          go_upto_region 47 with fail
                          clear p1
                          refine wp_region_seq (fun W => W.cell? ⟨ba, 0, none⟩ = some (.pointer (some ⟨b, 0, none⟩)) ∧ W.cell? ⟨b, 0, none⟩ = some (.slice (some ⟨gb, 0, none⟩) A.length cap2) ∧ W.cell? ⟨gb, x.1 * 4 + 3, none⟩ = some (.int .i64 gq.tt) ∧ W.cell? ⟨pb, 0, none⟩ = some (.int .i64 x.1)) [(0, true), (1, true), (2, true), (3, true), (4, true), (5, true), (6, true), (7, true), (8, true), (9, true), (10, true), (11, false)] (by as_aux_lemma => kernel_rfl) (by as_aux_lemma => kernel_rfl) (by decide) (by as_aux_lemma => kernel_rfl) (HS0.out) ?_
                          intro OPS HO
                          refine seq_take (o := ⟨_, _, _, _, _, _⟩) (v := ?_) (by rw [HO.out]; rfl) (by rfl) ?_ ?_
                          rotate_left 1
                          · first | ((intro W _; go_simp) <;> with_reducible rfl) | (intro W hW; have s0 := hW.1; have s1 := hW.2.1; have s2 := hW.2.2.1; have s3 := hW.2.2.2; (go_simp <;> with_reducible rfl))
                          try simp only [Act.put, List.setIfInBounds_toArray, List.set_cons_zero, List.set_cons_succ]
                          refine seq_take (o := ⟨_, _, _, _, _, _⟩) (v := ?_) (by rw [HO.out]; rfl) (by rfl) ?_ ?_
                          rotate_left 1
                          · first | ((intro W _; go_simp) <;> with_reducible rfl) | (intro W hW; have s0 := hW.1; have s1 := hW.2.1; have s2 := hW.2.2.1; have s3 := hW.2.2.2; (go_simp <;> with_reducible rfl))
                          try simp only [Act.put, List.setIfInBounds_toArray, List.set_cons_zero, List.set_cons_succ]
                          refine seq_take (o := ⟨_, _, _, _, _, _⟩) (v := ?_) (by rw [HO.out]; rfl) (by rfl) ?_ ?_
                          rotate_left 1
                          · first | ((intro W _; go_simp) <;> with_reducible rfl) | (intro W hW; have s0 := hW.1; have s1 := hW.2.1; have s2 := hW.2.2.1; have s3 := hW.2.2.2; (go_simp <;> with_reducible rfl))
                          try simp only [Act.put, List.setIfInBounds_toArray, List.set_cons_zero, List.set_cons_succ]
                          refine seq_take (o := ⟨_, _, _, _, _, _⟩) (v := ?_) (by rw [HO.out]; rfl) (by rfl) ?_ ?_
                          rotate_left 1
                          · first | ((intro W _; go_simp) <;> with_reducible rfl) | (intro W hW; have s0 := hW.1; have s1 := hW.2.1; have s2 := hW.2.2.1; have s3 := hW.2.2.2; (go_simp <;> with_reducible rfl))
                          try simp only [Act.put, List.setIfInBounds_toArray, List.set_cons_zero, List.set_cons_succ]
                          refine seq_take (o := ⟨_, _, _, _, _, _⟩) (v := ?_) (by rw [HO.out]; rfl) (by rfl) ?_ ?_
                          rotate_left 1
                          · first | ((intro W _; go_simp) <;> with_reducible rfl) | (intro W hW; have s0 := hW.1; have s1 := hW.2.1; have s2 := hW.2.2.1; have s3 := hW.2.2.2; (go_simp <;> with_reducible rfl))
                          try simp only [Act.put, List.setIfInBounds_toArray, List.set_cons_zero, List.set_cons_succ]
                          refine seq_take (o := ⟨_, _, _, _, _, _⟩) (v := ?_) (by rw [HO.out]; rfl) (by rfl) ?_ ?_
                          rotate_left 1
                          · first | ((intro W _; go_simp) <;> with_reducible rfl) | (intro W hW; have s0 := hW.1; have s1 := hW.2.1; have s2 := hW.2.2.1; have s3 := hW.2.2.2; (go_simp <;> with_reducible rfl))
                          try simp only [Act.put, List.setIfInBounds_toArray, List.set_cons_zero, List.set_cons_succ]
                          refine seq_take (o := ⟨_, _, _, _, _, _⟩) (v := ?_) (by rw [HO.out]; rfl) (by rfl) ?_ ?_
                          rotate_left 1
                          · first | ((intro W _; go_simp) <;> with_reducible rfl) | (intro W hW; have s0 := hW.1; have s1 := hW.2.1; have s2 := hW.2.2.1; have s3 := hW.2.2.2; (go_simp <;> with_reducible rfl))
                          try simp only [Act.put, List.setIfInBounds_toArray, List.set_cons_zero, List.set_cons_succ]
                          refine seq_take (o := ⟨_, _, _, _, _, _⟩) (v := ?_) (by rw [HO.out]; rfl) (by rfl) ?_ ?_
                          rotate_left 1
                          · first | ((intro W _; go_simp) <;> with_reducible rfl) | (intro W hW; have s0 := hW.1; have s1 := hW.2.1; have s2 := hW.2.2.1; have s3 := hW.2.2.2; (go_simp <;> with_reducible rfl))
                          try simp only [Act.put, List.setIfInBounds_toArray, List.set_cons_zero, List.set_cons_succ]
                          refine seq_take (o := ⟨_, _, _, _, _, _⟩) (v := ?_) (by rw [HO.out]; rfl) (by rfl) ?_ ?_
                          rotate_left 1
                          · first | ((intro W _; go_simp) <;> with_reducible rfl) | (intro W hW; have s0 := hW.1; have s1 := hW.2.1; have s2 := hW.2.2.1; have s3 := hW.2.2.2; (go_simp <;> with_reducible rfl))
                          try simp only [Act.put, List.setIfInBounds_toArray, List.set_cons_zero, List.set_cons_succ]
                          refine seq_take (o := ⟨_, _, _, _, _, _⟩) (v := ?_) (by rw [HO.out]; rfl) (by rfl) ?_ ?_
                          rotate_left 1
                          · first | ((intro W _; go_simp) <;> with_reducible rfl) | (intro W hW; have s0 := hW.1; have s1 := hW.2.1; have s2 := hW.2.2.1; have s3 := hW.2.2.2; (go_simp <;> with_reducible rfl))
                          try simp only [Act.put, List.setIfInBounds_toArray, List.set_cons_zero, List.set_cons_succ]
                          refine seq_take (o := ⟨_, _, _, _, _, _⟩) (v := ?_) (by rw [HO.out]; rfl) (by rfl) ?_ ?_
                          rotate_left 1
                          · first | ((intro W _; go_simp) <;> with_reducible rfl) | (intro W hW; have s0 := hW.1; have s1 := hW.2.1; have s2 := hW.2.2.1; have s3 := hW.2.2.2; (go_simp <;> with_reducible rfl))
                          try simp only [Act.put, List.setIfInBounds_toArray, List.set_cons_zero, List.set_cons_succ]
                          refine seq_do (o := ⟨_, _, _, _, _, _⟩) (by rw [HO.out]; rfl) (by rfl) (fun K hK => ?_)
                          go_wp2_with (refine HV.out.mono ?_; rintro ed w9 hv; have HNx := Lib.hid (HMk.out w9 ed hv); obtain ⟨rfl, _⟩ := hv; have hb9 := bTrans HBz.out HNx.out.below; have hS := And.intro ((HBA.out.under hb9).cell (j := 0) rfl) (And.intro (HCl.out.2 w9 hb9).1.1 (And.intro (HCl.out.2 w9 hb9).1.2 (BoxIs.cell (j := 0) HNx.out.box rfl))); clear hb9 HV HMk)
                          refine hK.out _ _ hS (fun _ => ?_)
                          clear hK K
                          try simp only [Act.put, List.setIfInBounds_toArray, List.set_cons_zero, List.set_cons_succ]
                          refine seq_done ?_
                          clear HO OPS HS0
                          go_wp2_with fail
                          go_roundg gc
                          case measure => omega
                          case rel => exact ⟨cc.toNat + 1, by omega, by omega, by go_num, HNx⟩
                  · obtain rfl : ci = 256 := by omega
                    have HNx : Hid (SrG A hN T bs bt wz wr g) := Lib.hid (HI.out.finish HBad.out (fun y hy => byC_all hy))
                    clear HI
                    go_wp2_with fail
                    go_roundg g
                    case measure => omega
                    case rel => exact ⟨by omega, HNx⟩
        · intro q w2 c2 hlq hqN hR2 hc2 hg2 hen2
          obtain ⟨gi, rfl⟩ : ∃ gi, gk = gi + 1 := ⟨gk - 1, by omega⟩
          have hb2 : Below wz.heap.size wz w2 := H.out.2.1.grown hg2 H.out.2.1.size (fun k hk => by cases hk; exact hr.1)
          have HMk := Lib.hid (fun w3 ed (hv : PutRes A hN wz.heap.size bs bt (fun k => k = m ∨ k = W3.heap.size) T1 l q 0 w2 ed w3) => Sg1.more HW.out H.out.2.1 H.out.2.2.1 H.out.2.2.2.1 H.out.2.2.2.2 H.out.2.1.size hr.1 hlq (h2.sub hlq) hqN hR2 hg2 hv)
          have hl9 : l.length ≤ 800000000 := by have := H.out.2.2.2.2; omega
          have HV : Hid (Calls Tryz.prog 31 #[.int .i64 q, .int .i64 0, .pointer (some ⟨ba, 0, none⟩), .pointer (some ⟨bs, 0, none⟩), .pointer (some ⟨bt, 0, none⟩)] w2 (PutRes A hN wz.heap.size bs bt (fun k => k = m ∨ k = W3.heap.size) T1 l q 0 w2)) := Lib.hid (HPutK.out w2 wz.heap.size bs bt (fun k => k = m ∨ k = W3.heap.size) T1 l q 0 (bTrans HBz.out hb2) (H.out.1.other (r := W3.heap.size) (.inr rfl) (by omega) hg2) hqN (by omega) hl9 hb2.size)
          clear hlq hR2 hg2 h2 hb2 hl9
          go_wp2_with (refine HV.out.mono ?_; rintro ed w3 hv; have HNx := Lib.hid (HMk.out w3 ed hv); obtain ⟨rfl, _⟩ := hv; clear HV HMk)
          go_roundg gi
          case measure => omega
          case rel => exact ⟨c2, by omega, HNx⟩
end Go.Proofs.YtnpcbcnclncniaaGreatDoor
namespace Go.Proofs.YtnpcbcnclncniaaGreatDoor
open Go.RowKit

theorem splitC_cover {c : UInt8} : ∀ {l : List UInt8} {b : UInt8}, b ∈ l → b = c ∨ ∃ x ∈ Wh.splitC c l, b ∈ x
  | [], b, h => by cases h
  | a :: l, b, h => by
    by_cases hac : a = c
    · rcases List.mem_cons.1 h with rfl | h
      · exact .inl hac
      · rcases splitC_cover (c := c) h with h | ⟨x, h1, h2⟩
        · exact .inl h
        · refine .inr ⟨x, ?_, h2⟩
          unfold Wh.splitC
          rw [if_pos (beq_iff_eq.2 hac)]
          exact List.mem_cons_of_mem _ h1
    · cases hs : Wh.splitC c l with
      | nil => exact absurd hs (Wh.splitC_ne c l)
      | cons y r =>
        rw [Wh.splitC_cons_ne hac hs]
        rcases List.mem_cons.1 h with rfl | h
        · exact .inr ⟨_, List.mem_cons_self, List.mem_cons_self⟩
        · rcases splitC_cover (c := c) h with h | ⟨x, h1, h2⟩
          · exact .inl h
          · rw [hs] at h1
            rcases List.mem_cons.1 h1 with rfl | h1
            · exact .inr ⟨_, List.mem_cons_self, List.mem_cons_of_mem _ h2⟩
            · exact .inr ⟨x, List.mem_cons_of_mem _ h1, h2⟩
theorem path_no0 {l : List UInt8} (h : Wh.isPath l = true) : ∀ b ∈ l, b ≠ 0 := by
  intro b hb
  unfold Wh.isPath at h
  cases l with
  | nil => cases hb
  | cons a r =>
    simp only [List.isEmpty_cons, Bool.false_or, Bool.and_eq_true] at h
    rcases splitC_cover (c := 47) hb with rfl | ⟨x, h1, h2⟩
    · decide
    · exact ((isName_parts (List.all_eq_true.1 h.2 x h1)).2.2.2 b h2).1
set_option maxHeartbeats 4000000 in
set_option maxRecDepth 100000 in
theorem globBelow_walk (n : Nat) (x : Sl (P n)) (rooted dirs : Bool) (s : ByteArray) (w : World) (hE : Env w) (hs : SOk w n x) (hz : szL n x.xs ≤ 1048576) (hsz : s.size ≤ 9223372036854775807) :
    Calls Tryz.prog 3 #[globVal rooted dirs x, .string s] w fun e w' => e = .returned (.bool true) ∧ Below w.heap.size w w' := by
  have hb1 := bAlloc (Below.refl w.heap.size w) (.cells (globArr rooted dirs x) 24)
  have HQ := Lib.hid (BoxIs.new w (globArr rooted dirs x) 24)
  have HL := Lib.hid (fun W (hb : Below w.heap.size w W) => landed_any W (hE.under hb))
  have HC := Lib.hid (fun W (hb : Below w.heap.size w W) => Below_any n x rooted dirs s W (hE.under hb) (hs.under hb) hz hsz)
  have HK := Lib.hid (fun W (hb : Below w.heap.size w W) => refCheckGlob_any n x rooted dirs W (hs.under hb) hz)
  have HP : Hid (∀ W b c, Below w.heap.size w W → Holds W (some ⟨b, 0, none⟩) ([s].map Value.string) → Calls Tryz.prog 8 #[.slice (some ⟨b, 0, none⟩) 1 c] W fun e w' => e = .returned (.int .i64 (Wh.pathErr s.data.toList)) ∧ Below W.heap.size W w') := Lib.hid (fun W b c hb hH => by
    have := pathError_any (some ⟨b, 0, none⟩) c [s] W (hE.under hb) (by simp) (by simp [hsz]) hH
    rw [pathsErr_one] at this
    exact this)
  have HM := Lib.hid (fun (hk : ckG rooted dirs n x.xs = 0) (he : Wh.pathErr s.data.toList = 0) W (hb : Below w.heap.size w W) => (refGlobBelow_any n x rooted dirs s W (hs.under hb) (good_of_chk n x.xs (chk_of_ckG hk)) hz (by have := Wh.path_size (Wh.pathErr_zero he); omega) (path_no0 (Wh.pathErr_zero he))).mono (fun e w' h => (by obtain ⟨r, h1, h2, h3⟩ := h; exact ⟨r, h1, h2.trans (refBelow_iff (good_of_chk n x.xs (chk_of_ckG hk)) (Wh.pathErr_zero he)), h3⟩ : BoolRes (BelowP rooted dirs n x.xs s.data.toList) W e w')))
  generalize ckG rooted dirs n x.xs = K at *
  generalize Wh.pathErr s.data.toList = E at *
  generalize BelowP rooted dirs n x.xs s.data.toList = GM at *
  clear hs hz hE
  go_enter Tryz.func3, Tryz.ntmps3
  go_upto_region 1 with fail
  generalize w.alloc _ = w1 at *
  go_wp2_with fail
  refine (HL.out _ hb1).mono ?_
  rintro e w2 ⟨rfl, hb2⟩
  have HQ2 := Lib.hid (HQ.out.under hb2)
  replace hb2 := bTrans hb1 hb2
  clear HL HQ hb1
  have c0 := HQ2.out.cell (j := 0) rfl
  have c1 := HQ2.out.cell (j := 1) rfl
  have c2 := HQ2.out.cell (j := 2) rfl
  go_wp2_with fail
  refine (HC.out _ hb2).mono ?_
  rintro e w3 ⟨b, rfl, hbq, hb3⟩
  have HB := Lib.hid hbq
  have HQ3 := Lib.hid (HQ2.out.under hb3)
  replace hb3 := bTrans hb2 hb3
  clear c0 c1 c2 HQ2 hb2 HC hbq
  have c0 := HQ3.out.cell (j := 0) rfl
  have c1 := HQ3.out.cell (j := 1) rfl
  have c2 := HQ3.out.cell (j := 2) rfl
  by_cases hK : K = 0
  case neg =>
    obtain rfl : b = false := by
      cases b
      · rfl
      · exact absurd (HB.out.1 rfl).1 hK
    have hK' : (K != 0) = true := by simp [hK]
    rw [if_pos hK]
    clear hK HM HB
    go_wp2_with fail
    refine (HK.out _ hb3).mono ?_
    rintro e w4 ⟨rfl, hb4⟩
    go_wp2_with fail
    go_ret
    exact ⟨rfl, bTrans hb3 hb4⟩
  subst hK
  rw [if_neg (by decide)]
  go_wp2_with fail
  refine (HK.out _ hb3).mono ?_
  rintro e w4 ⟨rfl, hb4⟩
  have HQ4 := Lib.hid (HQ3.out.under hb4)
  replace hb4 := bTrans hb3 hb4
  clear c0 c1 c2 HQ3 hb3 HK
  have HH := Lib.hid (holds_one w4 9 s)
  have hb5 := bAlloc hb4 (.cells #[.string s] 9)
  have HQ5 := Lib.hid (HQ4.out.under (bAlloc (Below.refl w4.heap.size w4) (.cells #[.string s] 9)))
  have HP5 := Lib.hid (HP.out _ _ 1 hb5 HH.out)
  clear HP HH HQ4 hb4
  by_cases hEz : E = 0
  case neg =>
    obtain rfl : b = false := by
      cases b
      · rfl
      · exact absurd (HB.out.1 rfl).2.1 hEz
    have hE' : (E != 0) = true := by simp [hEz]
    clear hEz HM HB
    go_wp2_with fail
    refine HP5.out.mono ?_
    rintro e w6 ⟨rfl, hb6⟩
    go_wp2_with fail
    go_ret
    exact ⟨rfl, bTrans hb5 hb6⟩
  subst hEz
  go_wp2_with fail
  refine HP5.out.mono ?_
  rintro e w6 ⟨rfl, hb6⟩
  have HQ6 := Lib.hid (HQ5.out.under hb6)
  replace hb6 := bTrans hb5 hb6
  clear HQ5 hb5 HP5
  have c0 := HQ6.out.cell (j := 0) rfl
  have c1 := HQ6.out.cell (j := 1) rfl
  have c2 := HQ6.out.cell (j := 2) rfl
  have HM2 := Lib.hid (HM.out (by first | rfl | trivial) (by first | rfl | trivial) w6 hb6)
  clear HM
  go_wp2_with fail
  refine HM2.out.mono ?_
  rintro e w7 ⟨b2, rfl, hbq2, hb7⟩
  obtain rfl : b2 = b := by
    rw [Bool.eq_iff_iff, hbq2, HB.out]
    exact ⟨fun h => ⟨by first | rfl | trivial, by first | rfl | trivial, h⟩, fun h => h.2.2⟩
  clear hbq2 HB c0 c1 c2
  have hbb : (b2 == b2) = true := by simp
  go_wp2_with fail
  go_ret
  exact ⟨rfl, bTrans hb6 hb7⟩
end Go.Proofs.YtnpcbcnclncniaaGreatDoor
