/-
  both.CheckDeal.
-/
import Derived.Test.YtjcpcmiijadmcaaDoorDeal1
import Derived.Test.YtjcpcmiijadmcaaDoorConcat
import Derived.Test.YtjcpcmiijadmcaaDoorRows2
namespace Go.Proofs.YtjcpcmiijadmcaaDoor
open Go.RowKit

def refCells (x : Wh.Refusal) : List Value := [.string x.path, .int .i64 x.err]

/-- A deal's value: its slices. -/
structure DealAt where
  d : Wh.Deal
  a1 : Option Addr
  a2 : Option Addr
  a3 : Option Addr
  a4 : Option Addr
  c1 : Nat
  c2 : Nat
  c3 : Nat
  c4 : Nat
def DealAt.cells (x : DealAt) : Array Value := #[.slice x.a1 x.d.acts.length x.c1, .slice x.a2 x.d.refused.length x.c2, .slice x.a3 x.d.equal.length x.c3, .slice x.a4 x.d.conf.length x.c4]
abbrev dealVal (x : DealAt) : Value := .agg #[.slice x.a1 x.d.acts.length x.c1, .slice x.a2 x.d.refused.length x.c2, .slice x.a3 x.d.equal.length x.c3, .slice x.a4 x.d.conf.length x.c4]

structure DealOk (x : DealAt) (w : World) : Prop where
  acts : HoldsR w x.a1 6 (x.d.acts.map actCells)
  refs : HoldsR w x.a2 2 (x.d.refused.map refCells)
  equal : Holds w x.a3 (x.d.equal.map Value.string)
  conf : Holds w x.a4 (x.d.conf.map Value.string)
  z1 : ∀ y ∈ x.d.acts, y.frm.size ≤ 9223372036854775807 ∧ y.to.size ≤ 9223372036854775807
  z2 : ∀ y ∈ x.d.refused, y.path.size ≤ 9223372036854775807
  z3 : ∀ y ∈ x.d.equal, y.size ≤ 9223372036854775807
  z4 : ∀ y ∈ x.d.conf, y.size ≤ 9223372036854775807
  l1 : x.d.acts.length ≤ 9223372036854775807
  l2 : x.d.refused.length ≤ 9223372036854775807
  l3 : x.d.equal.length ≤ 9223372036854775807
  l4 : x.d.conf.length ≤ 9223372036854775807

theorem DealOk.under {x : DealAt} {w w' : World} (h : DealOk x w) (hb : Below w.heap.size w w') : DealOk x w' :=
  ⟨h.acts.under hb, h.refs.under hb, h.equal.under hb, h.conf.under hb, h.z1, h.z2, h.z3, h.z4, h.l1, h.l2, h.l3, h.l4⟩

theorem actRow {w : World} {a : Option Addr} {xs : List Wh.Act} (h : HoldsR w a 6 (xs.map actCells)) {k : Nat} {x : Wh.Act} (hk : xs[k]? = some x) :
    ∃ b off, a = some ⟨b, off, none⟩ ∧ b < w.heap.size ∧ w.cell? ⟨b, off + k * 6, none⟩ = some (.int .i64 x.kind) ∧ w.cell? ⟨b, off + k * 6 + 1, none⟩ = some (.int .i64 x.side) ∧
      w.cell? ⟨b, off + k * 6 + 2, none⟩ = some (.string x.frm) ∧ w.cell? ⟨b, off + k * 6 + 3, none⟩ = some (.string x.to) ∧ w.cell? ⟨b, off + k * 6 + 4, none⟩ = some (.int .i64 x.size) ∧ w.cell? ⟨b, off + k * 6 + 5, none⟩ = some (.int .i64 x.time) := by
  obtain ⟨b, off, ha, hb, hc⟩ := h.at (k := k) (row := actCells x) (by simp [hk])
  exact ⟨b, off, ha, hb, hc 0 _ rfl, hc 1 _ rfl, hc 2 _ rfl, hc 3 _ rfl, hc 4 _ rfl, hc 5 _ rfl⟩

theorem refRow {w : World} {a : Option Addr} {xs : List Wh.Refusal} (h : HoldsR w a 2 (xs.map refCells)) {k : Nat} {x : Wh.Refusal} (hk : xs[k]? = some x) :
    ∃ b off, a = some ⟨b, off, none⟩ ∧ b < w.heap.size ∧ w.cell? ⟨b, off + k * 2, none⟩ = some (.string x.path) ∧ w.cell? ⟨b, off + k * 2 + 1, none⟩ = some (.int .i64 x.err) := by
  obtain ⟨b, off, ha, hb, hc⟩ := h.at (k := k) (row := refCells x) (by simp [hk])
  exact ⟨b, off, ha, hb, hc 0 _ rfl, hc 1 _ rfl⟩

/-- A block that holds a deal. -/
def DealBox (w : World) (b : Nat) (x : DealAt) : Prop :=
  b < w.heap.size ∧ w.cell? ⟨b, 0, none⟩ = some (.slice x.a1 x.d.acts.length x.c1) ∧ w.cell? ⟨b, 1, none⟩ = some (.slice x.a2 x.d.refused.length x.c2) ∧ w.cell? ⟨b, 2, none⟩ = some (.slice x.a3 x.d.equal.length x.c3) ∧ w.cell? ⟨b, 3, none⟩ = some (.slice x.a4 x.d.conf.length x.c4)
theorem DealBox.under {w w' : World} {b : Nat} {x : DealAt} (h : DealBox w b x) (hb : Below w.heap.size w w') : DealBox w' b x := by
  obtain ⟨h0, h1, h2, h3, h4⟩ := h
  exact ⟨Nat.lt_of_lt_of_le h0 hb.size, (hb.cell (p := ⟨b, 0, none⟩) h0).trans h1, (hb.cell (p := ⟨b, 1, none⟩) h0).trans h2, (hb.cell (p := ⟨b, 2, none⟩) h0).trans h3, (hb.cell (p := ⟨b, 3, none⟩) h0).trans h4⟩
theorem dealBox_new (w : World) (x : DealAt) (t : TypeId) : DealBox (w.alloc (.cells #[.slice x.a1 x.d.acts.length x.c1, .slice x.a2 x.d.refused.length x.c2, .slice x.a3 x.d.equal.length x.c3, .slice x.a4 x.d.conf.length x.c4] t)) w.heap.size x := by
  refine ⟨by simp, ?_, ?_, ?_, ?_⟩ <;> (rw [World.cell?_alloc_at _ _ _ _ rfl]; rfl)

set_option maxHeartbeats 2000000 in
set_option maxRecDepth 100000 in
theorem checkDeal_any (x : DealAt) (w : World) (hE : Env w) (hD : DealOk x w) :
    Calls Tryd.prog 13 #[dealVal x] w fun e w' => e = .returned (.int .i64 (Wh.dealErr x.d)) ∧ Below w.heap.size w w' := by
  obtain ⟨⟨acts, refs, equal, conf⟩, a1, a2, a3, a4, c1, c2, c3, c4⟩ := x
  have l1 := hD.l1
  have l2 := hD.l2
  have l3 := hD.l3
  have l4 := hD.l4
  have HD := Lib.hid hD
  have HE := Lib.hid hE
  have HB1 := Lib.hid (dealBox_new w ⟨⟨acts, refs, equal, conf⟩, a1, a2, a3, a4, c1, c2, c3, c4⟩ 26)
  have HR : Hid (Wh.dealErr ⟨acts, refs, equal, conf⟩ = if Wh.Deal.big ⟨acts, refs, equal, conf⟩ then 8 else if Wh.actsErr acts = 0 then Wh.pathsErr (Wh.Deal.paths ⟨acts, refs, equal, conf⟩) else Wh.actsErr acts) := Lib.hid rfl
  clear hD hE
  simp only [] at *
  generalize Wh.dealErr ⟨acts, refs, equal, conf⟩ = E at *
  by_cases hbig : Wh.Deal.big ⟨acts, refs, equal, conf⟩
  · have HK : Hid (E = 8) := Lib.hid (by rw [HR.out, if_pos hbig])
    have hbg : 20000 < acts.length ∨ (¬ 20000 < acts.length ∧ 5000 < refs.length) ∨ (¬ 20000 < acts.length ∧ ¬ 5000 < refs.length ∧ 5000 < equal.length) ∨ (¬ 20000 < acts.length ∧ ¬ 5000 < refs.length ∧ ¬ 5000 < equal.length ∧ 5000 < conf.length) := by
      simp only [Wh.Deal.big] at hbig
      omega
    clear hbig HR
    rcases hbg with h | ⟨h, h'⟩ | ⟨h, h', h''⟩ | ⟨h, h', h'', h3⟩
    all_goals
      go_enter Tryd.func13, Tryd.ntmps13
      go_wp2_with fail
      go_ret
      exact ⟨ret_int HK.out.symm, bAlloc (Below.refl _ _) _⟩
  replace HR : Hid (E = if Wh.actsErr acts = 0 then Wh.pathsErr (Wh.Deal.paths ⟨acts, refs, equal, conf⟩) else Wh.actsErr acts) := Lib.hid (by rw [HR.out, if_neg hbig])
  have b1 : ¬ 20000 < acts.length := fun h => hbig (.inl h)
  have b2 : ¬ 5000 < refs.length := fun h => hbig (.inr (.inl h))
  have b3 : ¬ 5000 < equal.length := fun h => hbig (.inr (.inr (.inl h)))
  have b4 : ¬ 5000 < conf.length := fun h => hbig (.inr (.inr (.inr h)))
  clear hbig l1 l2 l3 l4
  go_enter Tryd.func13, Tryd.ntmps13
  go_upto_region 1 with fail
  have HB : Hid (Below w.heap.size w (w.alloc (.cells #[.slice a1 acts.length c1, .slice a2 refs.length c2, .slice a3 equal.length c3, .slice a4 conf.length c4] 26))) := Lib.hid (bAlloc (Below.refl _ _) _)
  generalize w.alloc _ = w1 at *
  obtain ⟨k0, k1, k2, k3, k4⟩ := HB1.out
  go_wp2_with fail
  go_loopg [37] acts.length (fun g i wx => ∃ k : Nat, k + g = acts.length ∧ i = .int .i64 k ∧ Below w1.heap.size w1 wx ∧ Hid (Wh.actsErr acts = Wh.actsErr (acts.drop k)))
  case atStart => exact ⟨0, by omega, rfl, Below.refl _ _, Lib.hid rfl⟩
  case round =>
    obtain ⟨k, hk, rfl, hb, HA⟩ := hrel
    obtain ⟨k0, k1, k2, k3, k4⟩ := HB1.out.under hb
    by_cases hlt : k < acts.length
    · obtain ⟨g, rfl⟩ : ∃ g, gk = g + 1 := ⟨gk - 1, by omega⟩
      obtain ⟨y, hx⟩ : ∃ y, acts[k]? = some y := ⟨_, List.getElem?_eq_getElem hlt⟩
      obtain ⟨ba, off, ha, hba, r0, r1, r2, r3, r4, r5⟩ := actRow (HD.out.acts.under (bTrans HB.out hb)) hx
      obtain ⟨z1, z2⟩ := HD.out.z1 y (List.mem_of_getElem? hx)
      have HSt := Lib.hid (fun h0 => Wh.actsErr_step hx h0)
      have HSp := Lib.hid (fun h0 => Wh.actsErr_stop hx h0)
      have HC := Lib.hid (fun W (hbb : Below wr.heap.size wr W) => checkAct_any y W (HE.out.under (bTrans HB.out (bTrans hb hbb))) z1 z2)
      clear hx z1 z2
      subst ha
      generalize Wh.actErr y = A0 at *
      by_cases h0 : A0 = 0
      · subst h0
        replace HSt := Lib.hid (HSt.out rfl)
        go_wp2_with fail
        refine (HC.out _ (bAlloc (Below.refl _ _) _)).mono ?_
        rintro e w' ⟨rfl, hb2⟩
        go_wp2_with fail
        go_roundg g
        case measure => omega
        case rel => exact ⟨k + 1, by omega, by go_num, bTrans (bAlloc hb _) hb2, Lib.hid (HA.out.trans HSt.out)⟩
      · have q : (A0 != 0) = true := by simp [h0]
        have HK : Hid (E = A0) := Lib.hid (by
          have := HA.out.trans (HSp.out h0)
          rw [HR.out, this, if_neg h0])
        clear h0 HSt HSp
        go_wp2_with fail
        refine (HC.out _ (bAlloc (Below.refl _ _) _)).mono ?_
        rintro e w' ⟨rfl, hb2⟩
        go_wp2_with fail
        go_ret
        exact ⟨ret_int HK.out.symm, bTrans HB.out (bTrans (bAlloc hb _) hb2)⟩
    · have HA2 : Hid (Wh.actsErr acts = 0) := Lib.hid (by rw [HA.out, List.drop_of_length_le (by omega)]; rfl)
      replace HR : Hid (E = Wh.pathsErr (Wh.Deal.paths ⟨acts, refs, equal, conf⟩)) := Lib.hid (by rw [HR.out, if_pos HA2.out])
      clear HA HA2 k0 k1 k3 k4
      go_wp2_with fail
      go_loopg [6, 50] refs.length (fun g l i wx => ∃ (k : Nat) (a : Option Addr) (cap : Nat), k + g = refs.length ∧ i = .int .i64 k ∧ l = .slice a k cap ∧ Hid (Own 9 w1 wx a k cap (((refs.take k).map (·.path)).map Value.string)))
      case atStart => exact ⟨0, none, 0, by omega, rfl, rfl, Lib.hid (Own.nil_at _ hb)⟩
      case round =>
        clear hk hlt hb k2
        obtain ⟨k, a, cap, hk, rfl, rfl, HO⟩ := hrel
        have hb := HO.out.below
        obtain ⟨k0, k1, k2, k3, k4⟩ := HB1.out.under hb
        by_cases hlt : k < refs.length
        · obtain ⟨g, rfl⟩ : ∃ g, gk = g + 1 := ⟨gk - 1, by omega⟩
          obtain ⟨y, hx⟩ : ∃ y, refs[k]? = some y := ⟨_, List.getElem?_eq_getElem hlt⟩
          obtain ⟨ba, off, ha, hba, r0, r1⟩ := refRow (HD.out.refs.under (bTrans HB.out hb)) hx
          subst ha
          have HT : Hid (((refs.take k).map (·.path)).map Value.string ++ [Value.string y.path] = ((refs.take (k + 1)).map (·.path)).map Value.string) := Lib.hid (by
            rw [List.take_add_one, hx]
            simp)
          have HO1 := Lib.hid (HO.out.under (bAlloc (Below.refl wr.heap.size wr) (.cells #[.string y.path, .int .i64 y.err] 72)))
          have hq : (wr.alloc (.cells #[.string y.path, .int .i64 y.err] 72)).cell? ⟨wr.heap.size, 0, none⟩ = some (.string y.path) := by rw [World.cell?_alloc_at _ _ _ _ rfl]; rfl
          clear hx k0 k1 k3 k4
          generalize ((refs.take k).map (·.path)).map Value.string = L1 at HO HO1 HT
          generalize hL2 : ((refs.take (k + 1)).map (·.path)).map Value.string = L2 at HT
          have HL2 := Lib.hid hL2
          clear hL2
          go_upto_region 14 with fail
          generalize wr.alloc _ = w2 at *
          go_wp2_with (at_builtin; refine wp_app elem_str HO1.out [Value.string y.path] 1 rfl (by decide) (by simp [Value.oneCell']) (by omega) (by omega) rfl (.tmp 54) (.tmp 57) rfl rfl rfl ?_)
          intro g2 cap2 w6 hO6
          rw [HT.out] at hO6
          have HO6 := Lib.hid hO6
          clear hO6
          go_wp2_with fail
          go_roundg g
          case measure => omega
          case rel => exact ⟨k + 1, some ⟨g2, 0, none⟩, cap2, by omega, by go_num, rfl, by rw [HL2.out]; exact HO6⟩
        · have e1 : refs.take k = refs := List.take_of_length_le (by omega)
          rw [e1] at HO
          obtain rfl : k = refs.length := by omega
          clear e1 hlt k0 k1 k2
          have HW := Lib.hid (fun t => bAlloc (Below.refl wr.heap.size wr) (.cells #[.slice a refs.length cap, .slice a3 equal.length c3, .slice a4 conf.length c4] t))
          have HCc := Lib.hid (fun t => concat_any [⟨a, cap, refs.map (·.path)⟩, ⟨a3, c3, equal⟩, ⟨a4, c4, conf⟩] (some ⟨wr.heap.size, 0, none⟩) 3 (wr.alloc (.cells #[.slice a refs.length cap, .slice a3 equal.length c3, .slice a4 conf.length c4] t))
            (by
              refine .inr ⟨wr.heap.size, 0, rfl, by simp, fun j u hu => ?_⟩
              rw [Nat.zero_add, World.cell?_alloc_at _ _ _ _ rfl]
              simpa [Part.val] using hu)
            (by
              intro p hp
              simp only [List.mem_cons, List.not_mem_nil, or_false] at hp
              rcases hp with rfl | rfl | rfl
              · exact HO.out.holds.under (HW.out t)
              · exact HD.out.equal.under (bTrans HB.out (bTrans hb (HW.out t)))
              · exact HD.out.conf.under (bTrans HB.out (bTrans hb (HW.out t))))
            (by simp [partsOut]; omega) (by simp))
          have HP : Hid (partsOut [⟨a, cap, refs.map (·.path)⟩, ⟨a3, c3, equal⟩, ⟨a4, c4, conf⟩] = Wh.Deal.paths ⟨acts, refs, equal, conf⟩) := Lib.hid (by simp [partsOut, Wh.Deal.paths])
          rw [HP.out] at HCc
          have HZ : Hid (∀ y ∈ Wh.Deal.paths ⟨acts, refs, equal, conf⟩, y.size ≤ 9223372036854775807) := Lib.hid (by
            intro y hy
            simp only [Wh.Deal.paths, List.mem_append, List.mem_map] at hy
            rcases hy with (⟨r, hr, rfl⟩ | hy) | hy
            · exact HD.out.z2 r hr
            · exact HD.out.z3 y hy
            · exact HD.out.z4 y hy)
          have hpl : (Wh.Deal.paths ⟨acts, refs, equal, conf⟩).length ≤ 15000 := by simp [Wh.Deal.paths]; omega
          clear HP HO
          generalize Wh.Deal.paths ⟨acts, refs, equal, conf⟩ = ps at *
          go_wp2_with fail
          refine (HCc.out _).mono ?_
          rintro e w6 ⟨a6, c6, rfl, hO6⟩
          have hH6 := Lib.hid (Own.holds hO6)
          have hb6 : Below w1.heap.size w1 w6 := bTrans (bTrans hb (HW.out _)) hO6.below
          clear HCc hO6 HW
          go_wp2_with fail
          go_loopg [68] ps.length (fun g i wx => ∃ k : Nat, k + g = ps.length ∧ i = .int .i64 k ∧ Below w6.heap.size w6 wx ∧ Hid (E = Wh.pathsErr (ps.drop k)))
          case atStart => exact ⟨0, by omega, rfl, Below.refl _ _, HR⟩
          case round =>
            clear HR
            obtain ⟨k, hk, rfl, hb7, HR⟩ := hrel
            by_cases hlt : k < ps.length
            · obtain ⟨g, rfl⟩ : ∃ g, gk = g + 1 := ⟨gk - 1, by omega⟩
              obtain ⟨y, hx⟩ : ∃ y, ps[k]? = some y := ⟨_, List.getElem?_eq_getElem hlt⟩
              obtain ⟨ba, off, ha, hba, r0⟩ := (hH6.out.under hb7).at (k := k) (u := .string y) (by simp [hx])
              subst ha
              have HC := Lib.hid (check_any y wr (HE.out.under (bTrans HB.out (bTrans hb6 hb7))) (HZ.out y (List.mem_of_getElem? hx)))
              have HSt := Lib.hid (fun h0 => Wh.pathsErr_step hx h0)
              have HSp := Lib.hid (fun h0 => Wh.pathsErr_stop hx h0)
              clear hx
              unfold Wh.pathErr at HC
              cases hp : Wh.isPath y.data.toList
              · rw [hp] at HC
                have HK : Hid (E = 1) := Lib.hid (HR.out.trans (HSp.out hp))
                clear HSt HSp hp
                go_wp2_with fail
                refine HC.out.mono ?_
                rintro e w8 ⟨rfl, hb8⟩
                go_wp2_with fail
                go_ret
                exact ⟨ret_int HK.out.symm, bTrans HB.out (bTrans hb6 (bTrans hb7 hb8))⟩
              · rw [hp] at HC
                have HK : Hid (E = Wh.pathsErr (ps.drop (k + 1))) := Lib.hid (HR.out.trans (HSt.out hp))
                clear HSt HSp hp
                go_wp2_with fail
                refine HC.out.mono ?_
                rintro e w8 ⟨rfl, hb8⟩
                go_wp2_with fail
                go_roundg g
                case measure => omega
                case rel => exact ⟨k + 1, by omega, by go_num, bTrans hb7 hb8, HK⟩
            · have HK : Hid (E = 0) := Lib.hid (by rw [HR.out, List.drop_of_length_le (by omega)]; rfl)
              go_wp2_with fail
              go_ret
              exact ⟨ret_int HK.out.symm, bTrans HB.out (bTrans hb6 hb7)⟩
end Go.Proofs.YtjcpcmiijadmcaaDoor
