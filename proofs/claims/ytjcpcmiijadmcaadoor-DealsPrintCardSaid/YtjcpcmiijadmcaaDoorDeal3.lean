/-
  wherryref1.CheckDeal.
-/
import Derived.Test.YtjcpcmiijadmcaaDoorDeal2
import Derived.Test.YtjcpcmiijadmcaaDoorPlainDeal2
import Derived.Test.YtjcpcmiijadmcaaDoorRefPaths
namespace Go.Proofs.YtjcpcmiijadmcaaDoor
open Go.RowKit

theorem enters_refDeal1 : ∀ args w, (callFunc 33 args).run Tryd.prog w = .ok (.enter 33 args) w := enters_of Tryd.func33 (by kernel_rfl) rfl

set_option maxHeartbeats 1000000 in
theorem refDeal1_any (s : ByteArray) (w : World) (hE : Env w) (hs : s.size ≤ 9223372036854775807) :
    Calls Tryd.prog 33 #[.string s] w fun e w' => e = .returned (.bool (!Wh.isPath s.data.toList)) ∧ Below w.heap.size w w' := by
  have HE := Lib.hid hE
  clear hE
  go_enter Tryd.func33, Tryd.ntmps33
  go_wp2_with (go_at_call 30; refine (refIsPath_any s _ HE.out hs).mono ?_; rintro e w' ⟨rfl, hb⟩)
  go_ret
  exact ⟨rfl, hb⟩

/-- A block that holds an act. -/
def ActBox (w : World) (b : Nat) (kind side : Int) (frm dst : ByteArray) (size time : Int) : Prop :=
  b < w.heap.size ∧ w.cell? ⟨b, 0, none⟩ = some (.int .i64 kind) ∧ w.cell? ⟨b, 1, none⟩ = some (.int .i64 side) ∧ w.cell? ⟨b, 2, none⟩ = some (.string frm) ∧ w.cell? ⟨b, 3, none⟩ = some (.string dst) ∧ w.cell? ⟨b, 4, none⟩ = some (.int .i64 size) ∧ w.cell? ⟨b, 5, none⟩ = some (.int .i64 time)
theorem ActBox.under {w w' : World} {b : Nat} {kind side : Int} {frm dst : ByteArray} {size time : Int} (h : ActBox w b kind side frm dst size time) (hb : Below w.heap.size w w') : ActBox w' b kind side frm dst size time := by
  obtain ⟨h0, h1, h2, h3, h4, h5, h6⟩ := h
  exact ⟨Nat.lt_of_lt_of_le h0 hb.size, (hb.cell (p := ⟨b, 0, none⟩) h0).trans h1, (hb.cell (p := ⟨b, 1, none⟩) h0).trans h2, (hb.cell (p := ⟨b, 2, none⟩) h0).trans h3, (hb.cell (p := ⟨b, 3, none⟩) h0).trans h4, (hb.cell (p := ⟨b, 4, none⟩) h0).trans h5, (hb.cell (p := ⟨b, 5, none⟩) h0).trans h6⟩
theorem actBox_new (w : World) (kind side : Int) (frm dst : ByteArray) (size time : Int) (t : TypeId) : ActBox (w.alloc (.cells #[.int .i64 kind, .int .i64 side, .string frm, .string dst, .int .i64 size, .int .i64 time] t)) w.heap.size kind side frm dst size time := by
  refine ⟨by simp, ?_, ?_, ?_, ?_, ?_, ?_⟩ <;> (rw [World.cell?_alloc_at _ _ _ _ rfl]; rfl)

set_option maxHeartbeats 8000000 in
set_option maxRecDepth 100000 in
theorem refCheckDeal_any (x : DealAt) (w : World) (hE : Env w) (hD : DealOk x w) :
    Calls Tryd.prog 10 #[dealVal x] w fun e w' => e = .returned (.int .i64 (Wh.dealErr x.d)) ∧ Below w.heap.size w w' := by
  obtain ⟨⟨acts, refs, equal, conf⟩, a1, a2, a3, a4, c1, c2, c3, c4⟩ := x
  have l1 := hD.l1
  have l2 := hD.l2
  have l3 := hD.l3
  have l4 := hD.l4
  have HD := Lib.hid hD
  have HE := Lib.hid hE
  have HB1 := Lib.hid (dealBox_new w ⟨⟨acts, refs, equal, conf⟩, a1, a2, a3, a4, c1, c2, c3, c4⟩ 26)
  have HR : Hid (Wh.dealErr ⟨acts, refs, equal, conf⟩ = if Wh.Deal.big ⟨acts, refs, equal, conf⟩ then 8 else if Wh.actsErr acts = 0 then Wh.pathsErr (Wh.Deal.paths ⟨acts, refs, equal, conf⟩) else Wh.actsErr acts) := Lib.hid rfl
  clear hD hE
  simp only [] at *
  generalize Wh.dealErr ⟨acts, refs, equal, conf⟩ = E at *
  by_cases hbig : Wh.Deal.big ⟨acts, refs, equal, conf⟩
  · have HK : Hid (E = 8) := Lib.hid (by rw [HR.out, if_pos hbig])
    simp only [Wh.Deal.big] at hbig
    by_cases h : 20000 < acts.length
    · clear hbig HR
      go_enter Tryd.func10, Tryd.ntmps10
      go_wp2_with fail
      go_ret
      exact ⟨ret_int HK.out.symm, bAlloc (Below.refl _ _) _⟩
    · obtain ⟨M, hM⟩ : ∃ M : Int, (if (if refs.length < equal.length then (equal.length : Int) else (refs.length : Int)) < (conf.length : Int) then (conf.length : Int) else if refs.length < equal.length then (equal.length : Int) else (refs.length : Int)) = M := ⟨_, rfl⟩
      have hmx : (5000 : Int) < M := by rw [← hM]; split <;> split <;> omega
      clear hbig HR
      go_enter Tryd.func10, Tryd.ntmps10
      go_wp2_with fail
      go_ret
      exact ⟨ret_int HK.out.symm, bAlloc (Below.refl _ _) _⟩
  replace HR : Hid (E = if Wh.actsErr acts = 0 then Wh.pathsErr (Wh.Deal.paths ⟨acts, refs, equal, conf⟩) else Wh.actsErr acts) := Lib.hid (by rw [HR.out, if_neg hbig])
  have b1 : ¬ 20000 < acts.length := fun h => hbig (.inl h)
  have b2 : ¬ 5000 < refs.length := fun h => hbig (.inr (.inl h))
  have b3 : ¬ 5000 < equal.length := fun h => hbig (.inr (.inr (.inl h)))
  have b4 : ¬ 5000 < conf.length := fun h => hbig (.inr (.inr (.inr h)))
  clear hbig l1 l2 l3 l4
  obtain ⟨M, hM⟩ : ∃ M : Int, (if (if refs.length < equal.length then (equal.length : Int) else (refs.length : Int)) < (conf.length : Int) then (conf.length : Int) else if refs.length < equal.length then (equal.length : Int) else (refs.length : Int)) = M := ⟨_, rfl⟩
  have hmx : ¬ (5000 : Int) < M := by rw [← hM]; split <;> split <;> omega
  go_enter Tryd.func10, Tryd.ntmps10
  go_upto_region 1 with fail
  have HB : Hid (Below w.heap.size w (w.alloc (.cells #[.slice a1 acts.length c1, .slice a2 refs.length c2, .slice a3 equal.length c3, .slice a4 conf.length c4] 26))) := Lib.hid (bAlloc (Below.refl _ _) _)
  generalize w.alloc _ = w1 at *
  obtain ⟨k0, k1, k2, k3, k4⟩ := HB1.out
  go_wp2_with fail
  clear hM hmx
  go_loopg [28] acts.length (fun g i wx => ∃ k : Nat, k + g = acts.length ∧ i = .int .i64 k ∧ Below w1.heap.size w1 wx ∧ Hid (Wh.actsErr acts = Wh.actsErr (acts.drop k)))
  case atStart => exact ⟨0, by omega, rfl, Below.refl _ _, Lib.hid rfl⟩
  case round =>
    obtain ⟨k, hk, rfl, hb, HA⟩ := hrel
    clear k0 k1 k2 k3 k4
    by_cases hlt : k < acts.length
    · obtain ⟨g, rfl⟩ : ∃ g, gk = g + 1 := ⟨gk - 1, by omega⟩
      obtain ⟨⟨kind, side, frm, dst, size, time⟩, hx⟩ : ∃ y, acts[k]? = some y := ⟨_, List.getElem?_eq_getElem hlt⟩
      obtain ⟨ba, off, ha, hba, r0, r1, r2, r3, r4, r5⟩ := actRow (HD.out.acts.under (bTrans HB.out hb)) hx
      obtain ⟨z1, z2⟩ := HD.out.z1 _ (List.mem_of_getElem? hx)
      simp only [] at r0 r1 r2 r3 r4 r5 z1 z2
      have HSt := Lib.hid (fun h0 => Wh.actsErr_step hx h0)
      have HSp := Lib.hid (fun h0 => Wh.actsErr_stop hx h0)
      have HF := Lib.hid (fun W (hbb : Below wr.heap.size wr W) => refIsPath_any frm W (HE.out.under (bTrans HB.out (bTrans hb hbb))) z1)
      have HT := Lib.hid (fun W (hbb : Below wr.heap.size wr W) => refIsPath_any dst W (HE.out.under (bTrans HB.out (bTrans hb hbb))) z2)
      have HK : Hid (Wh.actErr ⟨kind, side, frm, dst, size, time⟩ = Wh.actE kind side (!frm.toList.isEmpty && Wh.isPath frm.data.toList) (!dst.toList.isEmpty && Wh.isPath dst.data.toList) dst.toList.isEmpty size time) := Lib.hid (by rw [Lib.toList_data, Lib.toList_data]; rfl)
      clear hx z1 z2
      subst ha
      generalize Wh.actErr ⟨kind, side, frm, dst, size, time⟩ = A0 at *
      generalize Wh.isPath frm.data.toList = pf at *
      generalize Wh.isPath dst.data.toList = pt at *
      have HRet : Hid (∀ c : Int, c ≠ 0 → A0 = c → c = E) := Lib.hid (fun c hc h => by
        subst h
        rw [HR.out, HA.out, HSp.out hc, if_neg hc])
      have HGo : Hid (A0 = 0 → Wh.actsErr acts = Wh.actsErr (acts.drop (k + 1))) := Lib.hid (fun h => HA.out.trans (HSt.out h))
      clear HSt HSp
      rw [Wh.actE_eq] at HK
      have HX := Lib.hid (actBox_new wr kind side frm dst size time 69)
      have hb2 : Below wr.heap.size wr (wr.alloc (.cells #[.int .i64 kind, .int .i64 side, .string frm, .string dst, .int .i64 size, .int .i64 time] 69)) := bAlloc (Below.refl _ _) _
      go_upto_region 6 with fail
      generalize wr.alloc _ = w2 at *
      obtain ⟨p0, p1, p2, p3, p4, p5, p6⟩ := HX.out
      clear r0 r1 r2 r3 r4 r5
      go_cut [5] (fun s5 wx => s5 = .bool (Wh.actTwo kind) ∧ wx = w2)
      case first =>
        cases c1 : (kind == 1)
        · cases c2 : (kind == 2)
          all_goals
            have HC2 := Lib.hid c1
            have HC3 := Lib.hid c2
            go_wp2_with fail
            go_meet
            exact ⟨by unfold Wh.actTwo; rw [HC2.out, HC3.out]; rfl, rfl⟩
        · have HC2 := Lib.hid c1
          go_wp2_with fail
          go_meet
          exact ⟨by unfold Wh.actTwo; rw [HC2.out]; rfl, rfl⟩
      case rest =>
        obtain ⟨rfl, rfl⟩ := hcut
        generalize Wh.actTwo kind = two at *
        go_upto_region 7 with fail
        go_cut [40] (fun s40 wx => s40 = .bool (Wh.actBad kind side) ∧ wx = wc)
        case first =>
          cases c1 : decide (kind < 1)
          case true =>
            have HC1 := Lib.hid c1
            have c1' : kind < 1 := of_decide_eq_true c1
            clear c1
            go_wp2_with fail
            go_meet
            exact ⟨by unfold Wh.actBad; rw [HC1.out]; rfl, rfl⟩
          case false =>
            have HC1 := Lib.hid c1
            have c1' : ¬ kind < 1 := of_decide_eq_false c1
            clear c1
            cases c2 : decide (4 < kind)
            case true =>
              have HC2 := Lib.hid c2
              have c2' : 4 < kind := of_decide_eq_true c2
              clear c2
              go_wp2_with fail
              go_meet
              exact ⟨by unfold Wh.actBad; rw [HC1.out, HC2.out]; rfl, rfl⟩
            case false =>
              have HC2 := Lib.hid c2
              have c2' : ¬ 4 < kind := of_decide_eq_false c2
              clear c2
              cases c3 : (side != 1)
              · have HC3 := Lib.hid c3
                go_wp2_with fail
                go_meet
                exact ⟨by unfold Wh.actBad; rw [HC1.out, HC2.out, HC3.out]; rfl, rfl⟩
              · cases c4 : (side != 2)
                all_goals
                  have HC3 := Lib.hid c3
                  have HC4 := Lib.hid c4
                  go_wp2_with fail
                  go_meet
                  exact ⟨by unfold Wh.actBad; rw [HC1.out, HC2.out, HC3.out, HC4.out]; rfl, rfl⟩
        case rest =>
          obtain ⟨rfl, rfl⟩ := hcut
          generalize Wh.actBad kind side = bad at *
          cases bad
          case true =>
            go_wp2_with fail
            go_ret
            exact ⟨ret_int (HRet.out _ (by decide) (by rw [HK.out]; rfl)), bTrans HB.out (bTrans hb hb2)⟩
          replace HK : Hid (A0 = _) := Lib.hid (HK.out.trans (if_neg (by decide)))
          go_upto_region 9 with fail
          go_cut [59] (fun s59 wx => s59 = .bool (!(!frm.toList.isEmpty && pf) || (two && !(!dst.toList.isEmpty && pt))) ∧ Below wc.heap.size wc wx)
          case first =>
            cases f0 : frm.toList.isEmpty
            case true =>
              have f1 : frm.toList = [] := List.isEmpty_iff.1 f0
              have HF0 := Lib.hid f0
              clear f0
              go_wp2_with fail
              go_meet
              exact ⟨by simp [HF0.out], Below.refl _ _⟩
            have f1 : ¬ frm.toList = [] := fun e => by rw [e] at f0; cases f0
            have HF0 := Lib.hid f0
            clear f0
            cases pf
            · go_wp2_with fail
              refine (HF.out _ hb2).mono ?_
              rintro e w3 ⟨rfl, hb3⟩
              go_wp2_with fail
              go_meet
              exact ⟨by simp [HF0.out], hb3⟩
            · cases two
              · go_wp2_with fail
                refine (HF.out _ hb2).mono ?_
                rintro e w3 ⟨rfl, hb3⟩
                go_wp2_with fail
                go_meet
                exact ⟨by simp [HF0.out], hb3⟩
              · cases d0 : dst.toList.isEmpty
                case' true => have d1 : dst.toList = [] := List.isEmpty_iff.1 d0
                case' false => have d1 : ¬ dst.toList = [] := fun e => by rw [e] at d0; cases d0
                all_goals
                  have HD0 := Lib.hid d0
                  clear d0
                  go_wp2_with fail
                  refine (HF.out _ hb2).mono ?_
                  rintro e w3 ⟨rfl, hb3⟩
                  obtain ⟨p0, p1, p2, p3, p4, p5, p6⟩ := HX.out.under hb3
                  go_wp2_with fail
                · cases pt
                  all_goals
                    refine (HT.out _ (bTrans hb2 hb3)).mono ?_
                    rintro e w4 ⟨rfl, hb4⟩
                    go_wp2_with fail
                    go_meet
                    exact ⟨by simp [HF0.out, HD0.out], bTrans hb3 hb4⟩
                · go_meet
                  exact ⟨by simp [HF0.out, HD0.out], hb3⟩
          case rest =>
            obtain ⟨rfl, hb3⟩ := hcut
            generalize (!(!frm.toList.isEmpty && pf) || (two && !(!dst.toList.isEmpty && pt))) = pb at *
            obtain ⟨p0, p1, p2, p3, p4, p5, p6⟩ := HX.out.under hb3
            have hb4 := bTrans hb (bTrans hb2 hb3)
            clear hb2 hb3
            cases pb
            case true =>
              go_wp2_with fail
              go_ret
              exact ⟨ret_int (HRet.out _ (by decide) (by rw [HK.out]; rfl)), bTrans HB.out hb4⟩
            replace HK : Hid (A0 = _) := Lib.hid (HK.out.trans (if_neg (by decide)))
            go_upto_region 11 with fail
            go_cut [83] (fun s83 wx => s83 = .bool (Wh.actForm two dst.toList.isEmpty kind size time) ∧ wx = wc)
            case first =>
              cases d0 : dst.toList.isEmpty
              case' true => have d1 : dst.toList = [] := List.isEmpty_iff.1 d0
              case' false => have d1 : ¬ dst.toList = [] := fun e => by rw [e] at d0; cases d0
              all_goals
                have HD0 := Lib.hid d0
                clear d0
                cases two
              case' false.false =>
                go_wp2_with fail
                go_meet
                exact ⟨by simp [Wh.actForm, HD0.out], rfl⟩
              all_goals
                cases c1 : (kind != 1)
                · have HC1 := Lib.hid c1
                  go_wp2_with fail
                  go_meet
                  exact ⟨by simp [Wh.actForm, HC1.out, HD0.out], rfl⟩
                · cases c2 : (size != 0)
                  · cases c3 : (time != 0)
                    all_goals
                      have HC1 := Lib.hid c1
                      have HC2 := Lib.hid c2
                      have HC3 := Lib.hid c3
                      go_wp2_with fail
                      go_meet
                      exact ⟨by simp [Wh.actForm, HC1.out, HC2.out, HC3.out, HD0.out], rfl⟩
                  · have HC1 := Lib.hid c1
                    have HC2 := Lib.hid c2
                    go_wp2_with fail
                    go_meet
                    exact ⟨by simp [Wh.actForm, HC1.out, HC2.out, HD0.out], rfl⟩
            case rest =>
              obtain ⟨rfl, rfl⟩ := hcut
              generalize Wh.actForm two dst.toList.isEmpty kind size time = fb at *
              cases fb
              case true =>
                go_wp2_with fail
                go_ret
                exact ⟨ret_int (HRet.out _ (by decide) (by rw [HK.out]; rfl)), bTrans HB.out hb4⟩
              replace HK : Hid (A0 = _) := Lib.hid (HK.out.trans (if_neg (by decide)))
              unfold Wh.actNeg at HK
              cases n1 : decide (size < 0)
              case' true => have n1' : size < 0 := of_decide_eq_true n1
              case' false => have n1' : ¬ size < 0 := of_decide_eq_false n1
              all_goals cases n2 : decide (time < 0)
              all_goals rw [n1, n2] at HK
              case' true.true => have n2' : time < 0 := of_decide_eq_true n2
              case' true.false => have n2' : ¬ time < 0 := of_decide_eq_false n2
              case' false.true => have n2' : time < 0 := of_decide_eq_true n2
              case' false.false => have n2' : ¬ time < 0 := of_decide_eq_false n2
              all_goals
                clear n1 n2
                go_wp2_with fail
                first
                  | (go_ret
                     exact ⟨ret_int (HRet.out _ (by decide) (by rw [HK.out]; rfl)), bTrans HB.out hb4⟩)
                  | (go_roundg g
                     case measure => omega
                     case rel => exact ⟨k + 1, by omega, by go_num, hb4, Lib.hid (HGo.out (by rw [HK.out]; rfl))⟩)
    · obtain ⟨k0, k1, k2, k3, k4⟩ := HB1.out.under hb
      have HA2 : Hid (Wh.actsErr acts = 0) := Lib.hid (by rw [HA.out, List.drop_of_length_le (by omega)]; rfl)
      replace HR : Hid (E = Wh.pathsErr (Wh.Deal.paths ⟨acts, refs, equal, conf⟩)) := Lib.hid (by rw [HR.out, if_pos HA2.out])
      have HPP : Hid (Wh.Deal.paths ⟨acts, refs, equal, conf⟩ = refs.map (·.path) ++ (equal ++ conf)) := Lib.hid (by simp [Wh.Deal.paths])
      rw [HPP.out] at HR
      clear HA HA2 HPP
      go_wp2_with fail
      go_loopg [119] refs.length (fun g i wx => ∃ k : Nat, k + g = refs.length ∧ i = .int .i64 k ∧ Below w1.heap.size w1 wx ∧ Hid (E = Wh.pathsErr ((refs.drop k).map (·.path) ++ (equal ++ conf))))
      case atStart => exact ⟨0, by omega, rfl, hb, HR⟩
      case round =>
        clear hk hlt hb k0 k1 k2 k3 k4 HR
        obtain ⟨k, hk, rfl, hb, HR⟩ := hrel
        obtain ⟨k0, k1, k2, k3, k4⟩ := HB1.out.under hb
        by_cases hlt : k < refs.length
        · obtain ⟨g, rfl⟩ : ∃ g, gk = g + 1 := ⟨gk - 1, by omega⟩
          obtain ⟨y, hx⟩ : ∃ y, refs[k]? = some y := ⟨_, List.getElem?_eq_getElem hlt⟩
          obtain ⟨ba, off, ha, hba, r0, r1⟩ := refRow (HD.out.refs.under (bTrans HB.out hb)) hx
          subst ha
          have HC := Lib.hid (fun W (hbb : Below wr.heap.size wr W) => refIsPath_any y.path W (HE.out.under (bTrans HB.out (bTrans hb hbb))) (HD.out.z2 y (List.mem_of_getElem? hx)))
          have hdr : refs.drop k = y :: refs.drop (k + 1) := by
            rw [List.drop_eq_getElem_cons hlt, (List.getElem?_eq_some_iff.1 hx).2]
          rw [hdr] at HR
          clear hx hdr
          cases hp : Wh.isPath y.path.data.toList
          · have HK : Hid (E = 1) := Lib.hid (by rw [HR.out]; simp [Wh.pathsErr, hp])
            rw [hp] at HC
            clear HR
            go_wp2_with fail
            refine (HC.out _ (bAlloc (Below.refl _ _) _)).mono ?_
            rintro e w8 ⟨rfl, hb8⟩
            go_wp2_with fail
            go_ret
            exact ⟨ret_int HK.out.symm, bTrans HB.out (bTrans (bAlloc hb _) hb8)⟩
          · have HK : Hid (E = Wh.pathsErr ((refs.drop (k + 1)).map (·.path) ++ (equal ++ conf))) := Lib.hid (by rw [HR.out]; simp [Wh.pathsErr, hp])
            rw [hp] at HC
            clear HR
            go_wp2_with fail
            refine (HC.out _ (bAlloc (Below.refl _ _) _)).mono ?_
            rintro e w8 ⟨rfl, hb8⟩
            go_wp2_with fail
            go_roundg g
            case measure => omega
            case rel => exact ⟨k + 1, by omega, by go_num, bTrans (bAlloc hb _) hb8, HK⟩
        · have e1 : refs.drop k = [] := List.drop_of_length_le (by omega)
          rw [e1] at HR
          replace HR : Hid (E = if (equal ++ conf).any (fun p => !Wh.isPath p.data.toList) then 1 else 0) := Lib.hid (by
            rw [HR.out, Wh.pathsErr]
            simp only [List.map_nil, List.nil_append]
            rw [show (equal ++ conf).all (fun x => Wh.isPath x.data.toList) = !(equal ++ conf).any (fun p => !Wh.isPath p.data.toList) by rw [List.not_any_eq_all_not]; simp]
            cases (equal ++ conf).any (fun p => !Wh.isPath p.data.toList) <;> rfl)
          clear e1 k0 k1 k2
          have HW := Lib.hid (fun t => bAlloc (Below.refl wr.heap.size wr) (.cells #[.slice a3 equal.length c3, .slice a4 conf.length c4] t))
          have HCc := Lib.hid (fun t => concat_any [⟨a3, c3, equal⟩, ⟨a4, c4, conf⟩] (some ⟨wr.heap.size, 0, none⟩) 2 (wr.alloc (.cells #[.slice a3 equal.length c3, .slice a4 conf.length c4] t))
            (by
              refine .inr ⟨wr.heap.size, 0, rfl, by simp, fun j u hu => ?_⟩
              rw [Nat.zero_add, World.cell?_alloc_at _ _ _ _ rfl]
              simpa [Part.val] using hu)
            (by
              intro p hp
              simp only [List.mem_cons, List.not_mem_nil, or_false] at hp
              rcases hp with rfl | rfl
              · exact HD.out.equal.under (bTrans HB.out (bTrans hb (HW.out t)))
              · exact HD.out.conf.under (bTrans HB.out (bTrans hb (HW.out t))))
            (by simp [partsOut]; omega) (by simp))
          have HP : Hid (partsOut [⟨a3, c3, equal⟩, ⟨a4, c4, conf⟩] = equal ++ conf) := Lib.hid (by simp [partsOut])
          rw [HP.out] at HCc
          have HZ : Hid (∀ y ∈ equal ++ conf, y.size ≤ 9223372036854775807) := Lib.hid (by
            intro y hy
            rcases List.mem_append.1 hy with hy | hy
            · exact HD.out.z3 y hy
            · exact HD.out.z4 y hy)
          have hpl : (equal ++ conf).length ≤ 15000 := by simp; omega
          clear HP
          generalize equal ++ conf = ps at *
          go_wp2_with fail
          refine (HCc.out _).mono ?_
          rintro e w6 ⟨a6, c6, rfl, hO6⟩
          have hb6 : Below w1.heap.size w1 w6 := bTrans (bTrans hb (HW.out _)) hO6.below
          have HCF := Lib.hid (containsFunc_str 33 (fun p => !Wh.isPath p.data.toList) a6 c6 ps w6 enters_refDeal1 (by omega) (Own.holds hO6) (fun y hy W hb7 => refDeal1_any y W (HE.out.under (bTrans HB.out (bTrans hb6 hb7))) (HZ.out y hy)))
          clear HCc hO6 HW
          generalize ps.any (fun p => !Wh.isPath p.data.toList) = an at *
          cases an
          all_goals
            go_wp2_with fail
            refine HCF.out.mono ?_
            rintro e w7 ⟨rfl, hb7⟩
            go_wp2_with fail
            go_ret
            exact ⟨ret_int HR.out.symm, bTrans HB.out (bTrans hb6 hb7)⟩
end Go.Proofs.YtjcpcmiijadmcaaDoor
