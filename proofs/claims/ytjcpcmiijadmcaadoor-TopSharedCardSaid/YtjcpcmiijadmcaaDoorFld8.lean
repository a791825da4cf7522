/-
  The law TopShared, walked.
-/
import Derived.Test.YtjcpcmiijadmcaaDoorFld7
import Derived.Test.YtjcpcmiijadmcaaDoorPaths
import Derived.Test.YtjcpcmiijadmcaaDoorQuote
namespace Go.Proofs.YtjcpcmiijadmcaaDoor
open Go.RowKit Wh.Fld

set_option maxHeartbeats 1000000 in
theorem landedTop_any (w : World) (hE : Env w) :
    Calls Tryd.prog 14 #[] w fun e w' => e = .returned (.bool true) ∧ Below w.heap.size w w' := by
  have h1 := check_any ⟨#[47]⟩ w hE (by decide)
  have e1 : Wh.pathErr [47] = 1 := by decide
  have e2 : (⟨#[47]⟩ : ByteArray).data.toList = [47] := rfl
  rw [e2, e1] at h1
  have H1 := Lib.hid h1
  clear h1 e1 e2
  go_enter Tryd.func14, Tryd.ntmps14
  go_wp2_with (go_at_call 29; refine H1.out.mono ?_; rintro e w' ⟨rfl, hb⟩)
  go_ret
  exact ⟨rfl, hb⟩

/-- A block that holds shares, to be written to. -/
def RowS (w : World) (g : Nat) (xs : List Share) : Prop := ∃ cur, w.heap[g]? = some (.cells cur 39 (0, 0)) ∧ ∀ (k : Nat) (s : Share), xs[k]? = some s → cur[k * 2]? = some (.int .i64 s.x.toNat) ∧ cur[k * 2 + 1]? = some (.string s.d)
theorem RowS.lt {w : World} {g : Nat} {xs : List Share} (h : RowS w g xs) : g < w.heap.size := by
  obtain ⟨cur, h1, _⟩ := h
  exact (Array.getElem?_eq_some_iff.1 h1).1
theorem RowS.under {w w' : World} {g : Nat} {xs : List Share} (h : RowS w g xs) (hb : Below w.heap.size w w') : RowS w' g xs := by
  have hl := h.lt
  obtain ⟨cur, h1, h2⟩ := h
  exact ⟨cur, by rw [hb.block g hl]; exact h1, h2⟩
theorem RowS.other {w : World} {g k : Nat} {xs : List Share} (h : RowS w g xs) (hk : g ≠ k) (i : Nat) (v : Value) : RowS (w.setCell ⟨k, i, none⟩ v) g xs := by
  obtain ⟨cur, h1, h2⟩ := h
  exact ⟨cur, by rw [row_other hk]; exact h1, h2⟩
theorem RowS.holds {w : World} {g : Nat} {xs : List Share} (h : RowS w g xs) : HoldsR w (some ⟨g, 0, none⟩) 2 (xs.map shareCells) := by
  have hl := h.lt
  obtain ⟨cur, h1, h2⟩ := h
  refine .inr ⟨g, 0, rfl, hl, fun k row hk j u hu => ?_⟩
  rw [List.getElem?_map] at hk
  cases hk' : xs[k]? with
  | none => rw [hk'] at hk; simp at hk
  | some s =>
    rw [hk'] at hk
    simp only [Option.map_some, Option.some.injEq] at hk
    subst hk
    obtain ⟨c0, c1⟩ := h2 k s hk'
    rw [Lib.cell_of_heap h1, Nat.zero_add]
    match j, hu with
    | 0, hu => simp [shareCells] at hu; subst hu; exact c0
    | 1, hu => simp [shareCells] at hu; subst hu; exact c1
    | j + 2, hu => simp [shareCells] at hu
theorem RowS.free {w : World} {g : Nat} {xs : List Share} (h : RowS w g xs) (i : Nat) : w.frozen? ⟨g, i, none⟩ = false := by
  obtain ⟨cur, h1, _⟩ := h
  exact Lib.frozen_of_heap h1 i
theorem RowS.set {w : World} {g : Nat} {xs : List Share} (h : RowS w g xs) {k : Nat} {s : Share} (hk : xs[k]? = some s) (d : ByteArray) : RowS (w.setCell ⟨g, k * 2 + 1, none⟩ (.string d)) g (xs.set k ⟨s.x, d⟩) := by
  obtain ⟨cur, h1, h2⟩ := h
  refine ⟨cur.setIfInBounds (k * 2 + 1) (.string d), by simp [World.setCell, Array.getElem?_modify, h1], ?_⟩
  intro i t ht
  have hkl := (List.getElem?_eq_some_iff.1 hk).1
  have hc := (Array.getElem?_eq_some_iff.1 (h2 k s hk).2).1
  by_cases e : k = i
  · subst e
    rw [List.getElem?_set_self hkl] at ht
    cases ht
    refine ⟨?_, ?_⟩
    · rw [Array.getElem?_setIfInBounds_ne (by omega)]
      exact (h2 k s hk).1
    · rw [Array.getElem?_setIfInBounds_self_of_lt hc]
  · rw [List.getElem?_set_ne e] at ht
    obtain ⟨c0, c1⟩ := h2 i t ht
    exact ⟨by rw [Array.getElem?_setIfInBounds_ne (by omega)]; exact c0, by rw [Array.getElem?_setIfInBounds_ne (by omega)]; exact c1⟩
theorem OwnSh.rowS {w0 wx : World} {a : Option Addr} {cap : Nat} {xs : List Share} (h : OwnSh w0 wx a cap xs) (h0 : 0 < xs.length) : ∃ g, a = some ⟨g, 0, none⟩ ∧ w0.heap.size ≤ g ∧ RowS wx g xs := by
  obtain ⟨g, cur, rfl, hg, hc⟩ := h.block h0
  refine ⟨g, rfl, hg, cur, hc, fun k s hk => ?_⟩
  obtain ⟨b, off, e, _, c0, c1⟩ := shareRow h.holds hk
  cases e
  rw [Lib.cell_of_heap hc, Nat.zero_add] at c0 c1
  exact ⟨c0, c1⟩

theorem RowT.other {ty : TypeId} {w : World} {g k : Nat} {bs : List Bool} (h : RowT ty w g bs) (hk : g ≠ k) (i : Nat) (v : Value) : RowT ty (w.setCell ⟨k, i, none⟩ v) g bs := by
  unfold RowT
  rw [row_other hk]
  exact h
theorem RowS.drew {w : World} {g : Nat} {xs : List Share} (h : RowS w g xs) : RowS w.drew g xs := h

theorem lastSet_self {xs : List Share} {n : Nat} {s : Share} (hn : xs.length = n + 1) (h : xs[n]? = some s) : lastSet xs s.d = xs := by
  unfold lastSet
  have hl : xs.length - 1 = n := by omega
  rw [hl, xOf_at h]
  apply List.ext_getElem?
  intro i
  by_cases e : n = i
  · subst e
    rw [List.getElem?_set_self (by omega), h]
  · rw [List.getElem?_set_ne e]
theorem lastSet_last {xs : List Share} {n : Nat} (hn : xs.length = n + 1) (d : ByteArray) : (lastSet xs d)[n]? = some ⟨xOf xs n, d⟩ := by
  unfold lastSet
  rw [show xs.length - 1 = n by omega, List.getElem?_set_self (by omega)]
theorem lastSet_set {xs : List Share} {n : Nat} (hn : xs.length = n + 1) (d e : ByteArray) : (lastSet xs d).set n ⟨xOf xs n, e⟩ = lastSet xs e := by
  unfold lastSet
  rw [show xs.length - 1 = n by omega, List.set_set]

set_option maxHeartbeats 4000000 in
set_option maxRecDepth 100000 in
theorem topShared_walk (secret noise : ByteArray) (need many : Int) (pa : Option Addr) (pc : Nat) (ps : List Int) (w : World) (hE : Env w) (hs : secret.size ≤ 9223372036854775807) (hn : noise.size ≤ 140737488351232)
    (hP : Holds w pa (ps.map (Value.int .i64))) (hl : ps.length ≤ 9223372036854775807) :
    Calls Tryd.prog 4 #[.string secret, .string noise, .int .i64 need, .int .i64 many, .slice pa ps.length pc] w fun e w' => e = .returned (.bool true) ∧ Below w.heap.size w w' := by
  have HL := Lib.hid (landedTop_any w hE)
  have HP := Lib.hid hP
  clear hE hP
  obtain ⟨U, hU⟩ : ∃ U : Int, IntKind.u64.wrap many = U := ⟨_, rfl⟩
  obtain ⟨V, hV⟩ : ∃ V : Int, IntKind.u64.wrap need = V := ⟨_, rfl⟩
  have hU0 : 0 ≤ U := by rw [← hU]; exact Int.emod_nonneg _ (by decide)
  have hV0 : 0 ≤ V := by rw [← hV]; exact Int.emod_nonneg _ (by decide)
  obtain ⟨M1, hM1, hm1⟩ : ∃ M1 : Nat, U.tmod 20 = (M1 : Int) ∧ M1 < 20 := by
    refine ⟨(U.tmod 20).toNat, ?_, ?_⟩
    · rw [Int.tmod_eq_emod_of_nonneg hU0]
      omega
    · rw [Int.tmod_eq_emod_of_nonneg hU0]
      omega
  obtain ⟨M, hM, HM⟩ : ∃ M : Nat, (1 : Int) + (M1 : Int) = (M : Int) ∧ Hid (M = M1 + 1) := ⟨M1 + 1, by omega, Lib.hid rfl⟩
  have hM20 : M ≤ 20 := by have := HM.out; omega
  have hM0 : 0 < M := by have := HM.out; omega
  obtain ⟨N, hN, hNM⟩ : ∃ N : Nat, V.tmod (M : Int) = (N : Int) ∧ N < M := by
    have h1 : V.tmod (M : Int) = V % (M : Int) := Int.tmod_eq_emod_of_nonneg hV0
    have h2 := Int.emod_nonneg V (show (M : Int) ≠ 0 by omega)
    have h3 := Int.emod_lt_of_pos V (show (0 : Int) < (M : Int) by omega)
    refine ⟨(V % (M : Int)).toNat, by rw [h1]; omega, by omega⟩
  obtain ⟨ND, hND, HND⟩ : ∃ ND : Nat, (1 : Int) + (N : Int) = (ND : Int) ∧ Hid (ND = N + 1) := ⟨N + 1, by omega, Lib.hid rfl⟩
  have hNDM : ND ≤ M := by have := HND.out; omega
  have hND0 : 0 < ND := by have := HND.out; omega
  clear hU0 hV0
  go_enter Tryd.func4, Tryd.ntmps4
  go_wp2_with fail
  refine HL.out.mono ?_
  rintro e w1 ⟨rfl, hb1⟩
  go_upto_region 5 with fail
  clear hU hV hM1 hm1 hM hN hND HM HL
  by_cases c1 : secret.size = 0
  · have q1 : ((secret.size : Int) == 0) = true := by simp [c1]
    have HC := Lib.hid c1
    clear c1
    go_wp2_with fail
    go_ret
    exact ⟨rfl, hb1⟩
  have q1 : ((secret.size : Int) == 0) = false := by simp [c1]
  have c1' : 0 < secret.size := by omega
  clear c1
  by_cases c2 : 20 < secret.size
  · have q2 : decide ((20 : Int) < (secret.size : Int)) = true := by simp; omega
    go_wp2_with fail
    go_ret
    exact ⟨rfl, hb1⟩
  have q2 : decide ((20 : Int) < (secret.size : Int)) = false := by simp; omega
  have c2' : secret.size ≤ 20 := by omega
  clear c2
  by_cases c3 : noise.size = 0
  · have q3 : ((noise.size : Int) == 0) = true := by simp [c3]
    have HC := Lib.hid c3
    clear c3
    go_wp2_with fail
    go_ret
    exact ⟨rfl, hb1⟩
  have q3 : ((noise.size : Int) == 0) = false := by simp [c3]
  have c3' : 0 < noise.size := by omega
  clear c3
  have hsub : (ND : Int) - 1 = (N : Int) := by have := HND.out; omega
  have hmN : secret.size * N ≤ 400 := by
    have : secret.size * N ≤ 20 * 20 := Nat.mul_le_mul c2' (by omega)
    omega
  obtain ⟨mN, hmn⟩ : ∃ mN, secret.size * N = mN := ⟨_, rfl⟩
  have hmul : (secret.size : Int) * (N : Int) = (mN : Int) := by rw [← hmn]; exact (Int.natCast_mul _ _).symm
  rw [hmn] at hmN
  have HMN := Lib.hid hmn
  clear hmn
  go_wp2_with fail
  go_loopg [1] 400 (fun g s1 wx => ∃ nz : ByteArray, s1 = .string nz ∧ 0 < nz.size ∧ nz.size ≤ 140737488351232 ∧ mN ≤ nz.size + g ∧ w1 = wx)
  case atStart => exact ⟨noise, rfl, c3', hn, by omega, rfl⟩
  case round =>
    obtain ⟨nz, rfl, hz0, hz1, hzg, rfl⟩ := hrel
    by_cases hlt : nz.size < mN
    · obtain ⟨g, rfl⟩ : ∃ g, gk = g + 1 := ⟨gk - 1, by omega⟩
      have hadd : ∀ W : World, (Op.stringOp .add nz nz).run Tryd.prog W = .ok (.string (nz ++ nz)) W := fun W => run_string_add_sum W nz nz (by omega)
      have hs2 : (nz ++ nz).size = nz.size + nz.size := by simp
      have HS2 := Lib.hid hs2
      clear hs2
      go_wp2_with fail
      go_roundg g
      case measure => omega
      case rel => exact ⟨nz ++ nz, rfl, by rw [HS2.out]; omega, by rw [HS2.out]; omega, by rw [HS2.out]; omega, rfl⟩
    · have hge : mN ≤ nz.size := by omega
      have hsz : (nz.extract 0 mN).size = mN := by simp; omega
      have HSh := Lib.hid (shares_any secret (nz.extract 0 mN) N ND M w1 HND.out c1' c2' hNM hM20 (by rw [hsz, HMN.out]))
      have HNz : Hid ((nz.extract 0 mN).size = secret.size * N) := Lib.hid (by rw [hsz, HMN.out])
      generalize hnn : nz.extract 0 mN = nn at *
      clear hsz
      go_wp2_with fail
      refine HSh.out.mono ?_
      rintro e w2 ⟨la, lc, rfl, hO⟩
      have HO := Lib.hid hO
      clear hO HSh hnn
      have hb2 := bTrans hb1 HO.out.below
      have HLl : Hid ((sharesTo secret nn N M).length = M) := Lib.hid (by simp [sharesTo])
      have HLg : Hid (∀ i, i < M → (sharesTo secret nn N M)[i]? = some (shareAt secret nn N i)) := Lib.hid (fun i hi => by
        unfold sharesTo
        rw [List.getElem?_map, List.getElem?_range hi]
        rfl)
      clear hz0 hz1 hzg hlt hge hn c3' q1 q2 q3
      go_wp2_with fail
      go_loopg [13, 89] ps.length (fun g s13 i wx => ∃ (k : Nat) (a : Option Addr) (cap : Nat) (xs : List Share), k + g = ps.length ∧ i = .int .i64 k ∧ s13 = .slice a xs.length cap ∧ xs.length ≤ ND ∧ Hid (OwnSh w2 wx a cap xs) ∧ Hid (Dealt secret nn N M xs))
      case atStart => exact ⟨0, none, 0, [], by omega, rfl, rfl, by simp, Lib.hid (OwnSh.nil (Below.refl _ _)), Lib.hid (Dealt.nil _ _ _ _)⟩
      case round =>
        obtain ⟨k, a, cap, xs, hk, rfl, rfl, hxl, HOx, HDx⟩ := hrel
        by_cases hlt : k < ps.length
        · obtain ⟨g, rfl⟩ : ∃ g, gk = g + 1 := ⟨gk - 1, by omega⟩
          obtain ⟨y, hx⟩ : ∃ y, ps[k]? = some y := ⟨_, List.getElem?_eq_getElem hlt⟩
          obtain ⟨bp, op, ha, hbp, r0⟩ := (HP.out.under (bTrans hb2 HOx.out.below)).at (k := k) (u := .int .i64 y) (by simp [hx])
          subst ha
          clear hx
          obtain ⟨Y, hY⟩ : ∃ Y : Int, IntKind.u64.wrap y = Y := ⟨_, rfl⟩
          have hY0 : 0 ≤ Y := by rw [← hY]; exact Int.emod_nonneg _ (by decide)
          obtain ⟨ix, hix, hixM⟩ : ∃ ix : Nat, Y.tmod (M : Int) = (ix : Int) ∧ ix < M := by
            have h1 : Y.tmod (M : Int) = Y % (M : Int) := Int.tmod_eq_emod_of_nonneg hY0
            have h2 := Int.emod_nonneg Y (show (M : Int) ≠ 0 by omega)
            have h3 := Int.emod_lt_of_pos Y (show (0 : Int) < (M : Int) by omega)
            exact ⟨(Y % (M : Int)).toNat, by rw [h1]; omega, by omega⟩
          obtain ⟨bl, ol, ha, hbl, z0, z1⟩ := shareRow (HO.out.holds.under HOx.out.below) (HLg.out ix hixM)
          subst ha
          have HAd := Lib.hid (fun h => HDx.out.add hM20 hixM h)
          generalize shareAt secret nn N ix = s at *
          have HBx := Lib.hid (shareBox_new wr s 39)
          have hbx : Below wr.heap.size wr (wr.alloc (.cells #[.int .i64 s.x.toNat, .string s.d] 39)) := bAlloc (Below.refl _ _) _
          clear hY0
          go_upto_region 17 with fail
          generalize wr.alloc _ = w3 at *
          clear r0 z0 z1 hY hix
          have HO3 := Lib.hid (HOx.out.under hbx)
          obtain ⟨p0, p1, p2⟩ := HBx.out
          have HCt := Lib.hid (containsSh_any xs a cap s w3 HO3.out.holds (by omega))
          generalize xs.any (eqSh s) = E at *
          cases E
          case true =>
            go_wp2_with fail
            refine HCt.out.mono ?_
            rintro e w4 ⟨rfl, hb4⟩
            go_wp2_with fail
            go_roundg g
            case measure => omega
            case rel => exact ⟨k + 1, a, cap, xs, by omega, by go_num, rfl, hxl, Lib.hid (HO3.out.under hb4), HDx⟩
          case false =>
            by_cases hfull : xs.length < ND
            · go_wp2_with fail
              refine HCt.out.mono ?_
              rintro e w4 ⟨rfl, hb4⟩
              have HO4 := Lib.hid (HO3.out.under hb4)
              obtain ⟨p0, p1, p2⟩ := HBx.out.under hb4
              clear HCt
              go_wp2_with (at_builtin; refine wp_appSh HO4.out s (by omega) rfl (.tmp 111) (.tmp 113) rfl rfl rfl ?_; intro g5 cap5 w5 hO5)
              go_roundg g
              case measure => omega
              case rel => exact ⟨k + 1, _, cap5, xs ++ [s], by omega, by go_num, by rw [List.length_append]; rfl, by rw [List.length_append]; simp; omega, Lib.hid hO5, Lib.hid (HAd.out (by trivial))⟩
            · go_wp2_with fail
              refine HCt.out.mono ?_
              rintro e w4 ⟨rfl, hb4⟩
              go_wp2_with fail
              go_roundg g
              case measure => omega
              case rel => exact ⟨k + 1, a, cap, xs, by omega, by go_num, rfl, hxl, Lib.hid (HO3.out.under hb4), HDx⟩
        · go_wp2_with fail
          go_loopg [13, 118] M (fun g s13 i wx => ∃ (k : Nat) (a : Option Addr) (cap : Nat) (xs : List Share), k + g = M ∧ i = .int .i64 k ∧ s13 = .slice a xs.length cap ∧ xs.length ≤ ND ∧ Hid (OwnSh w2 wx a cap xs) ∧ Hid (Dealt secret nn N M xs) ∧ Hid (xs.length < ND → ∀ i, i < k → ∃ s ∈ xs, s.x = (shareAt secret nn N i).x))
          case atStart => exact ⟨0, a, cap, xs, by omega, rfl, rfl, hxl, HOx, HDx, Lib.hid (fun _ i hi => absurd hi (by omega))⟩
          case round =>
            clear HOx HDx hxl hlt hk
            obtain ⟨k, a, cap, xs, hk, rfl, rfl, hxl, HOx, HDx, HAll⟩ := hrel
            by_cases hlt : k < M
            · obtain ⟨g, rfl⟩ : ∃ g, gk = g + 1 := ⟨gk - 1, by omega⟩
              obtain ⟨bl, ol, ha, hbl, z0, z1⟩ := shareRow (HO.out.holds.under HOx.out.below) (HLg.out k hlt)
              cases ha
              have HAd := Lib.hid (fun h => HDx.out.add hM20 hlt h)
              have HIn : Hid (xs.any (eqSh (shareAt secret nn N k)) = true → ∃ s ∈ xs, s.x = (shareAt secret nn N k).x) := Lib.hid (fun h => by
                obtain ⟨t, ht, e⟩ := List.any_eq_true.1 h
                refine ⟨t, ht, ?_⟩
                unfold eqSh at e
                simp only [Bool.and_eq_true, beq_iff_eq] at e
                exact e.1.symm)
              generalize hsk : shareAt secret nn N k = s at *
              have HSk := Lib.hid hsk
              clear hsk
              have HBx := Lib.hid (shareBox_new wr s 39)
              have hbx : Below wr.heap.size wr (wr.alloc (.cells #[.int .i64 s.x.toNat, .string s.d] 39)) := bAlloc (Below.refl _ _) _
              go_upto_region 23 with fail
              generalize wr.alloc _ = w3 at *
              clear z0 z1
              have HO3 := Lib.hid (HOx.out.under hbx)
              obtain ⟨p0, p1, p2⟩ := HBx.out
              have HCt := Lib.hid (containsSh_any xs a cap s w3 HO3.out.holds (by omega))
              generalize xs.any (eqSh s) = E at *
              have HStep : Hid ((∃ t ∈ xs, t.x = s.x) → xs.length < ND → ∀ i, i < k + 1 → ∃ t ∈ xs, t.x = (shareAt secret nn N i).x) := Lib.hid (fun h h2 i hi => by
                by_cases e : i = k
                · subst e
                  rw [HSk.out]
                  exact h
                · exact HAll.out h2 i (by omega))
              cases E
              case true =>
                go_wp2_with fail
                refine HCt.out.mono ?_
                rintro e w4 ⟨rfl, hb4⟩
                go_wp2_with fail
                go_roundg g
                case measure => omega
                case rel => exact ⟨k + 1, a, cap, xs, by omega, by go_num, rfl, hxl, Lib.hid (HO3.out.under hb4), HDx, Lib.hid (HStep.out (HIn.out (by trivial)))⟩
              case false =>
                by_cases hfull : xs.length < ND
                · go_wp2_with fail
                  refine HCt.out.mono ?_
                  rintro e w4 ⟨rfl, hb4⟩
                  have HO4 := Lib.hid (HO3.out.under hb4)
                  obtain ⟨p0, p1, p2⟩ := HBx.out.under hb4
                  clear HCt
                  go_wp2_with (at_builtin; refine wp_appSh HO4.out s (by omega) rfl (.tmp 132) (.tmp 134) rfl rfl rfl ?_; intro g5 cap5 w5 hO5)
                  go_roundg g
                  case measure => omega
                  case rel =>
                    refine ⟨k + 1, _, cap5, xs ++ [s], by omega, by go_num, by rw [List.length_append]; rfl, by rw [List.length_append]; simp; omega, Lib.hid hO5, Lib.hid (HAd.out (by trivial)), Lib.hid (fun _ i hi => ?_)⟩
                    by_cases e : i = k
                    · subst e
                      exact ⟨s, by simp, by rw [HSk.out]⟩
                    · obtain ⟨t, ht, e2⟩ := HAll.out hfull i (by omega)
                      exact ⟨t, by simp [ht], e2⟩
                · go_wp2_with fail
                  refine HCt.out.mono ?_
                  rintro e w4 ⟨rfl, hb4⟩
                  go_wp2_with fail
                  go_roundg g
                  case measure => omega
                  case rel => exact ⟨k + 1, a, cap, xs, by omega, by go_num, rfl, hxl, Lib.hid (HO3.out.under hb4), HDx, Lib.hid (fun h => absurd h hfull)⟩
            · have hlx : xs.length = ND := by
                rcases Nat.lt_or_ge xs.length ND with h | h
                · have := Dealt.len hM20 (fun i hi => HAll.out h i (by omega))
                  omega
                · omega
              obtain rfl : xs.length = ND := hlx
              have hOk := HDx.out.ok hM20 (by omega) (by omega) c1' c2'
              have HOk := Lib.hid hOk
              have HVs := Lib.hid (valT_secret HDx.out hOk HNz.out HND.out)
              have HSc := Lib.hid (secret_any xs a cap secret.size wr HOx.out.holds HOx.out.cap hOk)
              rw [HVs.out] at HSc
              obtain ⟨gs, ha, hgs, hRS⟩ := HOx.out.rowS (by omega)
              subst ha
              have HRS := Lib.hid hRS
              have hcap := HOx.out.cap
              have hbw := bTrans hb2 HOx.out.below
              have hw2 := hb2.size
              clear hOk hRS HAll HVs HDx HLg HLl
              go_wp2_with fail
              refine HSc.out.mono ?_
              rintro e w6 ⟨rfl, hb6⟩
              replace HRS := Lib.hid (HRS.out.under hb6)
              have hb6' := bTrans hbw hb6
              clear HSc hb6 HOx hbw
              go_upto_region 30 with fail
              have HT0 : Hid (RowT 42 (w6.alloc (.cells Tryd.zeroCells42 42)) w6.heap.size (metTo xs 0)) := Lib.hid (by
                unfold RowT
                rw [heap_alloc_new, metTo_zero, zero_truths])
              have hb0 : Below w6.heap.size w6 (w6.alloc (.cells Tryd.zeroCells42 42)) := bAlloc (Below.refl _ _) _
              have hgl6 := HRS.out.lt
              replace HRS := Lib.hid (HRS.out.under hb0)
              replace hb6' := bTrans hb6' hb0
              have hw6 : w.heap.size ≤ w6.heap.size := by have := hb6'.size; have := HRS.out.lt; omega
              generalize w6.alloc (.cells Tryd.zeroCells42 42) = w7 at *
              generalize w6.heap.size = bt at *
              clear hb0 hk hlt
              obtain ⟨sl, hsl⟩ : ∃ s, xs[N]? = some s := ⟨_, List.getElem?_eq_getElem (by have := HND.out; omega)⟩
              obtain ⟨b9, o9, h9, hb9, z0, z1⟩ := shareRow HRS.out.holds hsl
              cases h9
              rw [Nat.zero_add] at z0 z1
              have hNx : N < xs.length := by have := HND.out; omega
              have hdz : sl.d.size = secret.size := HOk.out.size sl (List.mem_of_getElem? hsl)
              have HSl := Lib.hid hsl
              clear hsl
              go_upto_region 32 with fail
              clear z0 z1
              have HRS0 : Hid (RowS w7 gs (lastSet xs sl.d)) := Lib.hid (by rw [lastSet_self HND.out HSl.out]; exact HRS.out)
              have hgs2 : w.heap.size ≤ gs := by omega
              have hbt : w.heap.size ≤ bt := hw6
              clear HRS hw2 hw6 hgs
              go_wp2_with fail
              go_loopg [158] 256 (fun g i wx => ∃ (k : Nat) (d : ByteArray), k + g = 256 ∧ i = .int .i64 k ∧ Below w.heap.size w wx ∧ Hid (RowS wx gs (lastSet xs d)) ∧ Hid (RowT 42 wx bt (metTo xs k)))
              case atStart => exact ⟨0, sl.d, by omega, rfl, hb6', HRS0, HT0⟩
              case round =>
                clear HRS0 HT0 hb6'
                obtain ⟨k, d, hk, rfl, hb, HRS, HT⟩ := hrel
                by_cases hlt : k < 256
                · obtain ⟨g, rfl⟩ : ∃ g, gk = g + 1 := ⟨gk - 1, by omega⟩
                  obtain ⟨v, hv⟩ : ∃ v : UInt8, v.toNat = k := ⟨UInt8.ofNat k, by simp; omega⟩
                  have hvF : v.toBitVec = BitVec.ofNat 8 k := by
                    apply BitVec.eq_of_toNat_eq
                    rw [BitVec.toNat_ofNat]
                    show v.toNat = _
                    omega
                  have hcv : (convert 44 9 (.slice (some ⟨wr.heap.size, 0, none⟩) 1 1)).run Tryd.prog (wr.alloc (.cells #[.int .u8 (k : Int)] 5)) = .ok (.string ⟨#[v]⟩) (wr.alloc (.cells #[.int .u8 (k : Int)] 5)) := by
                    have h := convB (OwnB.fresh wr [v] (by simp))
                    rw [← hv]
                    exact h
                  have hcv2 : (convert 44 9 (.slice (some ⟨wr.heap.size, 0, none⟩) 1 1)).run Tryd.prog (wr.alloc (.cells #[.int .u8 (k : Int)] 5)).drew = .ok (.string ⟨#[v]⟩) (wr.alloc (.cells #[.int .u8 (k : Int)] 5)).drew := by
                    have h := convB (out := [v]) (Own.drew (OwnB.fresh wr [v] (by simp)))
                    rw [← hv]
                    exact h
                  have hwk : IntKind.u8.wrap (k : Int) = (k : Int) := wrap_u8 k hlt
                  have h1v : (⟨#[v]⟩ : ByteArray).size = 1 := rfl
                  obtain ⟨d2, hd2⟩ : ∃ d2, sl.d.extract 1 secret.size = d2 := ⟨_, rfl⟩
                  have h1s : (1 : Int) ≤ (secret.size : Int) := by omega
                  have hd2s : d2.size = secret.size - 1 := by rw [← hd2]; simp; omega
                  have hadd : ∀ W : World, (Op.stringOp .add ⟨#[v]⟩ d2).run Tryd.prog W = .ok (.string (⟨#[v]⟩ ++ d2)) W := fun W => run_string_add_sum W _ _ (by rw [h1v]; omega)
                  have hd3s : ((⟨#[v]⟩ : ByteArray) ++ d2).size = secret.size := by rw [ByteArray.size_append, h1v]; omega
                  have hd3v : ((⟨#[v]⟩ : ByteArray) ++ d2).data.toList[0]? = some v := by simp [ByteArray.data_append]
                  generalize hd3 : (⟨#[v]⟩ : ByteArray) ++ d2 = d3 at *
                  have hok3 := lastSet_ok HOk.out hd3s
                  have hfst := valT_first HOk.out hd3v
                  rw [hvF] at hfst
                  have HSt := Lib.hid (metTo_step xs k)
                  have HNw := Lib.hid (metTo_new HOk.out hlt)
                  have HLs := Lib.hid (lastSet_last HND.out d)
                  have HSs := Lib.hid (lastSet_set HND.out d d3)
                  have HSec := Lib.hid (fun W (h : HoldsR W (some ⟨gs, 0, none⟩) 2 ((lastSet xs d3).map shareCells)) => secret_any (lastSet xs d3) (some ⟨gs, 0, none⟩) cap secret.size W h (by rw [lastSet_len]; exact hcap) hok3)
                  rw [lastSet_len] at HSec
                  have hTs : (valT (lastSet xs d3) secret.size 0#8).size = secret.size := by
                    rw [Lib.size_eq]
                    simp [valT]
                  generalize valT (lastSet xs d3) secret.size 0#8 = T at *
                  generalize fstOf xs (BitVec.ofNat 8 k) = f at *
                  have hT0 : 0 < T.size := by omega
                  have hTi : T[0] = UInt8.ofBitVec f := by
                    have h1 := (List.getElem?_eq_some_iff.1 hfst).2
                    rw [← h1]
                    rfl
                  have HFz := Lib.hid (HRS.out.free (N * 2 + 1))
                  obtain ⟨b9, o9, h9, hb9, z0, z1⟩ := shareRow HRS.out.holds HLs.out
                  cases h9
                  rw [Nat.zero_add] at z0 z1
                  have hdz1 : 1 ≤ sl.d.size := by omega
                  have HTi := Lib.hid hTi
                  clear hok3 hfst hvF hd3s hd3v hd2s hTi hv hTs h1v
                  go_upto_region 35 with fail
                  have z2 := HFz.out
                  --R35
                  refine wp_region_seq (fun _ => True) [(0, true), (1, true), (2, true), (5, true), (6, true), (3, false), (4, false), (7, true), (8, true), (9, true), (10, false)] (by as_aux_lemma => kernel_rfl) (by as_aux_lemma => kernel_rfl) (by decide) (by as_aux_lemma => kernel_rfl) trivial ?_
                  intro OPS HO5
                  refine seq_take (o := ⟨_, _, _, _, _, _⟩) (v := ?_) (by rw [HO5.out]; rfl) (by rfl) ?_ ?_
                  rotate_left 1
                  · first | ((intro W _; go_simp) <;> with_reducible rfl) | (intro W hW; skip; (go_simp <;> with_reducible rfl))
                  try simp only [Act.put, List.setIfInBounds_toArray, List.set_cons_zero, List.set_cons_succ]
                  refine seq_take (o := ⟨_, _, _, _, _, _⟩) (v := ?_) (by rw [HO5.out]; rfl) (by rfl) ?_ ?_
                  rotate_left 1
                  · first | ((intro W _; go_simp) <;> with_reducible rfl) | (intro W hW; skip; (go_simp <;> with_reducible rfl))
                  try simp only [Act.put, List.setIfInBounds_toArray, List.set_cons_zero, List.set_cons_succ]
                  refine seq_take (o := ⟨_, _, _, _, _, _⟩) (v := ?_) (by rw [HO5.out]; rfl) (by rfl) ?_ ?_
                  rotate_left 1
                  · first | ((intro W _; go_simp) <;> with_reducible rfl) | (intro W hW; skip; (go_simp <;> with_reducible rfl))
                  try simp only [Act.put, List.setIfInBounds_toArray, List.set_cons_zero, List.set_cons_succ]
                  refine seq_take (o := ⟨_, _, _, _, _, _⟩) (v := ?_) (by rw [HO5.out]; rfl) (by rfl) ?_ ?_
                  rotate_left 1
                  · first | ((intro W _; go_simp) <;> with_reducible rfl) | (intro W hW; skip; (go_simp <;> with_reducible rfl))
                  try simp only [Act.put, List.setIfInBounds_toArray, List.set_cons_zero, List.set_cons_succ]
                  refine seq_take (o := ⟨_, _, _, _, _, _⟩) (v := ?_) (by rw [HO5.out]; rfl) (by rfl) ?_ ?_
                  rotate_left 1
                  · first | ((intro W _; go_simp) <;> with_reducible rfl) | (intro W hW; skip; (go_simp <;> with_reducible rfl))
                  try simp only [Act.put, List.setIfInBounds_toArray, List.set_cons_zero, List.set_cons_succ]
                  refine seq_do (o := ⟨_, _, _, _, _, _⟩) (by rw [HO5.out]; rfl) (by rfl) (fun K hK => ?_)
                  go_wp2_with fail
                  refine hK.out _ _ trivial (fun _ => ?_)
                  clear hK K
                  try simp only [Act.put, List.setIfInBounds_toArray, List.set_cons_zero, List.set_cons_succ]
                  refine seq_do (o := ⟨_, _, _, _, _, _⟩) (by rw [HO5.out]; rfl) (by rfl) (fun K hK => ?_)
                  go_wp2_with fail
                  refine hK.out _ _ trivial (fun _ => ?_)
                  clear hK K
                  try simp only [Act.put, List.setIfInBounds_toArray, List.set_cons_zero, List.set_cons_succ]
                  refine seq_take (o := ⟨_, _, _, _, _, _⟩) (v := ?_) (by rw [HO5.out]; rfl) (by rfl) ?_ ?_
                  rotate_left 1
                  · first | ((intro W _; go_simp) <;> with_reducible rfl) | (intro W hW; skip; (go_simp <;> with_reducible rfl))
                  try simp only [Act.put, List.setIfInBounds_toArray, List.set_cons_zero, List.set_cons_succ]
                  refine seq_take (o := ⟨_, _, _, _, _, _⟩) (v := ?_) (by rw [HO5.out]; rfl) (by rfl) ?_ ?_
                  rotate_left 1
                  · first | ((intro W _; go_simp) <;> with_reducible rfl) | (intro W hW; skip; (go_simp <;> with_reducible rfl))
                  try simp only [Act.put, List.setIfInBounds_toArray, List.set_cons_zero, List.set_cons_succ]
                  refine seq_take (o := ⟨_, _, _, _, _, _⟩) (v := ?_) (by rw [HO5.out]; rfl) (by rfl) ?_ ?_
                  rotate_left 1
                  · first | ((intro W _; go_simp) <;> with_reducible rfl) | (intro W hW; skip; (go_simp <;> with_reducible rfl))
                  try simp only [Act.put, List.setIfInBounds_toArray, List.set_cons_zero, List.set_cons_succ]
                  refine seq_do (o := ⟨_, _, _, _, _, _⟩) (by rw [HO5.out]; rfl) (by rfl) (fun K hK => ?_)
                  go_wp2_with fail
                  refine hK.out _ _ trivial (fun _ => ?_)
                  clear hK K
                  try simp only [Act.put, List.setIfInBounds_toArray, List.set_cons_zero, List.set_cons_succ]
                  refine seq_done ?_
                  --END35
                  go_wp2_with fail
                  have hbs : Below w.heap.size w ((wr.setCell ⟨gs, N * 2 + 1, none⟩ (.string d3)).alloc (.cells #[.int .u8 (k : Int)] 5)).drew := (bAlloc (hb.setCell (p := ⟨gs, N * 2 + 1, none⟩) hgs2 _) _).drew
                  have hR1 : RowS (wr.setCell ⟨gs, N * 2 + 1, none⟩ (.string d3)) gs (lastSet xs d3) := by
                    have h := HRS.out.set HLs.out d3
                    rw [← HSs.out]
                    exact h
                  have hT1 : RowT 42 (wr.setCell ⟨gs, N * 2 + 1, none⟩ (.string d3)) bt (metTo xs k) := HT.out.other (by omega) _ _
                  have HRS5 : Hid (RowS ((wr.setCell ⟨gs, N * 2 + 1, none⟩ (.string d3)).alloc (.cells #[.int .u8 (k : Int)] 5)).drew gs (lastSet xs d3)) := Lib.hid (hR1.under (bAlloc (Below.refl _ _) _)).drew
                  have HT5 : Hid (RowT 42 ((wr.setCell ⟨gs, N * 2 + 1, none⟩ (.string d3)).alloc (.cells #[.int .u8 (k : Int)] 5)).drew bt (metTo xs k)) := Lib.hid (hT1.under (bAlloc (Below.refl _ _) _)).drew
                  clear hR1 hT1 z0 z1 z2 hcv hcv2 HRS HT hb
                  refine (HSec.out _ HRS5.out.holds).mono ?_
                  rintro e w9 ⟨rfl, hb9'⟩
                  replace HRS5 := Lib.hid (HRS5.out.under hb9')
                  replace HT5 := Lib.hid (HT5.out.under hb9')
                  replace hbs := bTrans hbs hb9'
                  clear hb9' HSec
                  obtain ⟨t1, t2⟩ := HT5.out.cell HNw.out
                  have hTn : T[0].toNat = f.toNat := by rw [HTi.out]; rfl
                  have hfl : f.toNat < 256 := f.isLt
                  go_wp2_with fail
                  go_roundg g
                  case measure => omega
                  case rel => exact ⟨k + 1, d3, by omega, by go_num, hbs.setCell (p := ⟨bt, f.toNat, none⟩) hbt _, Lib.hid (HRS5.out.other (by omega) _ _), Lib.hid (by rw [HSt.out]; exact HT5.out.set f.toNat true)⟩
                · go_wp2_with fail
                  go_ret
                  exact ⟨rfl, hb⟩
end Go.Proofs.YtjcpcmiijadmcaaDoor
