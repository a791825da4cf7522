/-
  names.ParseAge.
-/
import Derived.Test.YtjfnkkpmmebnfaaDoorSize3
import Derived.Test.YtjfnkkpmmebnfaaDoorPlainAge
namespace Go.Proofs.YtjfnkkpmmebnfaaDoor
open Go.RowKit

/-- A unit's word, as a text. -/
def uB (k : Nat) : ByteArray := ⟨(Wh.uWord k).toArray⟩
theorem uB_data (k : Nat) : (uB k).data.toList = Wh.uWord k := by simp [uB]

/-- A block that holds the units. -/
def UnitBox (w : World) (b : Nat) : Prop := b < w.heap.size ∧ ∀ k, k < 8 → w.cell? ⟨b, k * 2, none⟩ = some (.string (uB k)) ∧ w.cell? ⟨b, k * 2 + 1, none⟩ = some (.int .i64 (Wh.uSize k : Nat))

theorem UnitBox.under {w w' : World} {b : Nat} (h : UnitBox w b) (hb : Below w.heap.size w w') : UnitBox w' b :=
  ⟨Nat.lt_of_lt_of_le h.1 hb.size, fun k hk => ⟨(hb.cell (p := ⟨b, k * 2, none⟩) h.1).trans (h.2 k hk).1, (hb.cell (p := ⟨b, k * 2 + 1, none⟩) h.1).trans (h.2 k hk).2⟩⟩

abbrev unitObj : Obj := .cells #[.string ⟨#[119]⟩, .int .i64 604800000000000, .string ⟨#[100]⟩, .int .i64 86400000000000, .string ⟨#[104]⟩, .int .i64 3600000000000, .string ⟨#[109]⟩, .int .i64 60000000000, .string ⟨#[115]⟩, .int .i64 1000000000, .string ⟨#[109, 115]⟩, .int .i64 1000000, .string ⟨#[117, 115]⟩, .int .i64 1000, .string ⟨#[110, 115]⟩, .int .i64 1] 140

theorem unitBox_new (w : World) : UnitBox (w.alloc unitObj) w.heap.size := by
  refine ⟨by simp, fun k hk => ?_⟩
  rw [World.cell?_alloc_at _ _ _ _ rfl, World.cell?_alloc_at _ _ _ _ rfl]
  rcases (by omega : k = 0 ∨ k = 1 ∨ k = 2 ∨ k = 3 ∨ k = 4 ∨ k = 5 ∨ k = 6 ∨ k = 7) with rfl | rfl | rfl | rfl | rfl | rfl | rfl | rfl <;> exact ⟨rfl, rfl⟩

/-- The units come back. -/
def UnitsPost (w : World) (e : Ending) (w' : World) : Prop := ∃ b, e = .returned (.slice (some ⟨b, 0, none⟩) 8 8) ∧ UnitBox w' b ∧ Below w.heap.size w w'

set_option maxHeartbeats 1000000 in
set_option maxRecDepth 100000 in
theorem ageUnits_any (w : World) : Calls Tryd.prog 85 #[] w (UnitsPost w) := by
  go_enter Tryd.func85, Tryd.ntmps85
  go_wp2_with fail
  go_ret
  exact ⟨_, rfl, unitBox_new w, bAlloc (Below.refl _ _) _⟩

/-- What ParseAge returns. -/
def AgePost (l : List UInt8) (w : World) (e : Ending) (w' : World) : Prop := e = .returned (.tuple #[.int .i64 (Wh.parseAg l).1, .int .i64 (Wh.parseAg l).2]) ∧ Below w.heap.size w w'

theorem agePost_of {l : List UInt8} {w w' : World} {a b : Int} (h : Wh.parseAg l = (a, b)) (hb : Below w.heap.size w w') : AgePost l w (.returned (.tuple #[.int .i64 a, .int .i64 b])) w' := by
  refine ⟨?_, hb⟩
  rw [h]

theorem while_len {α : Type} (p : α → Bool) (l : List α) : l.takeWhile p = l.take (l.takeWhile p).length ∧ l.dropWhile p = l.drop (l.takeWhile p).length ∧ (l.takeWhile p).length ≤ l.length := by
  have e := List.takeWhile_append_dropWhile (p := p) (l := l)
  have h3 : (l.takeWhile p).length ≤ l.length := (List.takeWhile_sublist _).length_le
  have h1 : l.take (l.takeWhile p).length = l.takeWhile p := by
    conv => lhs; rw [← e]
    rw [List.takeWhile_append_dropWhile]
    conv => lhs; arg 2; rw [← e]
    rw [List.take_left]
  have h2 : l.drop (l.takeWhile p).length = l.dropWhile p := by
    conv => lhs; arg 2; rw [← e]
    rw [List.drop_left]
  exact ⟨h1.symm, h2.symm, h3⟩

theorem while_in {α : Type} {p : α → Bool} {l : List α} {i : Nat} (h : i < (l.takeWhile p).length) : ∃ x, l[i]? = some x ∧ p x = true := by
  refine ⟨(l.takeWhile p)[i], ?_, Wh.takeWhile_mem (List.getElem_mem h)⟩
  have h1 := (while_len p l).1
  have h2 : (l.takeWhile p)[i]? = l[i]? := by
    conv => lhs; rw [h1]
    rw [List.getElem?_take_of_lt h]
  rw [← h2, List.getElem?_eq_getElem h]

theorem while_out {α : Type} {p : α → Bool} {l : List α} {x : α} (h : l[(l.takeWhile p).length]? = some x) : p x = false := by
  have h1 := (while_len p l).2.1
  have h2 : (l.dropWhile p).head? = some x := by rw [h1, List.head?_drop]; exact h
  cases hd : l.dropWhile p with
  | nil => rw [hd] at h2; simp at h2
  | cons y r =>
    rw [hd] at h2
    simp at h2
    subst h2
    exact Wh.dropWhile_head hd

set_option maxHeartbeats 1200000 in
set_option maxRecDepth 100000 in
theorem parseAge_any (s : ByteArray) (w : World) (hs : s.size ≤ 140737488355328) : Calls Tryd.prog 36 #[.string s] w (AgePost s.data.toList w) := by
  have qs := toList_isEmpty s
  have HSz := Lib.hid (Lib.size_eq s)
  by_cases h0 : s.size = 0
  · have q1 : s.toList.isEmpty = true := by rw [qs]; simpa using h0
    have q2 : s.toList = [] := List.isEmpty_iff.1 q1
    have HK : Hid (Wh.parseAg s.data.toList = (0, 9)) := Lib.hid (by
      unfold Wh.parseAg
      rw [if_pos (by rw [← Lib.toList_data]; exact q2)])
    clear qs h0
    go_enter Tryd.func36, Tryd.ntmps36
    go_wp2_with fail
    go_ret2
    exact agePost_of HK.out (Below.refl _ _)
  · have q1 : s.toList.isEmpty = false := by rw [qs]; simpa using h0
    have hne : s.data.toList ≠ [] := fun e => h0 (by rw [Lib.size_eq, e]; rfl)
    obtain ⟨R, hR⟩ : ∃ R, Wh.ageGo Wh.letter s.size s.data.toList 0 0 = R := ⟨_, rfl⟩
    have HK : Hid (Wh.parseAg s.data.toList = Wh.ageEnd R) := Lib.hid (by
      unfold Wh.parseAg
      rw [if_neg hne, ← hR, Lib.size_eq])
    have HR0 := Lib.hid hR
    clear qs h0 hne hR
    go_enter Tryd.func36, Tryd.ntmps36
    go_wp2_with (go_at_call 85; refine (ageUnits_any _).mono ?_; rintro e w1 ⟨ub, rfl, hU, hb1⟩; have HU := Lib.hid hU; clear hU)
    go_loopg [0, 5, 6] s.size (fun g s0 s5 s6 wx => ∃ (t : ByteArray) (next tot : Nat) (T : Int), s0 = .string t ∧ s5 = .int .i64 T ∧ s6 = .int .i64 next ∧ next ≤ 8 ∧ t.size ≤ g ∧ t.size ≤ s.size ∧ 0 ≤ T ∧ T ≤ 4611686018427387905 ∧ Below w1.heap.size w1 wx ∧ Hid (T = ((Wh.satur tot : Nat) : Int) ∧ Wh.ageGo Wh.letter g t.data.toList next tot = R))
    case atStart => exact ⟨s, 0, 0, 0, rfl, rfl, rfl, by omega, Nat.le_refl _, Nat.le_refl _, by omega, by omega, Below.refl _ _, Lib.hid ⟨rfl, HR0.out⟩⟩
    case round =>
      obtain ⟨t, next, tot, T, rfl, rfl, rfl, hn8, htg, hts, hT0, hT1, hbr, HQ⟩ := hrel
      have qt := toList_isEmpty t
      by_cases ht0 : t.size = 0
      · have p1 : t.toList.isEmpty = true := by rw [qt]; simpa using ht0
        have p2 : t.toList = [] := List.isEmpty_iff.1 p1
        have HRv : Hid (R = some tot) := Lib.hid (by
          have h1 := HQ.out.2
          have h2 : t.data.toList = [] := by rw [← Lib.toList_data]; exact p2
          rw [h2, Wh.ageGo_nil] at h1
          exact h1.symm)
        clear qt ht0
        by_cases hbig : 4611686018427387904 < T
        · have HKv : Hid (Wh.parseAg s.data.toList = (0, 7)) := Lib.hid (by
            rw [HK.out, HRv.out]
            refine Wh.ageEnd_over ?_
            have := HQ.out.1
            show 4611686018427387904 < _
            omega)
          go_wp2_with fail
          go_ret2
          exact agePost_of HKv.out (bTrans hb1 hbr)
        · have HKv : Hid (Wh.parseAg s.data.toList = (T, 0)) := Lib.hid (by
            rw [HK.out, HRv.out, HQ.out.1]
            refine Wh.ageEnd_fits ?_
            have := HQ.out.1
            show _ ≤ 4611686018427387904
            omega)
          go_wp2_with fail
          go_ret2
          exact agePost_of HKv.out (bTrans hb1 hbr)
      · have p1 : t.toList.isEmpty = false := by rw [qt]; simpa using ht0
        have p3 : ¬ t.toList = [] := fun e => by rw [e] at p1; simp at p1
        have hne : t.data.toList ≠ [] := by rw [← Lib.toList_data]; exact p3
        obtain ⟨g, rfl⟩ : ∃ g, gk = g + 1 := ⟨gk - 1, by omega⟩
        have HNe := Lib.hid hne
        have HL := Lib.hid (fun W => leading_any t W (by omega))
        clear qt ht0 hne
        go_wp2_with fail
        refine (HL.out _).mono ?_
        rintro e w2 ⟨d, r, rfl, hd, hr, hb2⟩
        have hda : d.data.toList.all Wh.digit = true := by rw [hd, List.all_eq_true]; exact fun x hx => Wh.takeWhile_mem hx
        have hdl : d.size ≤ t.size := by rw [Lib.size_eq, Lib.size_eq t, hd]; exact takeWhile_len _
        have hrl : r.size ≤ t.size := by rw [Lib.size_eq, Lib.size_eq t, hr]; exact dropWhile_len _
        have Hd := Lib.hid hd
        have Hr := Lib.hid hr
        replace hbr := bTrans hbr hb2
        clear hd hr HL hb2
        cases hok : Wh.numOk d.data.toList
        · have HN := Lib.hid (fun W => number_bad d W hok)
          have HKv : Hid (Wh.parseAg s.data.toList = (0, 9)) := Lib.hid (by
            rw [HK.out, ← HQ.out.2, Wh.ageGo_bad HNe.out (by rw [← Hd.out]; exact hok)]
            rfl)
          clear hok
          go_wp2_with (go_at_call 87; refine (HN.out _).mono ?_; rintro e w3 ⟨rfl, hw3⟩; subst w3)
          go_ret2
          exact agePost_of HKv.out (bTrans hb1 hbr)
        · have HN := Lib.hid (fun W => number_ok d W (by omega) hda hok)
          have HOk : Hid (Wh.numOk (t.data.toList.takeWhile Wh.digit) = true) := Lib.hid (by rw [← Hd.out]; exact hok)
          have HTs := Lib.hid (fun u hu => @Wh.times_satur d.data.toList u hu)
          have hnv : Wh.numV d.data.toList ≤ 4611686018427387905 := by
            unfold Wh.numV
            split
            · rename_i h; exact Nat.le_succ_of_le h
            · exact Nat.le_refl _
          clear hok
          generalize Wh.numV d.data.toList = NV at *
          obtain ⟨m, hm⟩ : ∃ m, (r.data.toList.takeWhile Wh.letter).length = m := ⟨_, rfl⟩
          have hml : m ≤ r.size := by rw [← hm, Lib.size_eq]; exact (while_len _ _).2.2
          have HM := Lib.hid hm
          clear hm
          go_wp2_with (go_at_call 87; refine (HN.out _).mono ?_; rintro e w3 ⟨rfl, hw3⟩; subst w3)
          obtain ⟨wo, hwo⟩ : ∃ wo : World, wo = w2 := ⟨_, rfl⟩
          subst hwo
          go_loopg [11] m (fun g2 s11 wx => ∃ i : Nat, i + g2 = m ∧ s11 = .int .i64 i ∧ wx = wo)
          case atStart => exact ⟨0, by omega, rfl, rfl⟩
          case round =>
            obtain ⟨i, hi, rfl, hw⟩ := hrel
            subst wr
            by_cases hlt : i < m
            · obtain ⟨g2, rfl⟩ : ∃ g2, gk = g2 + 1 := ⟨gk - 1, by omega⟩
              have hlt2 : i < r.size := by omega
              obtain ⟨x, hx⟩ : ∃ x : UInt8, r[i]'hlt2 = x := ⟨_, rfl⟩
              have hxl : r.data.toList[i]? = some x := by rw [← hx]; exact Lib.data_getElem? r i hlt2
              have hlx : Wh.letter x = true := by
                obtain ⟨y, hy, hly⟩ := while_in (p := Wh.letter) (l := r.data.toList) (i := i) (by rw [HM.out]; exact hlt)
                rw [hxl] at hy
                cases hy
                exact hly
              have hB := fun W => letter_any x W
              rw [hlx] at hB
              have HB := Lib.hid hB
              clear hB hlx hxl
              go_wp2_with (go_at_call 88; refine (HB.out _).mono ?_; rintro e w' ⟨rfl, hw'⟩; subst w')
              go_roundg g2
              case measure => omega
              case rel => exact ⟨i + 1, by omega, by go_num, rfl⟩
            · obtain rfl : i = m := by omega
              have hout : r.size ≤ i ∨ ∃ h : i < r.size, Wh.letter (r[i]'h) = false := by
                rcases Nat.lt_or_ge i r.size with h | h
                · refine .inr ⟨h, while_out (p := Wh.letter) (l := r.data.toList) ?_⟩
                  rw [HM.out]
                  exact Lib.data_getElem? r i h
                · exact .inl h
              obtain ⟨BW, hBW⟩ : ∃ BW : ByteArray, r.extract 0 i = BW := ⟨_, rfl⟩
              obtain ⟨RE, hRE⟩ : ∃ RE : ByteArray, r.extract i r.size = RE := ⟨_, rfl⟩
              have hBd : BW.data.toList = r.data.toList.takeWhile Wh.letter := by
                rw [← hBW, (while_len Wh.letter r.data.toList).1, HM.out]
                simp
              have hREd : RE.data.toList = r.data.toList.dropWhile Wh.letter := by
                rw [← hRE, (while_len Wh.letter r.data.toList).2.1, HM.out]
                exact Lib.extract_to_end r i
              have HBd := Lib.hid hBd
              have HREd := Lib.hid hREd
              have HBW := Lib.hid hBW
              have HRE := Lib.hid hRE
              have i0 : (0 : Int) ≤ (i : Int) := by omega
              have i1 : (i : Int) ≤ (r.size : Int) := by omega
              clear hBd hREd hBW hRE hlt hi HM
              obtain ⟨wq, hwq⟩ : ∃ wq : World, wq = wo := ⟨_, rfl⟩
              subst hwq
              rcases hout with hout | ⟨hlt2, hlx⟩
              case' inr =>
                obtain ⟨x, hx⟩ : ∃ x : UInt8, r[i]'hlt2 = x := ⟨_, rfl⟩
                rw [hx] at hlx
                have hB := fun W => letter_any x W
                rw [hlx] at hB
                have HB := Lib.hid hB
                clear hB hlx
                go_wp2_with (go_at_call 88; refine (HB.out _).mono ?_; rintro e w' ⟨rfl, hw'⟩; subst w')
              case' inl =>
                go_wp2_with fail
              all_goals
                have hbW := HBW.out
                have hrE := HRE.out
                go_loopg [12] (8 - next) (fun g3 s12 wx => ∃ k : Nat, next ≤ k ∧ k + g3 = 8 ∧ s12 = .int .i64 k ∧ Below wq.heap.size wq wx ∧ Hid (∀ j, next ≤ j → j < k → Wh.uWord j ≠ BW.data.toList))
                case atStart => exact ⟨next, Nat.le_refl _, by omega, rfl, Below.refl _ _, Lib.hid (fun j h1 h2 => by omega)⟩
                case round =>
                  obtain ⟨k, hnk, hk8, rfl, hb3, HJ⟩ := hrel
                  by_cases hk : k < 8
                  · obtain ⟨g3, rfl⟩ : ∃ g3, gk = g3 + 1 := ⟨gk - 1, by omega⟩
                    have hbq : Below w1.heap.size w1 wr := bTrans hbr hb3
                    obtain ⟨hc0, hc1⟩ := (HU.out.under hbq).2 k hk
                    have k0 : (0 : Int) ≤ (k : Int) := by omega
                    have k1 : (k : Int) < 8 := by omega
                    by_cases hw : Wh.uWord k = BW.data.toList
                    · have q : ((uB k).toList == BW.toList) = true := by
                        rw [Lib.toList_data, Lib.toList_data, uB_data]
                        simpa using hw
                      have q' : ((uB k).toList != BW.toList) = false := by rw [bne, q]; rfl
                      have hfu : Wh.findU (r.data.toList.takeWhile Wh.letter) next = some k := Wh.findU_at hnk hk (by rw [hw, HBd.out])
                      have HSt : Hid (Wh.ageGo Wh.letter g RE.data.toList (k + 1) (tot + Wh.dval d.data.toList * Wh.uSize k) = R) := Lib.hid (by
                        have h1 := HQ.out.2
                        rw [Wh.ageGo_step HNe.out HOk.out (by rw [← Hr.out]; exact hfu), ← Hr.out, ← Hd.out] at h1
                        rw [HREd.out]
                        exact h1)
                      have hrs : RE.size ≤ g ∧ RE.size ≤ s.size := by
                        have h1 := Wh.age_shorter (p := Wh.letter) HOk.out
                        rw [← Hr.out, ← HREd.out, ← Lib.size_eq, ← Lib.size_eq] at h1
                        omega
                      obtain ⟨u1, u2⟩ := Wh.uSize_pos k
                      have HTm := Lib.hid (fun W => times_any NV (Wh.uSize k) W u1 (by omega))
                      rw [HTs.out (Wh.uSize k) u1] at HTm
                      have hsl := Wh.satur_le (Wh.dval d.data.toList * Wh.uSize k)
                      have HOv := Lib.hid (@Wh.satur_over tot (Wh.dval d.data.toList * Wh.uSize k))
                      have HFt := Lib.hid (@Wh.satur_fits tot (Wh.dval d.data.toList * Wh.uSize k))
                      generalize Wh.dval d.data.toList * Wh.uSize k = P at *
                      have hXl : (Wh.satur P : Int) ≤ 4611686018427387905 := by
                        have : Wh.satur P ≤ 4611686018427387905 := hsl
                        omega
                      have hX0 : 0 ≤ (Wh.satur P : Int) := by omega
                      obtain ⟨X, hX⟩ : ∃ X : Int, X = (Wh.satur P : Int) := ⟨_, rfl⟩
                      rw [← hX] at HTm hXl hX0
                      have HX := Lib.hid hX
                      clear hw HJ hfu hX hsl
                      by_cases hov : 4611686018427387904 < T ∨ 4611686018427387904 - T < X
                      · have HN2 : Hid ((4611686018427387905 : Int) = ((Wh.satur (tot + P) : Nat) : Int)) := Lib.hid (by
                          have h1 : Wh.satur (tot + P) = 4611686018427387905 := HOv.out (by
                            have e1 := HQ.out.1
                            have e2 := HX.out
                            show 4611686018427387904 < _ ∨ 4611686018427387904 < _
                            omega)
                          rw [h1]
                          rfl)
                        rcases (by omega : 4611686018427387904 < T ∨ (¬ 4611686018427387904 < T ∧ 4611686018427387904 - T < X)) with o1 | ⟨o1, o2⟩
                        all_goals
                          go_wp2_with fail
                          go_quiet (fail)
                          go_wp2_with (go_at_call 89; refine (HTm.out _).mono ?_; rintro e w' ⟨rfl, hw'⟩; subst w')
                          go_roundg g
                          case measure => omega
                          case rel => exact ⟨RE, k + 1, tot + P, 4611686018427387905, rfl, rfl, by go_num, by omega, hrs.1, hrs.2, by omega, by omega, bDrewN hbq _, Lib.hid ⟨HN2.out, HSt.out⟩⟩
                      · have o1 : ¬ 4611686018427387904 < T := by omega
                        have o2 : ¬ 4611686018427387904 - T < X := by omega
                        have HN2 : Hid (T + X = ((Wh.satur (tot + P) : Nat) : Int)) := Lib.hid (by
                          have e1 := HQ.out.1
                          have e2 := HX.out
                          have h1 := HFt.out (by show _ ≤ 4611686018427387904; omega) (by show _ ≤ 4611686018427387904; omega)
                          rw [h1]
                          omega)
                        clear hov
                        go_wp2_with fail
                        go_quiet (fail)
                        go_wp2_with (go_at_call 89; refine (HTm.out _).mono ?_; rintro e w' ⟨rfl, hw'⟩; subst w')
                        go_roundg g
                        case measure => omega
                        case rel => exact ⟨RE, k + 1, tot + P, T + X, rfl, rfl, by go_num, by omega, hrs.1, hrs.2, by omega, by omega, bDrewN hbq _, Lib.hid ⟨HN2.out, HSt.out⟩⟩
                    · have q : ((uB k).toList == BW.toList) = false := by
                        rw [Lib.toList_data, Lib.toList_data, uB_data]
                        simpa using hw
                      have q' : ((uB k).toList != BW.toList) = true := by rw [bne, q]; rfl
                      have HJ2 : Hid (∀ j, next ≤ j → j < k + 1 → Wh.uWord j ≠ BW.data.toList) := Lib.hid (fun j h1 h2 => by
                        rcases Nat.lt_or_ge j k with h | h
                        · exact HJ.out j h1 h
                        · obtain rfl : j = k := by omega
                          exact hw)
                      clear hw HJ
                      go_wp2_with fail
                      go_quiet (fail)
                      go_wp2_with fail
                      go_roundg g3
                      case measure => omega
                      case rel => exact ⟨k + 1, by omega, by omega, by go_num, bDrewN hb3 _, HJ2⟩
                  · obtain rfl : k = 8 := by omega
                    have HKv : Hid (Wh.parseAg s.data.toList = (0, 9)) := Lib.hid (by
                      rw [HK.out, ← HQ.out.2, Wh.ageGo_miss HNe.out (Wh.findU_miss (fun j h1 h2 h3 => HJ.out j h1 h2 (by rw [h3, HBd.out, Hr.out])))]
                      rfl)
                    go_wp2_with fail
                    go_quiet (fail)
                    go_wp2_with fail
                    go_ret2
                    exact agePost_of HKv.out (bTrans hb1 (bTrans hbr (bDrewN hb3 _)))
end Go.Proofs.YtjfnkkpmmebnfaaDoor
