/-
  slices.ContainsFunc of ways; wherryref1.starsTogether.
-/
import Derived.Test.YtnpcbcnclncniaaGreatDoorGlob9
namespace Go.Proofs.YtnpcbcnclncniaaGreatDoor
open Go.RowKit

/-- The place of the first element that a predicate takes. -/
def idxOf {α : Type} (p : α → Bool) (xs : List α) : Int := match xs.findIdx? p with
  | some i => i
  | none => -1
theorem idxOf_pos {α : Type} (p : α → Bool) (xs : List α) : decide (0 ≤ idxOf p xs) = xs.any p := by
  unfold idxOf
  cases h : xs.findIdx? p with
  | none =>
    rw [List.findIdx?_eq_none_iff] at h
    have : xs.any p = false := by rw [List.any_eq_false]; intro x hx; simp [h x hx]
    simp [this]
  | some i =>
    obtain ⟨hi, hp, _⟩ := List.findIdx?_eq_some_iff_getElem.1 h
    have : xs.any p = true := List.any_eq_true.2 ⟨xs[i], List.getElem_mem hi, hp⟩
    simp [this]
theorem idxOf_at {α : Type} {p : α → Bool} {xs : List α} {k : Nat} {x : α} (hx : xs[k]? = some x) (hp : p x = true) (hn : ∀ (j : Nat) y, j < k → xs[j]? = some y → p y = false) : idxOf p xs = k := by
  have hlt := (List.getElem?_eq_some_iff.1 hx).1
  have : xs.findIdx? p = some k := by
    rw [List.findIdx?_eq_some_iff_getElem]
    refine ⟨hlt, ?_, fun j hj => ?_⟩
    · rw [(List.getElem?_eq_some_iff.1 hx).2]
      exact hp
    · have := hn j (xs[j]'(by omega)) hj (List.getElem?_eq_getElem _)
      simp [this]
  simp [idxOf, this]
theorem idxOf_none {α : Type} {p : α → Bool} {xs : List α} (hn : ∀ (j : Nat) y, j < xs.length → xs[j]? = some y → p y = false) : idxOf p xs = -1 := by
  have : xs.findIdx? p = none := by
    rw [List.findIdx?_eq_none_iff]
    intro x hx
    obtain ⟨j, hj⟩ := List.getElem?_of_mem hx
    exact hn j x (List.getElem?_eq_some_iff.1 hj).1 hj
  simp [idxOf, this]

/-- A function value that answers a predicate, in every later world. -/
def PredOf {α : Type} (val : α → Value) (F : FuncId) (p : α → Bool) (xs : List α) (w : World) : Prop :=
  ∀ x ∈ xs, ∀ W, Below w.heap.size w W → Calls Tryz.prog F #[val x] W fun e w' => e = .returned (.bool (p x)) ∧ Below W.heap.size W w'

set_option maxHeartbeats 1000000 in
theorem indexFunc_ways {α : Type} (F : FuncId) (p : Sl α → Bool) (s : Sl (Sl α)) (w : World) (hen : ∀ args w, (callFunc F args).run Tryz.prog w = .ok (.enter F args) w)
    (hl : s.xs.length ≤ 9223372036854775807) (hH : SlHolds w 1 (fun s : Sl α => [s.val]) s) (hp : PredOf Sl.val F p s.xs w) :
    Calls Tryz.prog 91 #[.slice s.a s.xs.length s.c, .func (.func F) #[] #[]] w fun e w' => e = .returned (.int .i64 (idxOf p s.xs)) ∧ Below w.heap.size w w' := by
  have HH := Lib.hid hH
  have HP := Lib.hid hp
  clear hH hp
  obtain ⟨a, c, xs⟩ := s
  simp only [] at *
  go_enter Tryz.func91, Tryz.ntmps91
  go_wp2_with fail
  go_loopg [8] xs.length (fun g i wx => ∃ k : Nat, k + g = xs.length ∧ i = .int .i64 k ∧ Below w.heap.size w wx ∧ Hid (∀ (j : Nat) x, j < k → xs[j]? = some x → p x = false))
  case atStart => exact ⟨0, by omega, rfl, Below.refl _ _, Lib.hid (fun j x h => absurd h (Nat.not_lt_zero _))⟩
  case round =>
    obtain ⟨k, hk, rfl, hb, HN⟩ := hrel
    by_cases hlt : k < xs.length
    · obtain ⟨g, rfl⟩ : ∃ g, gk = g + 1 := ⟨gk - 1, by omega⟩
      obtain ⟨x, hx⟩ : ∃ x, xs[k]? = some x := ⟨_, List.getElem?_eq_getElem hlt⟩
      obtain ⟨ba, off, ha, hba, hca⟩ := wayRow (HH.out.under hb) hx
      have Hx := Lib.hid hx
      clear hx
      subst ha
      have HC := Lib.hid (HP.out x (List.mem_of_getElem? Hx.out) wr hb)
      cases hpx : p x
      · rw [hpx] at HC
        go_wp2_with fail
        refine HC.out.mono ?_
        rintro e w' ⟨rfl, hb2⟩
        go_wp2_with fail
        go_roundg g
        case measure => omega
        case rel =>
          refine ⟨k + 1, by omega, by go_num, bTrans hb hb2, Lib.hid (fun j y hj hy => ?_)⟩
          rcases Nat.lt_or_ge j k with h | h
          · exact HN.out j y h hy
          · obtain rfl : j = k := by omega
            rw [Hx.out] at hy
            cases hy
            exact hpx
      · rw [hpx] at HC
        have HI := Lib.hid (idxOf_at Hx.out hpx HN.out)
        clear hpx
        go_wp2_with fail
        refine HC.out.mono ?_
        rintro e w' ⟨rfl, hb2⟩
        go_wp2_with fail
        go_ret
        exact ⟨ret_int HI.out.symm, bTrans hb hb2⟩
    · obtain rfl : k = xs.length := by omega
      have HI := Lib.hid (idxOf_none HN.out)
      go_wp2_with fail
      go_ret
      exact ⟨ret_int HI.out.symm, hb⟩

set_option maxHeartbeats 1000000 in
theorem containsFunc_ways {α : Type} (F : FuncId) (p : Sl α → Bool) (s : Sl (Sl α)) (w : World) (hen : ∀ args w, (callFunc F args).run Tryz.prog w = .ok (.enter F args) w)
    (hl : s.xs.length ≤ 9223372036854775807) (hH : SlHolds w 1 (fun s : Sl α => [s.val]) s) (hp : PredOf Sl.val F p s.xs w) :
    Calls Tryz.prog 57 #[.slice s.a s.xs.length s.c, .func (.func F) #[] #[]] w fun e w' => e = .returned (.bool (s.xs.any p)) ∧ Below w.heap.size w w' := by
  have H := Lib.hid (indexFunc_ways F p s w hen hl hH hp)
  have HI := Lib.hid (idxOf_pos p s.xs)
  clear hH hp
  generalize s.xs.any p = R at *
  generalize idxOf p s.xs = J at *
  obtain ⟨a, c, xs⟩ := s
  simp only [] at *
  go_enter Tryz.func57, Tryz.ntmps57
  go_wp2_with (go_at_call 91; refine H.out.mono ?_; rintro e w' ⟨rfl, hb⟩)
  go_ret
  exact ⟨ret_bool HI.out, hb⟩

set_option maxHeartbeats 1000000 in
theorem refStar_any {α : Type} (q : PartOf α) (w : World) : Calls Tryz.prog 56 #[partVal q] w fun e w' => e = .returned (.bool (isStar q.kind)) ∧ Below w.heap.size w w' := by
  have HK : Hid (isStar q.kind = (q.kind == 3 || q.kind == 4)) := Lib.hid rfl
  generalize isStar q.kind = R at *
  cases c3 : (q.kind == 3)
  · cases c4 : (q.kind == 4)
    all_goals
      have HR : Hid (R = _) := Lib.hid (HK.out.trans (by rw [c3, c4]))
      clear HK
      go_enter Tryz.func56, Tryz.ntmps56
      go_wp2_with fail
      go_ret
      exact ⟨ret_bool HR.out.symm, bAlloc (Below.refl _ _) _⟩
  · have HR : Hid (R = true) := Lib.hid (HK.out.trans (by rw [c3]; rfl))
    clear HK
    go_enter Tryz.func56, Tryz.ntmps56
    go_wp2_with fail
    go_ret
    exact ⟨ret_bool HR.out.symm, bAlloc (Below.refl _ _) _⟩
theorem enters_together : ∀ args w, (callFunc 21 args).run Tryz.prog w = .ok (.enter 21 args) w := enters_of Tryz.func21 (by kernel_rfl) rfl

set_option maxHeartbeats 4000000 in
set_option maxRecDepth 100000 in
theorem starsTogether_any : ∀ (n : Nat) (s : Sl (P n)) (w : World), SOk w n s → szL n s.xs ≤ 1048576 →
    Calls Tryz.prog 21 #[.slice s.a s.xs.length s.c] w fun e w' => e = .returned (.bool (meet n s.xs)) ∧ Below w.heap.size w w' := by
  intro n
  induction n with
  | zero =>
    intro s w hs _
    obtain ⟨a, c, xs⟩ := s
    cases xs with
    | cons x _ => exact nomatch x
    | nil =>
      go_enter Tryz.func21, Tryz.ntmps21
      go_wp2_with fail
      refine wp_loop_rounds 1 ?_
      rw [rounds_succ]
      go_wp2_with fail
      go_ret
      exact ⟨rfl, Below.refl _ _⟩
  | succ n ih =>
    rintro ⟨sa, sc, xs⟩ w hs hz
    have hlen : xs.length ≤ 1048576 := Nat.le_trans (len_le_sz (n + 1) xs) hz
    simp only [] at hz
    have HS := Lib.hid hs
    have HIH := Lib.hid ih
    obtain ⟨E, hE⟩ : ∃ E, meet (n + 1) xs = E := ⟨_, rfl⟩
    have HE : Hid (E = meetGo n (fun s => meet n s.xs) (kdL (n + 1) xs) 0 (xs.drop 0)) := Lib.hid hE.symm
    rw [hE]
    clear hs ih hE
    go_enter Tryz.func21, Tryz.ntmps21
    go_wp2_with fail
    go_loopg [8] xs.length (fun g i wx => ∃ k : Nat, k + g = xs.length ∧ i = .int .i64 k ∧ Below w.heap.size w wx ∧ Hid (E = meetGo n (fun s => meet n s.xs) (kdL (n + 1) xs) k (xs.drop k)))
    case atStart => exact ⟨0, by omega, rfl, Below.refl _ _, HE⟩
    case round =>
      clear HE
      obtain ⟨k, hk, rfl, hb, HE⟩ := hrel
      by_cases hlt : k < xs.length
      · obtain ⟨g, rfl⟩ : ∃ g, gk = g + 1 := ⟨gk - 1, by omega⟩
        obtain ⟨p, hx⟩ : ∃ p : P (n + 1), xs[k]? = some p := ⟨_, List.getElem?_eq_getElem hlt⟩
        obtain ⟨ba, off, ha, hba, r0, r1, r2, r3, r4⟩ := partRow (p := pt n p) ((HS.out.under hb).1) hx
        have HPo : Hid (POk w (n + 1) p) := Lib.hid (HS.out.2 p (List.mem_of_getElem? hx))
        rw [meetGo_step hx] at HE
        have hsp : sz (n + 1) p ≤ 1048576 := Nat.le_trans (le_sum (List.mem_map.2 ⟨p, List.mem_of_getElem? hx, rfl⟩)) hz
        have hszp : sz (n + 1) p = 1 + (pt n p).text.size + (pt n p).rg.xs.length + ((pt n p).ways.xs.map (fun s => 1 + szL n s.xs)).sum := rfl
        have hws : ((pt n p).ways.xs.map (fun s => 1 + szL n s.xs)).sum ≤ 1048576 := by omega
        have hwl : (pt n p).ways.xs.length ≤ 1048576 := by
          have := sum_mono (xs := (pt n p).ways.xs) (f := fun _ => 1) (g := fun s => 1 + szL n s.xs) (fun s _ => by omega)
          rw [sum_ones1] at this
          omega
        have HPo2 : Hid (SlHolds w 1 (fun s : Sl (P n) => [s.val]) (pt n p).ways ∧ ∀ s ∈ (pt n p).ways.xs, SOk w n s) := Lib.hid ⟨HPo.out.2.2.2.1, HPo.out.2.2.2.2⟩
        clear HPo hx hsp hszp
        generalize pt n p = q at *
        have HCF := Lib.hid (fun W (hbW : Below w.heap.size w W) => containsFunc_ways 21 (fun s => meet n s.xs) q.ways W enters_together (by omega) (HPo2.out.1.under hbW) (fun t ht W2 hb2 => HIH.out t W2 ((HPo2.out.2 t ht).under (bTrans hbW hb2)) (by
          have := le_sum (List.mem_map.2 ⟨t, ht, rfl⟩ : (1 + szL n t.xs) ∈ q.ways.xs.map (fun s => 1 + szL n s.xs))
          omega)))
        have HBx := Lib.hid (partBox_new wr q 92)
        have hbx : Below wr.heap.size wr (wr.alloc (.cells #[.int .i64 q.kind, .string q.text, .bool q.neg, .slice q.rg.a q.rg.xs.length q.rg.c, .slice q.ways.a q.ways.xs.length q.ways.c] 92)) := bAlloc (Below.refl _ _) _
        simp only [] at ha
        subst ha
        generalize q.ways.xs.any (fun s => meet n s.xs) = AN at *
        go_upto_region 5 with fail
        generalize wr.alloc _ = w3 at *
        clear r0 r1 r2 r3 r4
        have hb3 := bTrans hb hbx
        obtain ⟨p0, p1, p2, p3, p4, p5⟩ := HBx.out
        generalize hM : (decide (0 < k) && isStar q.kind && starAt (kdL (n + 1) xs) ((k : Int) - 1)) = tm at *
        go_cut [33] (fun s33 wx => s33 = .bool (tm || AN) ∧ Below w3.heap.size w3 wx)
        case first =>
          have HSt := Lib.hid (fun W => refStar_any q W)
          have HM := Lib.hid hM
          clear hM HE
          by_cases k0 : k = 0
          · subst k0
            go_wp2_with fail
            refine (HCF.out _ hb3).mono ?_
            rintro e w4 ⟨rfl, hb4⟩
            go_wp2_with fail
            go_meet
            exact ⟨by rw [← HM.out]; rfl, hb4⟩
          · obtain ⟨k', hk'⟩ : ∃ k', k = k' + 1 := ⟨k - 1, by omega⟩
            obtain ⟨r, hr⟩ : ∃ r : P (n + 1), xs[k']? = some r := ⟨_, List.getElem?_eq_getElem (by omega)⟩
            have HRow := Lib.hid (fun W (hbW : Below w3.heap.size w3 W) => partRow (p := pt n r) ((HS.out.under (bTrans hb3 hbW)).1) hr)
            have hki : (k : Int) - 1 = (k' : Int) := by omega
            have hk0 : 0 < k := by omega
            have hk'l : k' < xs.length := by omega
            have HMM : Hid (tm = (isStar q.kind && isStar (pt n r).kind)) := Lib.hid (by
              rw [← HM.out, hki, decide_eq_true hk0, Bool.true_and]
              congr 1
              unfold starAt kdL
              rw [Int.toNat_natCast, List.getElem?_map, hr]
              simp
              rfl)
            generalize pt n r = q2 at *
            have HSt2 := Lib.hid (fun W => refStar_any q2 W)
            generalize isStar q.kind = a1 at *
            generalize isStar q2.kind = a2 at *
            clear HM hr hk' k0
            cases a1
            · go_wp2_with fail
              refine (HSt.out _).mono ?_
              rintro e w4 ⟨rfl, hb4⟩
              obtain ⟨p0, p1, p2, p3, p4, p5⟩ := HBx.out.under hb4
              go_wp2_with fail
              refine (HCF.out _ (bTrans hb3 hb4)).mono ?_
              rintro e w5 ⟨rfl, hb5⟩
              go_wp2_with fail
              go_meet
              exact ⟨by rw [HMM.out]; rfl, bTrans hb4 hb5⟩
            · go_wp2_with fail
              refine (HSt.out _).mono ?_
              rintro e w4 ⟨rfl, hb4⟩
              obtain ⟨ba', off', ha', hba', r0, r1, r2, r3, r4⟩ := HRow.out w4 hb4
              cases ha'
              cases a2
              · go_wp2_with fail
                refine (HSt2.out _).mono ?_
                rintro e w5 ⟨rfl, hb5⟩
                obtain ⟨p0, p1, p2, p3, p4, p5⟩ := HBx.out.under (bTrans hb4 hb5)
                go_wp2_with fail
                refine (HCF.out _ (bTrans hb3 (bTrans hb4 hb5))).mono ?_
                rintro e w6 ⟨rfl, hb6⟩
                go_wp2_with fail
                go_meet
                exact ⟨by rw [HMM.out]; rfl, bTrans (bTrans hb4 hb5) hb6⟩
              · go_wp2_with fail
                refine (HSt2.out _).mono ?_
                rintro e w5 ⟨rfl, hb5⟩
                go_wp2_with fail
                go_meet
                exact ⟨by rw [HMM.out]; rfl, bTrans hb4 hb5⟩
        case rest =>
          obtain ⟨rfl, hb4⟩ := hcut
          cases hX : (tm || AN)
          case true =>
            have HT : Hid (E = true) := Lib.hid (by rw [HE.out, hX]; rfl)
            go_wp2_with fail
            go_ret
            exact ⟨ret_bool HT.out.symm, bTrans hb3 hb4⟩
          have HG : Hid (E = meetGo n (fun s => meet n s.xs) (kdL (n + 1) xs) (k + 1) (xs.drop (k + 1))) := Lib.hid (by rw [HE.out, hX]; rfl)
          clear hX
          go_wp2_with fail
          go_roundg g
          case measure => omega
          case rel => exact ⟨k + 1, by omega, by go_num, bTrans hb3 hb4, HG⟩
      · have HG2 : Hid (E = false) := Lib.hid (by rw [HE.out, List.drop_of_length_le (by omega)]; rfl)
        go_wp2_with fail
        go_ret
        exact ⟨ret_bool HG2.out.symm, hb⟩
end Go.Proofs.YtnpcbcnclncniaaGreatDoor
