/-
  The texts Rr1, Rr2, in one.
-/
import Derived.Test.YtfenmeacimfiaaaGreatDoorGrA
namespace Go.Proofs.YtfenmeacimfiaaaGreatDoor
open Go.RowKit Wh.G

abbrev rfTy : TypeId := 208
/-- A reader of a glob's text: the text, the place. -/
def ReAt (w : World) (b : Nat) (T : ByteArray) (k : Nat) : Prop := BoxIs w b #[.string T, .int .i64 k] rfTy
theorem ReAt.drew {w : World} {b : Nat} {T : ByteArray} {k : Nat} (h : ReAt w b T k) (n : Nat) : ReAt (w.drewN n) b T k := h
theorem ReAt.step {w : World} {b : Nat} {T : ByteArray} {k : Nat} (h : ReAt w b T k) (j : Nat) : ReAt (w.setCell ⟨b, 1, none⟩ (.int .i64 j)) b T j := BoxIs.put h 1 _
abbrev rBadTy : TypeId := 204
/-- A reader fails at a place. -/
abbrev PanF (n : Int) : Ending := .panicked [{ v := .iface rBadTy (.agg #[.int .i64 n]), recovered := false }]
/-- Where a fault lies. -/
def posF (T : ByteArray) (r : List UInt8) : Int := ((T.size - r.length : Nat) : Int)
theorem posF_left {T : ByteArray} {k : Nat} (h : k ≤ T.size) : posF T (left T k T.size) = k := by
  unfold posF
  rw [left_len (Nat.le_refl _)]
  omega
/-- What a reader's function does, by what the plain reader says. -/
def RePost {α : Type} (b : Nat) (T : ByteArray) (w : World) (res : Wh.G.Rd α) (val : α → Value → World → Prop) (E : Ending) (w' : World) : Prop :=
  match res with
  | .ok a r => ∃ v k, E = .returned v ∧ val a v w' ∧ ReAt w' b T k ∧ k ≤ T.size ∧ left T k T.size = r ∧ Side b w w'
  | .bad r => E = PanF (posF T r) ∧ Side b w w'

theorem rfail_any (b : Nat) (n : Int) (w : World) : Calls Tryz.prog 163 #[.pointer (some ⟨b, 0, none⟩), .int .i64 n] w fun e w' => e = PanF n ∧ w' = w := by
  go_enter Tryz.func163, Tryz.ntmps163
  go_wp2_with fail
  exact ⟨rfl, rfl, rfl⟩

/-- The byte that is next, or -1. -/
def pk : List UInt8 → Int
  | [] => -1
  | c :: _ => c.toNat
theorem pk_byte (c : UInt8) (r : List UInt8) : pk (c :: r) = c.toNat := rfl
theorem drew_two (w : World) (n m : Nat) : ∃ k, (w.drewN n).drewN m = w.drewN k := ⟨n + m, by simp [World.drewN, Nat.add_assoc]⟩
set_option maxHeartbeats 1000000 in
set_option maxRecDepth 100000 in
theorem rpeek_any (b : Nat) (T : ByteArray) (k : Nat) (w : World) (h : ReAt w b T k) (hk : k ≤ T.size) (_hs : T.size ≤ 2000000) :
    Calls Tryz.prog 162 #[.pointer (some ⟨b, 0, none⟩)] w fun e' w' => e' = .returned (.int .i64 (pk (left T k T.size))) ∧ ∃ n, w' = w.drewN n := by
  have H := Lib.hid h
  clear h
  by_cases hlt : k < T.size
  · obtain ⟨c, hc⟩ : ∃ c : UInt8, T[k]'(by omega) = c := ⟨_, rfl⟩
    have HL : Hid (pk (left T k T.size) = c.toNat) := Lib.hid (by rw [left_cons hlt (Nat.le_refl _) c hc]; rfl)
    have hne : ((k : Int) == (T.size : Int)) = false := by
      have : ¬ (k : Int) = (T.size : Int) := by omega
      simpa using this
    have hk0 : (0 : Int) ≤ (k : Int) := by omega
    have hk1 : (k : Int) < (T.size : Int) := by omega
    have c0 := H.out.cell (j := 0) rfl
    have c1 := H.out.cell (j := 1) rfl
    go_enter Tryz.func162, Tryz.ntmps162
    go_upto_region 1 with fail
    go_quiet (fail)
    clear c0 c1
    have c0 := (H.out.drew nq).cell (j := 0) rfl
    have c1 := (H.out.drew nq).cell (j := 1) rfl
    generalize hw2 : w.drewN nq = w2 at *
    go_upto_region 3 with fail
    go_quiet (fail)
    go_wp2_with fail
    go_ret
    subst hw2
    refine ⟨?_, drew_two _ _ _⟩
    rw [HL.out]
    show Ending.returned (.int .i64 (wrap64 (c.toNat : Int))) = _
    rw [IntWalk.wrap64_in (c.toNat : Int) (by have := c.toNat_lt; omega)]
  · obtain rfl : k = T.size := by omega
    have HL : Hid (pk (left T T.size T.size) = -1) := Lib.hid (by rw [left_nil (Nat.le_refl _)]; rfl)
    have c0 := H.out.cell (j := 0) rfl
    have c1 := H.out.cell (j := 1) rfl
    have he : ((T.size : Int) == (T.size : Int)) = true := by simp
    go_enter Tryz.func162, Tryz.ntmps162
    go_upto_region 1 with fail
    go_quiet (fail)
    go_wp2_with fail
    go_ret
    exact ⟨by rw [HL.out]; rfl, nq, rfl⟩
theorem ReAt.peek {b : Nat} {T : ByteArray} {j : Nat} {W : World} (h : ReAt W b T j) (hj : j < T.size) (hs : T.size ≤ 2000000) {c : UInt8} (hc : T[j] = c) :
    Calls Tryz.prog 162 #[.pointer (some ⟨b, 0, none⟩)] W fun e' w' => e' = .returned (.int .i64 c.toNat) ∧ ∃ n, w' = W.drewN n := by
  have := rpeek_any b T j W h (by omega) hs
  rw [left_cons hj (Nat.le_refl _) c hc] at this
  exact this
theorem ReAt.peekE {b : Nat} {T : ByteArray} {j : Nat} {W : World} (h : ReAt W b T j) (hj : j = T.size) (hs : T.size ≤ 2000000) :
    Calls Tryz.prog 162 #[.pointer (some ⟨b, 0, none⟩)] W fun e' w' => e' = .returned (.int .i64 (-1)) ∧ ∃ n, w' = W.drewN n := by
  have := rpeek_any b T j W h (by omega) hs
  rw [left_nil (by omega)] at this
  exact this
theorem bnd_q {x : UInt8} {q : List UInt8} : bnd (92 :: x :: q) = if x = 0 ∨ x = 47 then .bad (x :: q) else .ok x q := rfl
theorem bnd_c {c : UInt8} {q : List UInt8} (h : c ≠ 92) : bnd (c :: q) = if c = 0 ∨ c = 93 ∨ c = 94 ∨ c = 45 ∨ c = 47 then .bad (c :: q) else .ok c q := if_neg h
theorem nat_le0 {x : UInt8} (h : x ≠ 0) : ¬ ((x.toNat : Int) ≤ 0) := by
  intro h2
  exact h (UInt8.toNat_inj.1 (by show x.toNat = 0; omega))

set_option maxHeartbeats 2000000 in
set_option maxRecDepth 100000 in
theorem rsetByte_any (b : Nat) (T : ByteArray) (k : Nat) (w : World) (h : ReAt w b T k) (hk : k ≤ T.size) (hs : T.size ≤ 2000000) :
    Calls Tryz.prog 201 #[.pointer (some ⟨b, 0, none⟩)] w (RePost b T w (bnd (left T k T.size)) (fun c v _ => v = .int .i64 c.toNat)) := by
  have H := Lib.hid h
  have HF := Lib.hid (fun n W => rfail_any b n W)
  clear h
  by_cases hlt : k < T.size
  · obtain ⟨c, hc⟩ : ∃ c : UInt8, T[k]'(by omega) = c := ⟨_, rfl⟩
    have hL := left_cons hlt (Nat.le_refl _) c hc
    rw [hL]
    have HL := Lib.hid hL
    clear hL
    have HP := Lib.hid (H.out.peek hlt hs hc)
    have HR1 := fun n => H.out.drew n
    have HR1 := Lib.hid HR1
    have e92 := u8_eq c 92
    have e93 := u8_eq c 93
    have e94 := u8_eq c 94
    have e45 := u8_eq c 45
    have e47 := u8_eq c 47
    change ((c.toNat : Int) == 92) = _ at e92
    change ((c.toNat : Int) == 93) = _ at e93
    change ((c.toNat : Int) == 94) = _ at e94
    change ((c.toNat : Int) == 45) = _ at e45
    change ((c.toNat : Int) == 47) = _ at e47
    go_enter Tryz.func201, Tryz.ntmps201
    go_upto_region 2 with (go_at_call 162; refine HP.out.mono ?_; rintro E w1 ⟨rfl, n1, rfl⟩)
    have HR := Lib.hid (HR1.out n1)
    have HS := Lib.hid ((Side.refl b w).drew n1)
    clear HR1 H HP
    generalize w.drewN n1 = w1 at *
    by_cases k92 : c = 92
    · have b92 : (c == 92) = true := by simpa using k92
      rw [b92] at e92
      have HN := Lib.hid k92
      clear e93 e94 e45 e47 b92 k92
      have x1 := HR.out.cell (j := 1) rfl
      have f1 := Lib.frozen_of_heap HR.out 1
      have HR2 : Hid (ReAt (w1.setCell ⟨b, 1, none⟩ (.int .i64 ((k : Int) + 1))) b T (k + 1)) := Lib.hid (HR.out.step (k + 1))
      have HS2 : Hid (Side b w (w1.setCell ⟨b, 1, none⟩ (.int .i64 ((k : Int) + 1)))) := Lib.hid (HS.out.set 1 _)
      go_upto_region 4 with fail
      clear x1 f1 HR HS
      generalize w1.setCell _ _ = w2 at *
      by_cases hlt2 : k + 1 < T.size
      · obtain ⟨x, hx⟩ : ∃ x : UInt8, T[k + 1]'(by omega) = x := ⟨_, rfl⟩
        have HP2 := Lib.hid (HR2.out.peek hlt2 hs hx)
        have HL2 := Lib.hid (left_cons hlt2 (Nat.le_refl _) x hx)
        have e47 := u8_eq x 47
        change ((x.toNat : Int) == 47) = _ at e47
        by_cases kx : x = 0 ∨ x = 47
        · have key : (x.toNat : Int) ≤ 0 ∨ (¬ (x.toNat : Int) ≤ 0 ∧ (x == 47) = true) := by
            rcases kx with rfl | rfl
            · exact .inl (by decide)
            · exact .inr ⟨by decide, rfl⟩
          have HK := Lib.hid kx
          clear kx
          rcases key with h0 | ⟨h0, h47⟩
          · go_upto_region 7 with (go_at_call 162; refine HP2.out.mono ?_; rintro E w3 ⟨rfl, n3, rfl⟩)
            have HR3 := Lib.hid (HR2.out.drew n3)
            have HS3 := Lib.hid (HS2.out.drew n3)
            clear HR2 HS2 HP2
            generalize w2.drewN n3 = w3 at *
            have x1 := HR3.out.cell (j := 1) rfl
            have HPo := Lib.hid (posF_left (T := T) (k := k + 1) (by omega))
            go_wp2_with (go_at_call 163; refine (HF.out _ _).mono ?_; rintro E w9 ⟨rfl, hw9⟩; subst w9)
            refine ⟨rfl, ?_⟩
            have hpo := HPo.out
            rw [HL2.out] at hpo ⊢
            rw [HN.out, bnd_q, if_pos HK.out]
            exact ⟨by rw [hpo]; rfl, HS3.out⟩
          · rw [h47] at e47
            go_upto_region 7 with (go_at_call 162; refine HP2.out.mono ?_; rintro E w3 ⟨rfl, n3, rfl⟩)
            have HR3 := Lib.hid (HR2.out.drew n3)
            have HS3 := Lib.hid (HS2.out.drew n3)
            clear HR2 HS2 HP2
            generalize w2.drewN n3 = w3 at *
            have x1 := HR3.out.cell (j := 1) rfl
            have HPo := Lib.hid (posF_left (T := T) (k := k + 1) (by omega))
            go_wp2_with (go_at_call 163; refine (HF.out _ _).mono ?_; rintro E w9 ⟨rfl, hw9⟩; subst w9)
            refine ⟨rfl, ?_⟩
            have hpo := HPo.out
            rw [HL2.out] at hpo ⊢
            rw [HN.out, bnd_q, if_pos HK.out]
            exact ⟨by rw [hpo]; rfl, HS3.out⟩
        · have h0 := nat_le0 (fun e => kx (.inl e))
          have h47 : (x == 47) = false := by simpa using fun e => kx (.inr e)
          rw [h47] at e47
          have HK := Lib.hid kx
          clear kx
          go_upto_region 7 with (go_at_call 162; refine HP2.out.mono ?_; rintro E w3 ⟨rfl, n3, rfl⟩)
          have HR3 := Lib.hid (HR2.out.drew n3)
          have HS3 := Lib.hid (HS2.out.drew n3)
          clear HR2 HS2 HP2
          generalize w2.drewN n3 = w3 at *
          have x1 := HR3.out.cell (j := 1) rfl
          have f1 := Lib.frozen_of_heap HR3.out 1
          have HR9 := Lib.hid (HR3.out.step (k + 1 + 1))
          have HS9 := Lib.hid (HS3.out.set 1 (.int .i64 ((k + 1 + 1 : Nat) : Int)))
          go_wp2_with fail
          go_ret
          rw [HL2.out, HN.out, bnd_q, if_neg HK.out]
          exact ⟨_, k + 1 + 1, rfl, rfl, HR9.out, hlt2, rfl, HS9.out⟩
      · have HP2 := Lib.hid (HR2.out.peekE (by omega) hs)
        go_upto_region 7 with (go_at_call 162; refine HP2.out.mono ?_; rintro E w3 ⟨rfl, n3, rfl⟩)
        have HR3 := Lib.hid (HR2.out.drew n3)
        have HS3 := Lib.hid (HS2.out.drew n3)
        clear HR2 HS2 HP2
        generalize w2.drewN n3 = w3 at *
        have x1 := HR3.out.cell (j := 1) rfl
        have HPo := Lib.hid (posF_left (T := T) (k := k + 1) (by omega))
        go_wp2_with (go_at_call 163; refine (HF.out _ _).mono ?_; rintro E w9 ⟨rfl, hw9⟩; subst w9)
        refine ⟨rfl, ?_⟩
        have hpo := HPo.out
        rw [left_nil (by omega)] at hpo ⊢
        rw [HN.out]
        exact ⟨by rw [hpo]; rfl, HS3.out⟩
    · have b92 : (c == 92) = false := by simpa using k92
      rw [b92] at e92
      have HN := Lib.hid k92
      clear b92 k92
      by_cases kc : c = 93 ∨ c = 94 ∨ c = 45
      · have key : (c == 93) = true ∨ ((c == 93) = false ∧ (c == 94) = true) ∨ ((c == 93) = false ∧ (c == 94) = false ∧ (c == 45) = true) := by
          rcases kc with rfl | rfl | rfl
          · exact .inl rfl
          · exact .inr (.inl ⟨rfl, rfl⟩)
          · exact .inr (.inr ⟨rfl, rfl, rfl⟩)
        have HK : Hid (c = 0 ∨ c = 93 ∨ c = 94 ∨ c = 45 ∨ c = 47) := Lib.hid (by rcases kc with h | h | h <;> simp [h])
        clear kc
        rcases key with h | ⟨h, h2⟩ | ⟨h, h2, h3⟩
        · rw [h] at e93
          have x1 := HR.out.cell (j := 1) rfl
          have HPo := Lib.hid (posF_left (T := T) (k := k) (by omega))
          go_wp2_with (go_at_call 163; refine (HF.out _ _).mono ?_; rintro E w9 ⟨rfl, hw9⟩; subst w9)
          refine ⟨rfl, ?_⟩
          have hpo := HPo.out
          rw [HL.out] at hpo
          rw [bnd_c HN.out, if_pos HK.out]
          exact ⟨by rw [hpo], HS.out⟩
        · rw [h] at e93
          rw [h2] at e94
          have x1 := HR.out.cell (j := 1) rfl
          have HPo := Lib.hid (posF_left (T := T) (k := k) (by omega))
          go_wp2_with (go_at_call 163; refine (HF.out _ _).mono ?_; rintro E w9 ⟨rfl, hw9⟩; subst w9)
          refine ⟨rfl, ?_⟩
          have hpo := HPo.out
          rw [HL.out] at hpo
          rw [bnd_c HN.out, if_pos HK.out]
          exact ⟨by rw [hpo], HS.out⟩
        · rw [h] at e93
          rw [h2] at e94
          rw [h3] at e45
          have x1 := HR.out.cell (j := 1) rfl
          have HPo := Lib.hid (posF_left (T := T) (k := k) (by omega))
          go_wp2_with (go_at_call 163; refine (HF.out _ _).mono ?_; rintro E w9 ⟨rfl, hw9⟩; subst w9)
          refine ⟨rfl, ?_⟩
          have hpo := HPo.out
          rw [HL.out] at hpo
          rw [bnd_c HN.out, if_pos HK.out]
          exact ⟨by rw [hpo], HS.out⟩
      · have h93 : (c == 93) = false := by simpa using fun e => kc (.inl e)
        have h94 : (c == 94) = false := by simpa using fun e => kc (.inr (.inl e))
        have h45 : (c == 45) = false := by simpa using fun e => kc (.inr (.inr e))
        rw [h93] at e93
        rw [h94] at e94
        rw [h45] at e45
        by_cases k0 : c = 0 ∨ c = 47
        · have HK : Hid (c = 0 ∨ c = 93 ∨ c = 94 ∨ c = 45 ∨ c = 47) := Lib.hid (by rcases k0 with h | h <;> simp [h])
          have key : (c.toNat : Int) ≤ 0 ∨ (¬ (c.toNat : Int) ≤ 0 ∧ (c == 47) = true) := by
            rcases k0 with rfl | rfl
            · exact .inl (by decide)
            · exact .inr ⟨by decide, rfl⟩
          clear kc k0
          rcases key with h0 | ⟨h0, h47⟩
          · skip
            have x1 := HR.out.cell (j := 1) rfl
            have HPo := Lib.hid (posF_left (T := T) (k := k) (by omega))
            go_wp2_with (go_at_call 163; refine (HF.out _ _).mono ?_; rintro E w9 ⟨rfl, hw9⟩; subst w9)
            refine ⟨rfl, ?_⟩
            have hpo := HPo.out
            rw [HL.out] at hpo
            rw [bnd_c HN.out, if_pos HK.out]
            exact ⟨by rw [hpo], HS.out⟩
          · rw [h47] at e47
            have x1 := HR.out.cell (j := 1) rfl
            have HPo := Lib.hid (posF_left (T := T) (k := k) (by omega))
            go_wp2_with (go_at_call 163; refine (HF.out _ _).mono ?_; rintro E w9 ⟨rfl, hw9⟩; subst w9)
            refine ⟨rfl, ?_⟩
            have hpo := HPo.out
            rw [HL.out] at hpo
            rw [bnd_c HN.out, if_pos HK.out]
            exact ⟨by rw [hpo], HS.out⟩
        · have HK : Hid (¬ (c = 0 ∨ c = 93 ∨ c = 94 ∨ c = 45 ∨ c = 47)) := Lib.hid (by
            rintro (h | h | h | h | h)
            · exact k0 (.inl h)
            · exact kc (.inl h)
            · exact kc (.inr (.inl h))
            · exact kc (.inr (.inr h))
            · exact k0 (.inr h))
          have h0 := nat_le0 (fun e => k0 (.inl e))
          have h47 : (c == 47) = false := by simpa using fun e => k0 (.inr e)
          rw [h47] at e47
          clear kc k0
          have x1 := HR.out.cell (j := 1) rfl
          have f1 := Lib.frozen_of_heap HR.out 1
          have HR9 := Lib.hid (HR.out.step (k + 1))
          have HS9 := Lib.hid (HS.out.set 1 (.int .i64 ((k + 1 : Nat) : Int)))
          go_wp2_with fail
          go_ret
          rw [bnd_c HN.out, if_neg HK.out]
          exact ⟨_, k + 1, rfl, rfl, HR9.out, hlt, rfl, HS9.out⟩
  · have HP := Lib.hid (H.out.peekE (by omega) hs)
    have HL := Lib.hid (left_nil (T := T) (k := k) (e := T.size) (by omega))
    have HR1 := Lib.hid (fun n => H.out.drew n)
    go_enter Tryz.func201, Tryz.ntmps201
    go_upto_region 7 with (go_at_call 162; refine HP.out.mono ?_; rintro E w1 ⟨rfl, n1, rfl⟩)
    have HR := Lib.hid (HR1.out n1)
    have HS := Lib.hid ((Side.refl b w).drew n1)
    clear HR1 H HP
    generalize w.drewN n1 = w1 at *
    have x1 := HR.out.cell (j := 1) rfl
    have HPo := Lib.hid (posF_left (T := T) (k := k) (by omega))
    go_wp2_with (go_at_call 163; refine (HF.out _ _).mono ?_; rintro E w9 ⟨rfl, hw9⟩; subst w9)
    refine ⟨rfl, ?_⟩
    have hpo := HPo.out
    rw [HL.out] at hpo ⊢
    exact ⟨by rw [hpo], HS.out⟩
end Go.Proofs.YtfenmeacimfiaaaGreatDoor
namespace Go.Proofs.YtfenmeacimfiaaaGreatDoor
open Go.RowKit Wh.G

set_option maxHeartbeats 2000000 in
set_option maxRecDepth 100000 in
theorem rstars_any (b : Nat) (T : ByteArray) (k : Nat) (w : World) (h : ReAt w b T k) (hk : k ≤ T.size) (hs : T.size ≤ 2000000) :
    Calls Tryz.prog 164 #[.pointer (some ⟨b, 0, none⟩)] w (RePost b T w (goS 0 (left T k T.size)) (fun kd v _ => v = pKind kd)) := by
  have H := Lib.hid h
  have HF := Lib.hid (fun n W => rfail_any b n W)
  have hbl := h.lt
  have HB0 := Lib.hid (bAlloc (Below.refl w.heap.size w) (.cells pZero party))
  have HZ := Lib.hid (BoxIs.new w pZero party)
  clear h
  go_enter Tryz.func164, Tryz.ntmps164
  go_upto_region 1 with fail
  generalize w.alloc _ = w1 at *
  have HR1 : Hid (ReAt w1 b T k) := Lib.hid (BoxIs.under H.out HB0.out)
  have HS1 : Hid (Side b w w1) := Lib.hid (Side.of HB0.out)
  obtain ⟨rb, hrb0⟩ : ∃ rb, rb = w.heap.size := ⟨_, rfl⟩
  rw [← hrb0]
  rw [← hrb0] at HZ
  have hrb : b ≠ rb := by omega
  have hrz : w.heap.size ≤ rb := by omega
  clear hrb0 H HB0
  go_wp2_with fail
  go_loopg [3] (T.size + 1 - k) (fun g s3 wx => ∃ (n j : Nat), j + g = T.size + 1 ∧ s3 = .int .i64 n ∧ n ≤ 2 ∧ j ≤ T.size ∧ Hid (ReAt wx b T j) ∧ Hid (Side b w wx) ∧ Hid (BoxIs wx rb pZero party) ∧ Hid (goS n (left T j T.size) = goS 0 (left T k T.size)))
  case atStart => exact ⟨0, k, by omega, rfl, by decide, hk, HR1, HS1, HZ, Lib.hid rfl⟩
  case round =>
    obtain ⟨n, j, hg, rfl, hn, hj, HRj, HSj, HZr, HGo⟩ := hrel
    clear HR1 HS1 HZ
    by_cases hcont : ∃ h : j < T.size, T[j]'h = 42
    · obtain ⟨hlt, hc⟩ := hcont
      have HL := Lib.hid (left_cons hlt (Nat.le_refl _) 42 hc)
      have HP := Lib.hid (posF_left (T := T) (k := j) hj)
      have HM := Lib.hid (HRj.out.peek hlt hs hc)
      have e42 : (((42 : UInt8).toNat : Int) == 42) = true := by decide
      obtain ⟨cv, hcv⟩ : ∃ cv : Int, cv = ((42 : UInt8).toNat : Int) := ⟨_, rfl⟩
      rw [← hcv] at HM e42
      clear hcv hc
      by_cases hn2 : n = 2
      · subst hn2
        go_upto_region 4 with (go_at_call 162; refine HM.out.mono ?_; rintro E w2 ⟨rfl, n2, rfl⟩)
        have HR2 := Lib.hid (HRj.out.drew n2)
        have HS2 := Lib.hid (HSj.out.drew n2)
        clear HRj HSj HM HZr
        generalize wr.drewN n2 = w2 at *
        have x1 := HR2.out.cell (j := 1) rfl
        go_wp2_with (go_at_call 163; refine (HF.out _ _).mono ?_; rintro E w3 ⟨rfl, hw3⟩; subst w3)
        refine ⟨rfl, ?_⟩
        have hp := HP.out
        rw [← HGo.out]
        rw [HL.out] at hp ⊢
        simp only [goS]
        rw [if_pos trivial, if_pos trivial]
        exact ⟨by rw [hp], HS2.out⟩
      · have hn2' : ((n : Int) == 2) = false := by
          have : ¬ (n : Int) = 2 := by omega
          simpa using this
        have HGo3 : Hid (goS (n + 1) (left T (j + 1) T.size) = goS 0 (left T k T.size)) := Lib.hid ((goS_one HL.out rfl hn2).symm.trans HGo.out)
        obtain ⟨g, rfl⟩ : ∃ g, gk = g + 1 := ⟨gk - 1, by omega⟩
        go_upto_region 5 with (go_at_call 162; refine HM.out.mono ?_; rintro E w2 ⟨rfl, n2, rfl⟩)
        have HR2 := Lib.hid (HRj.out.drew n2)
        have HS2 := Lib.hid (HSj.out.drew n2)
        have HZ2 : Hid (BoxIs (wr.drewN n2) rb pZero party) := Lib.hid HZr.out
        clear HRj HSj HM HZr
        generalize wr.drewN n2 = w2 at *
        have x1 := HR2.out.cell (j := 1) rfl
        have f1 := Lib.frozen_of_heap HR2.out 1
        have HR3 := Lib.hid (HR2.out.step (j + 1))
        have HS3 := Lib.hid (HS2.out.set 1 (.int .i64 ((j + 1 : Nat) : Int)))
        have HZ3 := Lib.hid (BoxIs.side HZ2.out ((Side.refl b w2).set 1 (.int .i64 ((j + 1 : Nat) : Int))) (fun e => hrb e.symm))
        go_wp2_with fail
        go_roundg g
        case measure => omega
        case rel => exact ⟨n + 1, j + 1, by omega, by go_num, by omega, by omega, HR3, HS3, HZ3, HGo3⟩
    · have HEnd := Lib.hid (goS_end (n := n) (l := left T j T.size) (fun c' r' h => by
        by_cases hlt : j < T.size
        · rw [left_cons hlt (Nat.le_refl _) _ rfl] at h
          injection h with h _
          exact fun e => hcont ⟨hlt, h.trans e⟩
        · rw [left_nil (by omega)] at h
          cases h))
      have HM : Hid (∃ v : Int, (v == 42) = false ∧ Calls Tryz.prog 162 #[.pointer (some ⟨b, 0, none⟩)] wr fun e' w' => e' = .returned (.int .i64 v) ∧ ∃ n, w' = wr.drewN n) := Lib.hid (by
        by_cases hlt : j < T.size
        · refine ⟨_, ?_, HRj.out.peek hlt hs rfl⟩
          have h42 : T[j] ≠ 42 := fun e => hcont ⟨hlt, e⟩
          have := u8_eq T[j] 42
          change (((T[j] : UInt8).toNat : Int) == 42) = _ at this
          rw [this]
          simpa using h42
        · exact ⟨-1, by decide, HRj.out.peekE (by omega) hs⟩)
      clear hcont
      obtain ⟨v, hv, hM⟩ := HM.out
      have HM2 := Lib.hid hM
      clear HM hM
      go_upto_region 7 with (go_at_call 162; refine HM2.out.mono ?_; rintro E w2 ⟨rfl, n2, rfl⟩)
      have HR2 := Lib.hid (HRj.out.drew n2)
      have HS2 := Lib.hid (HSj.out.drew n2)
      have HZ2 : Hid (BoxIs (wr.drewN n2) rb pZero party) := Lib.hid HZr.out
      clear HRj HSj HM2 HZr
      generalize wr.drewN n2 = w2 at *
      by_cases hn2 : n = 2
      · subst hn2
        have d0 := HZ2.out.cell (j := 0) rfl
        have d1 := HZ2.out.cell (j := 1) rfl
        have d2 := HZ2.out.cell (j := 2) rfl
        have d3 := HZ2.out.cell (j := 3) rfl
        have d4 := HZ2.out.cell (j := 4) rfl
        have g0 := Lib.frozen_of_heap HZ2.out 0
        have g1 := Lib.frozen_of_heap HZ2.out 1
        have g2 := Lib.frozen_of_heap HZ2.out 2
        have g3 := Lib.frozen_of_heap HZ2.out 3
        have g4 := Lib.frozen_of_heap HZ2.out 4
        have HFn := Lib.hid (part_put HZ2.out (.int .i64 4) (.string ⟨#[]⟩) (.bool false) (.slice none 0 0) (.slice none 0 0))
        go_wp2_with fail
        clear d0 d1 d2 d3 d4 g0 g1 g2 g3 g4
        generalize ((((World.setCell _ _ _).setCell _ _).setCell _ _).setCell _ _).setCell _ _ = wf at *
        have d0 := HFn.out.1.cell (j := 0) rfl
        have d1 := HFn.out.1.cell (j := 1) rfl
        have d2 := HFn.out.1.cell (j := 2) rfl
        have d3 := HFn.out.1.cell (j := 3) rfl
        have d4 := HFn.out.1.cell (j := 4) rfl
        refine bodyPost_ret (v := pKind 4) ?_ rfl ?_
        · simp [results, Tryz.f164]
          go_simp
        · rw [← HGo.out, HEnd.out]
          exact ⟨_, j, rfl, rfl, BoxIs.side HR2.out HFn.out.2 hrb, hj, rfl, HS2.out.new HFn.out.2 hrz⟩
      · have hn2' : ((n : Int) == 2) = false := by
          have : ¬ (n : Int) = 2 := by omega
          simpa using this
        rw [if_neg hn2] at HEnd
        have d0 := HZ2.out.cell (j := 0) rfl
        have d1 := HZ2.out.cell (j := 1) rfl
        have d2 := HZ2.out.cell (j := 2) rfl
        have d3 := HZ2.out.cell (j := 3) rfl
        have d4 := HZ2.out.cell (j := 4) rfl
        have g0 := Lib.frozen_of_heap HZ2.out 0
        have g1 := Lib.frozen_of_heap HZ2.out 1
        have g2 := Lib.frozen_of_heap HZ2.out 2
        have g3 := Lib.frozen_of_heap HZ2.out 3
        have g4 := Lib.frozen_of_heap HZ2.out 4
        have HFn := Lib.hid (part_put HZ2.out (.int .i64 3) (.string ⟨#[]⟩) (.bool false) (.slice none 0 0) (.slice none 0 0))
        go_wp2_with fail
        clear d0 d1 d2 d3 d4 g0 g1 g2 g3 g4
        generalize ((((World.setCell _ _ _).setCell _ _).setCell _ _).setCell _ _).setCell _ _ = wf at *
        have d0 := HFn.out.1.cell (j := 0) rfl
        have d1 := HFn.out.1.cell (j := 1) rfl
        have d2 := HFn.out.1.cell (j := 2) rfl
        have d3 := HFn.out.1.cell (j := 3) rfl
        have d4 := HFn.out.1.cell (j := 4) rfl
        refine bodyPost_ret (v := pKind 3) ?_ rfl ?_
        · simp [results, Tryz.f164]
          go_simp
        · rw [← HGo.out, HEnd.out]
          exact ⟨_, j, rfl, rfl, BoxIs.side HR2.out HFn.out.2 hrb, hj, rfl, HS2.out.new HFn.out.2 hrz⟩
end Go.Proofs.YtfenmeacimfiaaaGreatDoor
