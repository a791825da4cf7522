/-
  The texts Gr1, Gr2, Gr3, in one.
-/
import Derived.Test.YtfenmeacimfiaaaGreatDoorSeqA
import Derived.Test.YtfenmeacimfiaaaGreatDoorGp4
import Derived.BigQuiet
namespace Go.Proofs.YtfenmeacimfiaaaGreatDoor
open Go.RowKit

/-- All blocks but one are as they were. -/
structure Side (b : Nat) (w w' : World) : Prop where
  os : w'.os = w.os
  tape : w'.tape = w.tape
  output : w'.output = w.output
  size : w.heap.size ≤ w'.heap.size
  block : ∀ k, k < w.heap.size → k ≠ b → w'.heap[k]? = w.heap[k]?
theorem Side.refl (b : Nat) (w : World) : Side b w w := ⟨rfl, rfl, rfl, Nat.le_refl _, fun _ _ _ => rfl⟩
theorem Side.trans {b : Nat} {u v w : World} (h : Side b u v) (k : Side b v w) : Side b u w :=
  ⟨k.os.trans h.os, k.tape.trans h.tape, k.output.trans h.output, Nat.le_trans h.size k.size, fun i hi hb => (k.block i (Nat.lt_of_lt_of_le hi h.size) hb).trans (h.block i hi hb)⟩
theorem Side.of {b : Nat} {w w' : World} (h : Below w.heap.size w w') : Side b w w' := ⟨h.os, h.tape, h.output, h.size, fun k hk _ => h.block k hk⟩
theorem Side.set {b : Nat} {w w' : World} (h : Side b w w') (i : Nat) (v : Value) : Side b w (w'.setCell ⟨b, i, none⟩ v) :=
  ⟨h.os, h.tape, h.output, by simp [World.setCell]; exact h.size, fun k hk hb => (Below.heap_setCell _ _ _ _ hb).trans (h.block k hk hb)⟩
theorem Side.drew {b : Nat} {w w' : World} (h : Side b w w') (n : Nat) : Side b w (w'.drewN n) := ⟨h.os, h.tape, h.output, h.size, h.block⟩
theorem Side.below {b z : Nat} {w w' : World} (h : Side b w w') (hb : z ≤ b) (hz : z ≤ w.heap.size) : Below z w w' := ⟨h.os, h.tape, h.output, h.size, fun k hk => h.block k (by omega) (by omega)⟩
theorem BoxIs.side {w w' : World} {b k : Nat} {vs : Array Value} {t : TypeId} (h : BoxIs w k vs t) (ha : Side b w w') (hne : k ≠ b) : BoxIs w' k vs t := (ha.block k h.lt hne).trans h
theorem BoxIs.put {w : World} {b : Nat} {vs : Array Value} {t : TypeId} (h : BoxIs w b vs t) (j : Nat) (x : Value) : BoxIs (w.setCell ⟨b, j, none⟩ x) b (vs.setIfInBounds j x) t := by
  unfold BoxIs at h ⊢
  simp [World.setCell, Array.getElem?_modify, h]

abbrev grTy : TypeId := 200
/-- A reader of a glob's text: the text, the place, where it ends. -/
def RdAt (w : World) (b : Nat) (T : ByteArray) (k e : Nat) : Prop := BoxIs w b #[.string T, .int .i64 k, .int .i64 e] grTy
theorem RdAt.drew {w : World} {b : Nat} {T : ByteArray} {k e : Nat} (h : RdAt w b T k e) (n : Nat) : RdAt (w.drewN n) b T k e := h
theorem RdAt.step {w : World} {b : Nat} {T : ByteArray} {k e : Nat} (h : RdAt w b T k e) (j : Nat) : RdAt (w.setCell ⟨b, 1, none⟩ (.int .i64 j)) b T j e := BoxIs.put h 1 _
/-- A reader fails at a place. -/
abbrev Pan (n : Int) : Ending := .panicked [{ v := .iface 196 (.agg #[.int .i64 n]), recovered := false }]

theorem gfail_any (b : Nat) (n : Int) (w : World) : Calls Tryz.prog 109 #[.pointer (some ⟨b, 0, none⟩), .int .i64 n] w fun e w' => e = Pan n ∧ w' = w := by
  go_enter Tryz.func109, Tryz.ntmps109
  go_wp2_with fail
  exact ⟨rfl, rfl, rfl⟩

theorem gmore_any (b : Nat) (T : ByteArray) (k e : Nat) (w : World) (h : RdAt w b T k e) : Calls Tryz.prog 158 #[.pointer (some ⟨b, 0, none⟩)] w fun e' w' => e' = .returned (.bool (decide (k < e))) ∧ ∃ n, w' = w.drewN n := by
  have c1 := h.cell (j := 1) rfl
  have c2 := h.cell (j := 2) rfl
  have hd : decide ((k : Int) < (e : Int)) = decide (k < e) := by simp
  clear h
  go_enter Tryz.func158, Tryz.ntmps158
  go_wp2_with fail
  go_quiet (fail)
  go_wp2_with fail
  go_ret
  exact ⟨rfl, nq, rfl⟩

/-- The bytes that are left. -/
def left (T : ByteArray) (k e : Nat) : List UInt8 := (T.data.toList.take e).drop k
theorem left_nil {T : ByteArray} {k e : Nat} (h : e ≤ k) : left T k e = [] := by
  unfold left
  exact List.drop_of_length_le (by rw [List.length_take]; omega)
theorem left_cons {T : ByteArray} {k e : Nat} (h : k < e) (he : e ≤ T.size) (c : UInt8) (hc : T[k]'(by omega) = c) : left T k e = c :: left T (k + 1) e := by
  have hl : (T.data.toList.take e).length = e := by rw [List.length_take, ← Lib.size_eq]; omega
  unfold left
  rw [List.drop_eq_getElem_cons (by omega : k < (T.data.toList.take e).length)]
  congr 1
  rw [List.getElem_take, ← hc]
  have := Lib.data_getElem? T k (by omega)
  rw [List.getElem?_eq_getElem (by rw [← Lib.size_eq]; omega)] at this
  injection this
theorem left_len {T : ByteArray} {k e : Nat} (he : e ≤ T.size) : (left T k e).length = e - k := by
  unfold left
  rw [List.length_drop, List.length_take, ← Lib.size_eq]
  omega
/-- Where a fault lies. -/
def posOf (T : ByteArray) (e : Nat) (r : List UInt8) : Int := if r = [] then (T.size : Int) else ((e - r.length : Nat) : Int)
theorem posOf_left {T : ByteArray} {k e : Nat} (h : k < e) (he : e ≤ T.size) : posOf T e (left T k e) = k := by
  have hl := left_len (k := k) he
  unfold posOf
  rw [if_neg (fun e2 => by rw [e2] at hl; simp at hl; omega), hl]
  omega
/-- What a reader's function does, by what the plain reader says. -/
def RdPost {α : Type} (b : Nat) (T : ByteArray) (e : Nat) (w : World) (res : Wh.G.Rd α) (val : α → Value → World → Prop) (E : Ending) (w' : World) : Prop :=
  match res with
  | .ok a r => ∃ v k, E = .returned v ∧ val a v w' ∧ RdAt w' b T k e ∧ k ≤ e ∧ left T k e = r ∧ Side b w w'
  | .bad r => E = Pan (posOf T e r) ∧ Side b w w'

theorem byte_zero (c : UInt8) : ((c.toNat : Int) == 0) = (c == 0) := by
  have h : ∀ n : Fin 256, ((((n.1 : Nat) : Int) == 0) = (UInt8.ofNat n.1 == 0)) := by decide +kernel
  have := h ⟨c.toNat, c.toNat_lt⟩
  simpa using this
/-- A byte that is not 0. -/
def takeR : List UInt8 → Wh.G.Rd UInt8
  | [] => .bad []
  | c :: r => if c = 0 then .bad (c :: r) else .ok c r

set_option maxHeartbeats 1000000 in
set_option maxRecDepth 100000 in
theorem gtake_any (b : Nat) (T : ByteArray) (k e : Nat) (w : World) (h : RdAt w b T k e) (hk : k ≤ e) (he : e ≤ T.size) (hs : T.size ≤ 2000000) :
    Calls Tryz.prog 200 #[.pointer (some ⟨b, 0, none⟩)] w (RdPost b T e w (takeR (left T k e)) (fun c v _ => v = .int .u8 c.toNat)) := by
  have HM := Lib.hid (gmore_any b T k e w h)
  have H := Lib.hid h
  have HF := Lib.hid (fun n W => gfail_any b n W)
  have c0 := fun n => (h.drew n).cell (j := 0) rfl
  have c1 := fun n => (h.drew n).cell (j := 1) rfl
  clear h
  by_cases hlt : k < e
  · obtain ⟨c, hc⟩ : ∃ c : UInt8, T[k]'(by omega) = c := ⟨_, rfl⟩
    have HL := Lib.hid (left_cons hlt he c hc)
    have HP := Lib.hid (posOf_left hlt he)
    have hb0 := byte_zero c
    have hk0 : (0 : Int) ≤ (k : Int) := by omega
    have hk1 : (k : Int) < (T.size : Int) := by omega
    have hd : decide (k < e) = true := by simpa using hlt
    rw [hd] at HM
    clear hd
    go_enter Tryz.func200, Tryz.ntmps200
    go_upto_region 3 with (go_at_call 158; refine HM.out.mono ?_; rintro E w1 ⟨rfl, n1, rfl⟩)
    have x0 := c0 n1
    have x1 := c1 n1
    go_quiet (fail)
    have HR2 : Hid (RdAt ((w.drewN n1).drewN nq) b T k e) := Lib.hid H.out
    have HS2 : Hid (Side b w ((w.drewN n1).drewN nq)) := Lib.hid (((Side.refl b w).drew n1).drew nq)
    generalize (w.drewN n1).drewN nq = w2 at *
    clear x0 x1 c0 c1
    have x0 := HR2.out.cell (j := 0) rfl
    have x1 := HR2.out.cell (j := 1) rfl
    have f1 := Lib.frozen_of_heap HR2.out 1
    cases h0 : (c == 0)
    · have hc0 : c ≠ 0 := by simpa using h0
      rw [h0] at hb0
      have HR3 := Lib.hid (HR2.out.step (k + 1))
      have HS3 := Lib.hid (HS2.out.set 1 (.int .i64 ((k + 1 : Nat) : Int)))
      go_wp2_with fail
      go_ret
      rw [HL.out]
      simp only [takeR]
      rw [if_neg hc0]
      exact ⟨_, k + 1, rfl, rfl, HR3.out, hlt, rfl, HS3.out⟩
    · have hc0 : c = 0 := by simpa using h0
      rw [h0] at hb0
      go_wp2_with (go_at_call 109; refine (HF.out _ _).mono ?_; rintro E w3 ⟨rfl, hw3⟩; subst w3)
      refine ⟨rfl, ?_⟩
      have hp := HP.out
      rw [HL.out] at hp ⊢
      simp only [takeR]
      rw [if_pos hc0]
      exact ⟨by rw [hp], HS2.out⟩
  · have hd : decide (k < e) = false := by simpa using hlt
    have HL := Lib.hid (left_nil (T := T) (k := k) (e := e) (by omega))
    rw [hd] at HM
    clear hd
    go_enter Tryz.func200, Tryz.ntmps200
    go_upto_region 2 with (go_at_call 158; refine HM.out.mono ?_; rintro E w1 ⟨rfl, n1, rfl⟩)
    have x0 := c0 n1
    go_wp2_with (go_at_call 109; refine (HF.out _ _).mono ?_; rintro E w3 ⟨rfl, hw3⟩; subst w3)
    refine ⟨rfl, ?_⟩
    rw [HL.out]
    exact ⟨rfl, (Side.refl b w).drew n1⟩

theorem u8_eq (c d : UInt8) : ((c.toNat : Int) == (d.toNat : Int)) = (c == d) := by
  rw [Bool.eq_iff_iff]
  simp only [beq_iff_eq]
  constructor
  · intro h
    exact UInt8.toNat_inj.1 (by omega)
  · intro h
    rw [h]
/-- A byte that stands for itself. -/
def litR (l : List UInt8) : Wh.G.Rd UInt8 :=
  match takeR l with
  | .bad r => .bad r
  | .ok c r => if c = 92 then takeR r else if c = 93 ∨ c = 125 then .bad (c :: r) else .ok c r
theorem takeR_ok {l : List UInt8} {c : UInt8} {r : List UInt8} (h : takeR l = .ok c r) : l = c :: r := by
  cases l with
  | nil => cases h
  | cons x l =>
    simp only [takeR] at h
    split at h
    · cases h
    · injection h with e1 e2
      rw [e1, e2]
theorem left_prev {T : ByteArray} {k k1 e : Nat} (hk1 : k1 ≤ e) (he : e ≤ T.size) {c : UInt8} {r : List UInt8} (h : left T k e = c :: r) (h1 : left T k1 e = r) : k1 = k + 1 ∧ k < e := by
  have l1 := left_len (k := k) he
  have l2 := left_len (k := k1) he
  rw [h] at l1
  rw [h1] at l2
  simp at l1
  omega

set_option maxHeartbeats 1000000 in
set_option maxRecDepth 100000 in
theorem gliteral_any (b : Nat) (T : ByteArray) (k e : Nat) (w : World) (h : RdAt w b T k e) (hk : k ≤ e) (he : e ≤ T.size) (hs : T.size ≤ 2000000) :
    Calls Tryz.prog 160 #[.pointer (some ⟨b, 0, none⟩)] w (RdPost b T e w (litR (left T k e)) (fun c v _ => v = .int .u8 c.toNat)) := by
  have HT := Lib.hid (gtake_any b T k e w h hk he hs)
  have HF := Lib.hid (fun n W => gfail_any b n W)
  clear h
  unfold litR
  cases ht : takeR (left T k e) with
  | bad r =>
    rw [ht] at HT
    go_enter Tryz.func160, Tryz.ntmps160
    go_wp2_with (go_at_call 200; refine HT.out.mono ?_; rintro E w1 ⟨rfl, hS⟩)
    exact ⟨rfl, rfl, hS⟩
  | ok c r =>
    rw [ht] at HT
    have HL := Lib.hid (takeR_ok ht)
    clear ht
    have e92 := u8_eq c 92
    have e93 := u8_eq c 93
    have e125 := u8_eq c 125
    change ((c.toNat : Int) == 92) = _ at e92
    change ((c.toNat : Int) == 93) = _ at e93
    change ((c.toNat : Int) == 125) = _ at e125
    go_enter Tryz.func160, Tryz.ntmps160
    go_upto_region 2 with (go_at_call 200; refine HT.out.mono ?_; rintro E w1 ⟨v1, k1, rfl, rfl, hR, hk1, hl1, hS⟩; have HR := Lib.hid hR; have HS := Lib.hid hS; have HL1 := Lib.hid hl1; clear hR hS hl1)
    cases h92 : (c == 92)
    · rw [h92] at e92
      have n92 : c ≠ 92 := by simpa using h92
      have HPv := Lib.hid (left_prev hk1 he HL.out HL1.out)
      have hk1p : (k1 : Int) - 1 = (k : Int) := by have := HPv.out.1; omega
      have HPo := Lib.hid (posOf_left HPv.out.2 he)
      have x1 := HR.out.cell (j := 1) rfl
      by_cases hbad : c = 93 ∨ c = 125
      · have key : (c == 93) = true ∨ ((c == 93) = false ∧ (c == 125) = true) := by
          rcases hbad with h | h
          · exact .inl (by simpa using h)
          · exact .inr ⟨by rw [h]; decide, by simpa using h⟩
        have HPo2 : Hid (posOf T e (c :: r) = k) := Lib.hid (by rw [← HL.out]; exact HPo.out)
        rcases key with h | ⟨h, h2⟩
        · rw [h] at e93
          go_wp2_with (go_at_call 109; refine (HF.out _ _).mono ?_; rintro E w3 ⟨rfl, hw3⟩; subst w3)
          refine ⟨rfl, ?_⟩
          try rw [if_neg n92, if_pos hbad]
          exact ⟨by rw [HPo2.out], HS.out⟩
        · rw [h] at e93
          rw [h2] at e125
          go_wp2_with (go_at_call 109; refine (HF.out _ _).mono ?_; rintro E w3 ⟨rfl, hw3⟩; subst w3)
          refine ⟨rfl, ?_⟩
          try rw [if_neg n92, if_pos hbad]
          exact ⟨by rw [HPo2.out], HS.out⟩
      · have h93 : (c == 93) = false := by simpa using fun h => hbad (.inl h)
        have h125 : (c == 125) = false := by simpa using fun h => hbad (.inr h)
        rw [h93] at e93
        rw [h125] at e125
        go_wp2_with fail
        go_ret
        try rw [if_neg n92, if_neg hbad]
        exact ⟨_, k1, rfl, rfl, HR.out, hk1, HL1.out, HS.out⟩
    · rw [h92] at e92
      have n92 : c = 92 := by simpa using h92
      have HT2 := Lib.hid (gtake_any b T k1 e w1 HR.out hk1 he hs)
      rw [HL1.out] at HT2
      cases ht : takeR r with
      | bad r2 =>
        rw [ht] at HT2
        go_wp2_with (go_at_call 200; refine HT2.out.mono ?_; rintro E w2 ⟨rfl, hS2⟩)
        refine ⟨rfl, ?_⟩
        try rw [if_pos n92, ht]
        exact ⟨rfl, HS.out.trans hS2⟩
      | ok c2 r2 =>
        rw [ht] at HT2
        go_wp2_with (go_at_call 200; refine HT2.out.mono ?_; rintro E w2 ⟨v2, k2, rfl, rfl, hR2, hk2, hl2, hS2⟩)
        go_ret
        try rw [if_pos n92, ht]
        exact ⟨_, k2, rfl, rfl, hR2, hk2, hl2, HS.out.trans hS2⟩
end Go.Proofs.YtfenmeacimfiaaaGreatDoor
namespace Go.Proofs.YtfenmeacimfiaaaGreatDoor
open Go.RowKit Wh.G

theorem bnd_bad {l r : List UInt8} (h : takeR l = .bad r) : bnd l = .bad r := by
  cases l with
  | nil => exact congrArg Rd.bad (by injection h)
  | cons c q =>
    simp only [takeR] at h
    split at h
    · rename_i hc
      injection h with h
      subst hc h
      rfl
    · cases h
theorem bnd_plain {c : UInt8} {r : List UInt8} (h0 : c ≠ 0) (h92 : c ≠ 92) : bnd (c :: r) = if c = 93 ∨ c = 94 ∨ c = 45 ∨ c = 47 then .bad (c :: r) else .ok c r := by
  simp only [bnd]
  rw [if_neg h92]
  simp [h0]
theorem bnd_esc {r : List UInt8} : bnd (92 :: r) = match takeR r with | .bad s => .bad s | .ok x q => if x = 47 then .bad (x :: q) else .ok x q := by
  cases r with
  | nil => rfl
  | cons x q =>
    simp only [bnd, takeR, if_true]
    by_cases h0 : x = 0
    · rw [if_pos h0, if_pos (.inl h0)]
    · rw [if_neg h0]
      simp [h0]

set_option maxHeartbeats 1000000 in
set_option maxRecDepth 100000 in
theorem gbound_any (b : Nat) (T : ByteArray) (k e : Nat) (w : World) (h : RdAt w b T k e) (hk : k ≤ e) (he : e ≤ T.size) (hs : T.size ≤ 2000000) :
    Calls Tryz.prog 224 #[.pointer (some ⟨b, 0, none⟩)] w (RdPost b T e w (bnd (left T k e)) (fun c v _ => v = .int .u8 c.toNat)) := by
  have HT := Lib.hid (gtake_any b T k e w h hk he hs)
  have HF := Lib.hid (fun n W => gfail_any b n W)
  clear h
  cases ht : takeR (left T k e) with
  | bad r =>
    rw [ht] at HT
    rw [bnd_bad ht]
    go_enter Tryz.func224, Tryz.ntmps224
    go_wp2_with (go_at_call 200; refine HT.out.mono ?_; rintro E w1 ⟨rfl, hS⟩)
    exact ⟨rfl, rfl, hS⟩
  | ok c r =>
    rw [ht] at HT
    have hl := takeR_ok ht
    have hc0 : c ≠ 0 := by
      intro h0
      rw [hl] at ht
      simp only [takeR] at ht
      rw [if_pos h0] at ht
      cases ht
    have HL := Lib.hid hl
    have e92 := u8_eq c 92
    change ((c.toNat : Int) == 92) = _ at e92
    rw [hl]
    by_cases h92 : c = 92
    · subst h92
      rw [bnd_esc]
      clear ht hl hc0
      have e92t : ((92 : UInt8) == 92) = true := rfl
      rw [e92t] at e92
      cases ht : takeR r with
      | bad r2 =>
        go_enter Tryz.func224, Tryz.ntmps224
        go_upto_region 2 with (go_at_call 200; refine HT.out.mono ?_; rintro E w1 ⟨v1, k1, rfl, rfl, hR, hk1, hl1, hS⟩; have HS := Lib.hid hS; have HT2 := Lib.hid (gtake_any b T k1 e w1 hR hk1 he hs); rw [hl1, ht] at HT2; clear hR hS hl1)
        go_wp2_with (go_at_call 200; refine HT2.out.mono ?_; rintro E w2 ⟨rfl, hS2⟩)
        exact ⟨rfl, rfl, HS.out.trans hS2⟩
      | ok x q =>
        have hx := takeR_ok ht
        have e47 := u8_eq x 47
        change ((x.toNat : Int) == 47) = _ at e47
        go_enter Tryz.func224, Tryz.ntmps224
        go_upto_region 2 with (go_at_call 200; refine HT.out.mono ?_; rintro E w1 ⟨v1, k1, rfl, rfl, hR, hk1, hl1, hS⟩; have HS := Lib.hid hS; have HT2 := Lib.hid (gtake_any b T k1 e w1 hR hk1 he hs); have HL1 := Lib.hid (hl1.trans hx); rw [hl1, ht] at HT2; clear hR hS hl1)
        go_upto_region 6 with (go_at_call 200; refine HT2.out.mono ?_; rintro E w2 ⟨v2, k2, rfl, rfl, hR2, hk2, hl2, hS2⟩; have HR2 := Lib.hid hR2; have HS2 := Lib.hid (HS.out.trans hS2); have HL2 := Lib.hid hl2; clear hR2 hS2 hl2)
        cases h47 : (x == 47)
        · have n47 : x ≠ 47 := by simpa using h47
          rw [h47] at e47
          go_wp2_with fail
          go_ret
          try rw [if_neg n47]
          exact ⟨_, k2, rfl, rfl, HR2.out, hk2, HL2.out, HS2.out⟩
        · have n47 : x = 47 := by simpa using h47
          rw [h47] at e47
          have HPv := Lib.hid (left_prev hk2 he HL1.out HL2.out)
          have hk1p : (k2 : Int) - 1 = (k1 : Int) := by have := HPv.out.1; omega
          have HPo : Hid (posOf T e (x :: q) = k1) := Lib.hid (by rw [← HL1.out]; exact posOf_left HPv.out.2 he)
          have x1 := HR2.out.cell (j := 1) rfl
          go_wp2_with (go_at_call 109; refine (HF.out _ _).mono ?_; rintro E w3 ⟨rfl, hw3⟩; subst w3)
          refine ⟨rfl, ?_⟩
          try rw [if_pos n47]
          exact ⟨by first | rw [HPo.out] | rw [← n47, HPo.out], HS2.out⟩
    · rw [bnd_plain hc0 h92]
      have e92f : (c == 92) = false := by simpa using h92
      rw [e92f] at e92
      have e93 := u8_eq c 93
      have e94 := u8_eq c 94
      have e45 := u8_eq c 45
      have e47 := u8_eq c 47
      change ((c.toNat : Int) == 93) = _ at e93
      change ((c.toNat : Int) == 94) = _ at e94
      change ((c.toNat : Int) == 45) = _ at e45
      change ((c.toNat : Int) == 47) = _ at e47
      clear ht hl
      have HP : Hid (∀ k1, k1 ≤ e → left T k1 e = r → ((k1 : Int) - 1 = (k : Int)) ∧ posOf T e (c :: r) = k) := Lib.hid (fun k1 h1 h2 => by
        have h3 := left_prev h1 he HL.out h2
        refine ⟨by have := h3.1; omega, ?_⟩
        rw [← HL.out]
        exact posOf_left h3.2 he)
      by_cases hbad : c = 93 ∨ c = 94 ∨ c = 45
      · have key : ((c == 93) = true) ∨ ((c == 93) = false ∧ (c == 94) = true) ∨ ((c == 93) = false ∧ (c == 94) = false ∧ (c == 45) = true) := by
          rcases hbad with h | h | h <;> subst h <;> decide
        have hbad2 : c = 93 ∨ c = 94 ∨ c = 45 ∨ c = 47 := by
          rcases hbad with h | h | h
          · exact .inl h
          · exact .inr (.inl h)
          · exact .inr (.inr (.inl h))
        rw [if_pos hbad2]
        clear e47 hbad2 hbad
        rcases key with h | ⟨h, h2⟩ | ⟨h, h2, h3⟩
        · rw [h] at e93
          go_enter Tryz.func224, Tryz.ntmps224
          go_upto_region 2 with (go_at_call 200; refine HT.out.mono ?_; rintro E w1 ⟨v1, k1, rfl, rfl, hR, hk1, hl1, hS⟩; have HS := Lib.hid hS; have x1 := hR.cell (j := 1) rfl; obtain ⟨hk1p, hpo⟩ := HP.out k1 hk1 hl1; clear hR hS hl1)
          go_wp2_with (go_at_call 109; refine (HF.out _ _).mono ?_; rintro E w3 ⟨rfl, hw3⟩; subst w3)
          exact ⟨rfl, by rw [hpo], HS.out⟩
        · rw [h] at e93
          rw [h2] at e94
          go_enter Tryz.func224, Tryz.ntmps224
          go_upto_region 2 with (go_at_call 200; refine HT.out.mono ?_; rintro E w1 ⟨v1, k1, rfl, rfl, hR, hk1, hl1, hS⟩; have HS := Lib.hid hS; have x1 := hR.cell (j := 1) rfl; obtain ⟨hk1p, hpo⟩ := HP.out k1 hk1 hl1; clear hR hS hl1)
          go_wp2_with (go_at_call 109; refine (HF.out _ _).mono ?_; rintro E w3 ⟨rfl, hw3⟩; subst w3)
          exact ⟨rfl, by rw [hpo], HS.out⟩
        · rw [h] at e93
          rw [h2] at e94
          rw [h3] at e45
          go_enter Tryz.func224, Tryz.ntmps224
          go_upto_region 2 with (go_at_call 200; refine HT.out.mono ?_; rintro E w1 ⟨v1, k1, rfl, rfl, hR, hk1, hl1, hS⟩; have HS := Lib.hid hS; have x1 := hR.cell (j := 1) rfl; obtain ⟨hk1p, hpo⟩ := HP.out k1 hk1 hl1; clear hR hS hl1)
          go_wp2_with (go_at_call 109; refine (HF.out _ _).mono ?_; rintro E w3 ⟨rfl, hw3⟩; subst w3)
          exact ⟨rfl, by rw [hpo], HS.out⟩
      · have h93 : (c == 93) = false := by simpa using fun h => hbad (.inl h)
        have h94 : (c == 94) = false := by simpa using fun h => hbad (.inr (.inl h))
        have h45 : (c == 45) = false := by simpa using fun h => hbad (.inr (.inr h))
        rw [h93] at e93
        rw [h94] at e94
        rw [h45] at e45
        by_cases n47 : c = 47
        · have h47 : (c == 47) = true := by simpa using n47
          rw [h47] at e47
          rw [if_pos (.inr (.inr (.inr n47)))]
          clear hbad n47
          go_enter Tryz.func224, Tryz.ntmps224
          go_upto_region 2 with (go_at_call 200; refine HT.out.mono ?_; rintro E w1 ⟨v1, k1, rfl, rfl, hR, hk1, hl1, hS⟩; have HS := Lib.hid hS; have x1 := hR.cell (j := 1) rfl; obtain ⟨hk1p, hpo⟩ := HP.out k1 hk1 hl1; clear hR hS hl1)
          go_wp2_with (go_at_call 109; refine (HF.out _ _).mono ?_; rintro E w3 ⟨rfl, hw3⟩; subst w3)
          exact ⟨rfl, by rw [hpo], HS.out⟩
        · have h47 : (c == 47) = false := by simpa using n47
          rw [h47] at e47
          rw [if_neg (by rintro (h | h | h | h); exact hbad (.inl h); exact hbad (.inr (.inl h)); exact hbad (.inr (.inr h)); exact n47 h)]
          clear hbad n47
          go_enter Tryz.func224, Tryz.ntmps224
          go_upto_region 2 with (go_at_call 200; refine HT.out.mono ?_; rintro E w1 ⟨v1, k1, rfl, rfl, hR, hk1, hl1, hS⟩; have HS := Lib.hid hS; have HR := Lib.hid hR; have HL1 := Lib.hid hl1; clear hR hS hl1)
          go_wp2_with fail
          go_ret
          exact ⟨_, k1, rfl, rfl, HR.out, hk1, HL1.out, HS.out⟩

theorem gmoreQ (b : Nat) (T : ByteArray) (k e : Nat) (w : World) (a : Nat) (h : RdAt w b T k e) : Calls Tryz.prog 158 #[.pointer (some ⟨b, 0, none⟩)] (w.drewN a) fun e' w' => e' = .returned (.bool (decide (k < e))) ∧ ∃ m, w' = w.drewN (a + m) :=
  (gmore_any b T k e (w.drewN a) (h.drew a)).mono fun _ _ hh => ⟨hh.1, by
    obtain ⟨n, hn⟩ := hh.2
    exact ⟨n, by rw [hn]; unfold World.drewN; simp [Nat.add_assoc]⟩⟩
/-- Stars. -/
def goS : Nat → List UInt8 → Rd Int
  | n, [] => .ok (if n = 2 then 4 else 3) []
  | n, c :: r => if c = 42 then (if n = 2 then .bad (c :: r) else goS (n + 1) r) else .ok (if n = 2 then 4 else 3) (c :: r)
abbrev party : TypeId := 212
abbrev pZero : Array Value := #[.int .i64 0, .string ⟨#[]⟩, .bool false, .slice none 0 0, .slice none 0 0]
abbrev pKind (k : Int) : Value := .agg #[.int .i64 k, .string ⟨#[]⟩, .bool false, .slice none 0 0, .slice none 0 0]

theorem Side.new {b r : Nat} {w W W' : World} (h : Side b w W) (k : Side r W W') (hr : w.heap.size ≤ r) : Side b w W' :=
  ⟨k.os.trans h.os, k.tape.trans h.tape, k.output.trans h.output, Nat.le_trans h.size k.size, fun i hi hb => (k.block i (Nat.lt_of_lt_of_le hi h.size) (by omega)).trans (h.block i hi hb)⟩
/-- A part's box is filled. -/
theorem part_put {W : World} {r : Nat} {v0 v1 v2 v3 v4 : Value} (h : BoxIs W r #[v0, v1, v2, v3, v4] party) (u0 u1 u2 u3 u4 : Value) :
    BoxIs (((((W.setCell ⟨r, 0, none⟩ u0).setCell ⟨r, 1, none⟩ u1).setCell ⟨r, 2, none⟩ u2).setCell ⟨r, 3, none⟩ u3).setCell ⟨r, 4, none⟩ u4) r #[u0, u1, u2, u3, u4] party ∧
    Side r W (((((W.setCell ⟨r, 0, none⟩ u0).setCell ⟨r, 1, none⟩ u1).setCell ⟨r, 2, none⟩ u2).setCell ⟨r, 3, none⟩ u3).setCell ⟨r, 4, none⟩ u4) :=
  ⟨((((h.put 0 u0).put 1 u1).put 2 u2).put 3 u3).put 4 u4, (((((Side.refl r W).set 0 u0).set 1 u1).set 2 u2).set 3 u3).set 4 u4⟩
theorem goS_one {T : ByteArray} {j e n : Nat} {c : UInt8} (h : left T j e = c :: left T (j + 1) e) (hc : c = 42) (hn : n ≠ 2) : goS n (left T j e) = goS (n + 1) (left T (j + 1) e) := by
  rw [h]
  simp only [goS]
  rw [if_pos hc, if_neg hn]
theorem goS_end {n : Nat} {l : List UInt8} (h : ∀ c r, l = c :: r → c ≠ 42) : goS n l = .ok (if n = 2 then 4 else 3) l := by
  cases l with
  | nil => rfl
  | cons c r =>
    simp only [goS]
    rw [if_neg (h c r rfl)]

set_option maxHeartbeats 2000000 in
set_option maxRecDepth 100000 in
theorem gstars_any (b : Nat) (T : ByteArray) (k e : Nat) (w : World) (h : RdAt w b T k e) (hk : k ≤ e) (he : e ≤ T.size) (hs : T.size ≤ 2000000) :
    Calls Tryz.prog 197 #[.pointer (some ⟨b, 0, none⟩)] w (RdPost b T e w (goS 0 (left T k e)) (fun kd v _ => v = pKind kd)) := by
  have H := Lib.hid h
  have HF := Lib.hid (fun n W => gfail_any b n W)
  have hbl := h.lt
  have HB0 := Lib.hid (bAlloc (Below.refl w.heap.size w) (.cells pZero party))
  have HZ := Lib.hid (BoxIs.new w pZero party)
  clear h
  go_enter Tryz.func197, Tryz.ntmps197
  go_upto_region 1 with fail
  generalize w.alloc _ = w1 at *
  have HR1 : Hid (RdAt w1 b T k e) := Lib.hid (BoxIs.under H.out HB0.out)
  have HS1 : Hid (Side b w w1) := Lib.hid (Side.of HB0.out)
  obtain ⟨rb, hrb0⟩ : ∃ rb, rb = w.heap.size := ⟨_, rfl⟩
  rw [← hrb0]
  rw [← hrb0] at HZ
  have hrb : b ≠ rb := by omega
  have hrz : w.heap.size ≤ rb := by omega
  clear hrb0 H HB0
  go_wp2_with fail
  go_loopg [3] (e + 1 - k) (fun g s3 wx => ∃ (n j : Nat), j + g = e + 1 ∧ s3 = .int .i64 n ∧ n ≤ 2 ∧ j ≤ e ∧ Hid (RdAt wx b T j e) ∧ Hid (Side b w wx) ∧ Hid (BoxIs wx rb pZero party) ∧ Hid (goS n (left T j e) = goS 0 (left T k e)))
  case atStart => exact ⟨0, k, by omega, rfl, by decide, hk, HR1, HS1, HZ, Lib.hid rfl⟩
  case round =>
    obtain ⟨n, j, hg, rfl, hn, hj, HRj, HSj, HZr, HGo⟩ := hrel
    have c0 := HRj.out.cell (j := 0) rfl
    have c1 := HRj.out.cell (j := 1) rfl
    by_cases hlt : j < e
    · obtain ⟨c, hc⟩ : ∃ c : UInt8, T[j]'(by omega) = c := ⟨_, rfl⟩
      have HL := Lib.hid (left_cons hlt he c hc)
      have HP := Lib.hid (posOf_left hlt he)
      have hk0 : (0 : Int) ≤ (j : Int) := by omega
      have hk1 : (j : Int) < (T.size : Int) := by omega
      have hd : decide (j < e) = true := by simpa using hlt
      have HM := Lib.hid (fun n => gmore_any b T j e (wr.drewN n) (HRj.out.drew n))
      simp only [hd] at HM
      have e42 := u8_eq c 42
      change ((c.toNat : Int) == 42) = _ at e42
      cases h42 : (c == 42)
      · rw [h42] at e42
        have n42 : c ≠ 42 := by simpa using h42
        have HEnd := Lib.hid (goS_end (n := n) (l := left T j e) (fun c' r' h => by rw [HL.out] at h; injection h with h _; rw [← h]; exact n42))
        -- ROUND
        go_wp2_with fail
        go_quiet ((go_at_call 158; exact Calls.quiet_of (HM.out _)))
        replace HRj : Hid (RdAt (wr.drewN nq) b T j e) := Lib.hid HRj.out
        replace HSj : Hid (Side b w (wr.drewN nq)) := Lib.hid (HSj.out.drew nq)
        replace HZr : Hid (BoxIs (wr.drewN nq) rb pZero party) := Lib.hid HZr.out
        clear c0 c1 HM
        generalize wr.drewN nq = wr2 at *
        by_cases hn2 : n = 2
        · subst hn2
          have hZr := HZr.out
          have d0 := hZr.cell (j := 0) rfl
          have d1 := hZr.cell (j := 1) rfl
          have d2 := hZr.cell (j := 2) rfl
          have d3 := hZr.cell (j := 3) rfl
          have d4 := hZr.cell (j := 4) rfl
          have g0 := Lib.frozen_of_heap hZr 0
          have g1 := Lib.frozen_of_heap hZr 1
          have g2 := Lib.frozen_of_heap hZr 2
          have g3 := Lib.frozen_of_heap hZr 3
          have g4 := Lib.frozen_of_heap hZr 4
          have HFn := Lib.hid (part_put hZr (.int .i64 4) (.string ⟨#[]⟩) (.bool false) (.slice none 0 0) (.slice none 0 0))
          clear hZr
          go_wp2_with fail
          clear d0 d1 d2 d3 d4 g0 g1 g2 g3 g4
          generalize ((((World.setCell _ _ _).setCell _ _).setCell _ _).setCell _ _).setCell _ _ = wf at *
          have d0 := HFn.out.1.cell (j := 0) rfl
          have d1 := HFn.out.1.cell (j := 1) rfl
          have d2 := HFn.out.1.cell (j := 2) rfl
          have d3 := HFn.out.1.cell (j := 3) rfl
          have d4 := HFn.out.1.cell (j := 4) rfl
          refine bodyPost_ret (v := pKind 4) ?_ rfl ?_
          · simp [results, Tryz.f197]
            go_simp
          · rw [← HGo.out, HEnd.out]
            exact ⟨_, j, rfl, rfl, BoxIs.side HRj.out HFn.out.2 hrb, hj, rfl, HSj.out.new HFn.out.2 hrz⟩
        · have hn2' : ((n : Int) == 2) = false := by
            have : ¬ (n : Int) = 2 := by omega
            simpa using this
          rw [if_neg hn2] at HEnd
          have hZr := HZr.out
          have d0 := hZr.cell (j := 0) rfl
          have d1 := hZr.cell (j := 1) rfl
          have d2 := hZr.cell (j := 2) rfl
          have d3 := hZr.cell (j := 3) rfl
          have d4 := hZr.cell (j := 4) rfl
          have g0 := Lib.frozen_of_heap hZr 0
          have g1 := Lib.frozen_of_heap hZr 1
          have g2 := Lib.frozen_of_heap hZr 2
          have g3 := Lib.frozen_of_heap hZr 3
          have g4 := Lib.frozen_of_heap hZr 4
          have HFn := Lib.hid (part_put hZr (.int .i64 3) (.string ⟨#[]⟩) (.bool false) (.slice none 0 0) (.slice none 0 0))
          clear hZr
          go_wp2_with fail
          clear d0 d1 d2 d3 d4 g0 g1 g2 g3 g4
          generalize ((((World.setCell _ _ _).setCell _ _).setCell _ _).setCell _ _).setCell _ _ = wf at *
          have d0 := HFn.out.1.cell (j := 0) rfl
          have d1 := HFn.out.1.cell (j := 1) rfl
          have d2 := HFn.out.1.cell (j := 2) rfl
          have d3 := HFn.out.1.cell (j := 3) rfl
          have d4 := HFn.out.1.cell (j := 4) rfl
          refine bodyPost_ret (v := pKind 3) ?_ rfl ?_
          · simp [results, Tryz.f197]
            go_simp
          · rw [← HGo.out, HEnd.out]
            exact ⟨_, j, rfl, rfl, BoxIs.side HRj.out HFn.out.2 hrb, hj, rfl, HSj.out.new HFn.out.2 hrz⟩
      · rw [h42] at e42
        have n42 : c = 42 := by simpa using h42
        go_wp2_with fail
        go_quiet ((go_at_call 158; exact Calls.quiet_of (HM.out _)))
        replace HRj : Hid (RdAt (wr.drewN nq) b T j e) := Lib.hid HRj.out
        replace HSj : Hid (Side b w (wr.drewN nq)) := Lib.hid (HSj.out.drew nq)
        replace HZr : Hid (BoxIs (wr.drewN nq) rb pZero party) := Lib.hid HZr.out
        clear c0 c1 HM
        generalize wr.drewN nq = wr2 at *
        have c1 := HRj.out.cell (j := 1) rfl
        by_cases hn2 : n = 2
        · subst hn2
          go_wp2_with (go_at_call 109; refine (HF.out _ _).mono ?_; rintro E w3 ⟨rfl, hw3⟩; subst w3)
          refine ⟨rfl, ?_⟩
          have hp := HP.out
          rw [← HGo.out]
          rw [HL.out] at hp ⊢
          simp only [goS]
          rw [if_pos n42, if_pos trivial]
          exact ⟨by rw [hp], HSj.out⟩
        · have hn2' : ((n : Int) == 2) = false := by
            have : ¬ (n : Int) = 2 := by omega
            simpa using this
          have f1 := Lib.frozen_of_heap HRj.out 1
          have HR3 := Lib.hid (HRj.out.step (j + 1))
          have HS3 := Lib.hid (HSj.out.set 1 (.int .i64 ((j + 1 : Nat) : Int)))
          have HZ3 := Lib.hid (BoxIs.side HZr.out ((Side.refl b wr2).set 1 (.int .i64 ((j + 1 : Nat) : Int))) (fun e => hrb e.symm))
          have HGo3 : Hid (goS (n + 1) (left T (j + 1) e) = goS 0 (left T k e)) := Lib.hid ((goS_one HL.out n42 hn2).symm.trans HGo.out)
          obtain ⟨g, rfl⟩ : ∃ g, gk = g + 1 := ⟨gk - 1, by omega⟩
          go_wp2_with fail
          go_roundg g
          case measure => omega
          case rel => exact ⟨n + 1, j + 1, by omega, by go_num, by omega, by omega, HR3, HS3, HZ3, HGo3⟩
    · have hd : decide (j < e) = false := by simpa using hlt
      have HM := Lib.hid (fun n => gmore_any b T j e (wr.drewN n) (HRj.out.drew n))
      simp only [hd] at HM
      have HEnd := Lib.hid (goS_end (n := n) (l := left T j e) (fun c' r' h => by rw [left_nil (by omega)] at h; cases h))
      go_wp2_with fail
      go_quiet ((go_at_call 158; exact Calls.quiet_of (HM.out _)))
      replace HRj : Hid (RdAt (wr.drewN nq) b T j e) := Lib.hid HRj.out
      replace HSj : Hid (Side b w (wr.drewN nq)) := Lib.hid (HSj.out.drew nq)
      replace HZr : Hid (BoxIs (wr.drewN nq) rb pZero party) := Lib.hid HZr.out
      clear c0 c1 HM
      generalize wr.drewN nq = wr2 at *
      by_cases hn2 : n = 2
      · subst hn2
        have hZr := HZr.out
        have d0 := hZr.cell (j := 0) rfl
        have d1 := hZr.cell (j := 1) rfl
        have d2 := hZr.cell (j := 2) rfl
        have d3 := hZr.cell (j := 3) rfl
        have d4 := hZr.cell (j := 4) rfl
        have g0 := Lib.frozen_of_heap hZr 0
        have g1 := Lib.frozen_of_heap hZr 1
        have g2 := Lib.frozen_of_heap hZr 2
        have g3 := Lib.frozen_of_heap hZr 3
        have g4 := Lib.frozen_of_heap hZr 4
        have HFn := Lib.hid (part_put hZr (.int .i64 4) (.string ⟨#[]⟩) (.bool false) (.slice none 0 0) (.slice none 0 0))
        clear hZr
        go_wp2_with fail
        clear d0 d1 d2 d3 d4 g0 g1 g2 g3 g4
        generalize ((((World.setCell _ _ _).setCell _ _).setCell _ _).setCell _ _).setCell _ _ = wf at *
        have d0 := HFn.out.1.cell (j := 0) rfl
        have d1 := HFn.out.1.cell (j := 1) rfl
        have d2 := HFn.out.1.cell (j := 2) rfl
        have d3 := HFn.out.1.cell (j := 3) rfl
        have d4 := HFn.out.1.cell (j := 4) rfl
        refine bodyPost_ret (v := pKind 4) ?_ rfl ?_
        · simp [results, Tryz.f197]
          go_simp
        · rw [← HGo.out, HEnd.out]
          exact ⟨_, j, rfl, rfl, BoxIs.side HRj.out HFn.out.2 hrb, hj, rfl, HSj.out.new HFn.out.2 hrz⟩
      · have hn2' : ((n : Int) == 2) = false := by
          have : ¬ (n : Int) = 2 := by omega
          simpa using this
        rw [if_neg hn2] at HEnd
        have hZr := HZr.out
        have d0 := hZr.cell (j := 0) rfl
        have d1 := hZr.cell (j := 1) rfl
        have d2 := hZr.cell (j := 2) rfl
        have d3 := hZr.cell (j := 3) rfl
        have d4 := hZr.cell (j := 4) rfl
        have g0 := Lib.frozen_of_heap hZr 0
        have g1 := Lib.frozen_of_heap hZr 1
        have g2 := Lib.frozen_of_heap hZr 2
        have g3 := Lib.frozen_of_heap hZr 3
        have g4 := Lib.frozen_of_heap hZr 4
        have HFn := Lib.hid (part_put hZr (.int .i64 3) (.string ⟨#[]⟩) (.bool false) (.slice none 0 0) (.slice none 0 0))
        clear hZr
        go_wp2_with fail
        clear d0 d1 d2 d3 d4 g0 g1 g2 g3 g4
        generalize ((((World.setCell _ _ _).setCell _ _).setCell _ _).setCell _ _).setCell _ _ = wf at *
        have d0 := HFn.out.1.cell (j := 0) rfl
        have d1 := HFn.out.1.cell (j := 1) rfl
        have d2 := HFn.out.1.cell (j := 2) rfl
        have d3 := HFn.out.1.cell (j := 3) rfl
        have d4 := HFn.out.1.cell (j := 4) rfl
        refine bodyPost_ret (v := pKind 3) ?_ rfl ?_
        · simp [results, Tryz.f197]
          go_simp
        · rw [← HGo.out, HEnd.out]
          exact ⟨_, j, rfl, rfl, BoxIs.side HRj.out HFn.out.2 hrb, hj, rfl, HSj.out.new HFn.out.2 hrz⟩
end Go.Proofs.YtfenmeacimfiaaaGreatDoor
namespace Go.Proofs.YtfenmeacimfiaaaGreatDoor
open Go.RowKit Wh.G

/-- A part that is no text; none: a text stands there. -/
noncomputable def partR : List UInt8 → Rd (Option GP)
  | [] => .ok none []
  | c :: r =>
    if c = 63 then .ok (some .one) r
    else if c = 42 then (goS 0 (c :: r)).bind (fun kd q => .ok (some (if kd = 4 then .deep else .star)) q)
    else if c = 91 then (setR r).bind (fun p q => .ok (some p) q)
    else if c = 123 then (WL [] r).bind (fun w q => .ok (some (.ways w)) q)
    else .ok none (c :: r)
noncomputable def stepK (d : Bool) (acc : List GP) (o : Option GP) (q : List UInt8) : Rd (List GP) :=
  match o with
  | some p => PL d (acc ++ [p]) q
  | none => (litR q).bind (fun x s => PL d (addT acc x) s)
theorem goS_zero (r : List UInt8) : goS 0 (42 :: r) = if r.head? = some 42 then (if r.tail.head? = some 42 then .bad r.tail else .ok 4 r.tail) else .ok 3 r := by
  cases r with
  | nil => rfl
  | cons x r =>
    by_cases hx : x = 42
    · subst hx
      have h1 : (42 :: r).head? = some (42 : UInt8) := rfl
      rw [if_pos h1]
      cases r with
      | nil => rfl
      | cons y r =>
        by_cases hy : y = 42
        · subst hy
          have h2 : ((42 : UInt8) :: 42 :: r).tail.head? = some 42 := rfl
          rw [if_pos h2]
          rfl
        · have h2 : ¬ ((42 : UInt8) :: y :: r).tail.head? = some 42 := fun e => hy (by injection e)
          rw [if_neg h2]
          simp [goS, hy]
    · have h1 : ¬ (x :: r).head? = some (42 : UInt8) := fun e => hx (by injection e)
      rw [if_neg h1]
      simp [goS, hx]
theorem PL_step (d : Bool) (acc : List GP) (c : UInt8) (r : List UInt8) : PL d acc (c :: r) =
    if d = true ∧ (c = 44 ∨ c = 125) then .ok acc (c :: r) else (partR (c :: r)).bind (stepK d acc) := by
  rw [PL_bind]
  by_cases k1 : d = true ∧ (c = 44 ∨ c = 125)
  · rw [if_pos k1, if_pos k1]
  rw [if_neg k1, if_neg k1]
  simp only [partR]
  by_cases k2 : c = 63
  · rw [if_pos k2, if_pos k2]
    rfl
  rw [if_neg k2, if_neg k2]
  by_cases k3 : c = 42
  · subst k3
    rw [if_pos rfl, if_pos rfl, goS_zero]
    split
    · split
      · rfl
      · rfl
    · rfl
  rw [if_neg k3, if_neg k3]
  by_cases k4 : c = 91
  · rw [if_pos k4, if_pos k4]
    cases setR r <;> rfl
  rw [if_neg k4, if_neg k4]
  by_cases k5 : c = 123
  · rw [if_pos k5, if_pos k5]
    cases WL [] r <;> rfl
  rw [if_neg k5, if_neg k5]
  show _ = (litR (c :: r)).bind (fun x s => PL d (addT acc x) s)
  unfold litR
  by_cases k6 : c = 92
  · subst k6
    rw [if_pos rfl]
    have ht : takeR (92 :: r) = .ok 92 r := rfl
    rw [ht]
    dsimp only
    rw [if_pos rfl]
    cases r with
    | nil => rfl
    | cons x s =>
      have n1 : ¬ (x :: s = []) := by simp
      rw [if_neg n1]
      by_cases hx : x = 0
      · have h0 : (x :: s).head? = some 0 := by rw [hx]; rfl
        rw [if_pos h0]
        simp only [takeR]
        rw [if_pos hx]
        rfl
      · have h0 : ¬ (x :: s).head? = some 0 := fun e => hx (by injection e)
        rw [if_neg h0]
        simp only [takeR]
        rw [if_neg hx]
        rfl
  rw [if_neg k6]
  by_cases k0 : c = 0
  · have ht : takeR (c :: r) = .bad (c :: r) := by simp only [takeR]; rw [if_pos k0]
    rw [if_pos (.inl k0), ht]
    rfl
  · have ht : takeR (c :: r) = .ok c r := by simp only [takeR]; rw [if_neg k0]
    rw [ht]
    dsimp only
    rw [if_neg k6]
    by_cases k7 : c = 93 ∨ c = 125
    · rw [if_pos (.inr k7), if_pos k7]
      rfl
    · rw [if_neg (fun h => h.elim k0 k7), if_neg k7]
      rfl
end Go.Proofs.YtfenmeacimfiaaaGreatDoor
