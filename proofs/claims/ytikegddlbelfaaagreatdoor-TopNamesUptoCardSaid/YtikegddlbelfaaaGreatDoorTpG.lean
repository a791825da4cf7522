/-
  The texts Tp1, Inv, Inv2, Tp2, Tp3, Tp4, Tp5, Tp6, Tp7, Tp8, Tp9, in one.
-/
import Derived.Test.YtikegddlbelfaaaGreatDoorTmG
import Derived.Test.YtikegddlbelfaaaGreatDoorBase
import Derived.Deep.RegionHeld3
import Derived.Shelf.Strings.BuilderK
import Derived.ShutString
namespace Go.Proofs.YtikegddlbelfaaaGreatDoor
open Go.RowKit

theorem MemT.now {w : World} {B : Nat} {M : MB} {s : TSt} (h : MemT w B M s) : w.cell? ⟨M.cb, 0, none⟩ = some (.int .i64 s.now) := h.clk.cell (j := 0) rfl
/-- Only the counts of calls have changed. -/
theorem MemT.counted {w w' : World} {B : Nat} {M : MB} {s : TSt} (h : MemT w B M s) (hk : Kp (fun i => i = M.ca ∨ i = M.si) w w') (hc : Ints14 w' M.ca) (hs : Ints14 w' M.si) : MemT w' B M s := by
  obtain ⟨b1, b2, b3, b4⟩ := h.b_ne
  exact ⟨h.box.kp hk (fun e => e.elim b1 b2), h.clk.kp hk (fun e => e.elim (fun e => h.ca_ne.1 e.symm) (fun e => h.si_ne.1 e.symm)), hc, hs, h.ne1, h.tree.kp hk (fun i hi e => e.elim (fun e => h.ca_ne.2 (e ▸ hi)) (fun e => h.si_ne.2 (e ▸ hi))), h.lo⟩

set_option maxHeartbeats 2000000 in
set_option maxRecDepth 100000 in
theorem callT_any (k : Nat) (hk : k < 14) (w : World) (B : Nat) (M : MB) (s : TSt) (hM : MemT w B M s) :
    Calls Tryz.prog 29 #[ptr M.b, .int .i64 k] w fun e w' => e = .returned (.pointer none) ∧ MemT w' B M s ∧ Kp (fun i => i = M.ca ∨ i = M.si) w w' ∧ w'.heap.size = w.heap.size := by
  have HM := Lib.hid hM
  have c13 := hM.calls
  obtain ⟨⟨z1, d1⟩, f1⟩ := hM.ca.at hk
  have hk2 : (k : Int) < 14 := by omega
  clear hM
  go_enter Tryz.func29, Tryz.ntmps29
  go_upto_region 2 with fail
  generalize wrap64 (z1 + 1) = y1 at *
  have HK1 : Hid (Kp (fun i => i = M.ca ∨ i = M.si) w (w.setCell ⟨M.ca, k, none⟩ (.int .i64 y1))) := Lib.hid ((Kp.refl _ _).set (.inl (.inl rfl)) k _)
  have HM1 : Hid (MemT (w.setCell ⟨M.ca, k, none⟩ (.int .i64 y1)) B M s) := Lib.hid (HM.out.counted HK1.out (HM.out.ca.set k y1) (HM.out.si.kp ((Kp.refl (fun i => i = M.ca) w).set (b := M.ca) (.inl rfl) k _) (fun e => HM.out.ne1 e.symm)))
  have HS1 : Hid ((w.setCell ⟨M.ca, k, none⟩ (.int .i64 y1)).heap.size = w.heap.size) := Lib.hid (by simp [World.setCell])
  clear c13 d1 f1
  generalize w.setCell _ _ = w1 at *
  have c14 := HM1.out.since
  obtain ⟨⟨z2, d2⟩, f2⟩ := HM1.out.si.at hk
  go_upto_region 3 with fail
  generalize wrap64 (z2 + 1) = y2 at *
  have HK2 : Hid (Kp (fun i => i = M.ca ∨ i = M.si) w (w1.setCell ⟨M.si, k, none⟩ (.int .i64 y2))) := Lib.hid (HK1.out.set (.inl (.inr rfl)) k _)
  have HM2 : Hid (MemT (w1.setCell ⟨M.si, k, none⟩ (.int .i64 y2)) B M s) := Lib.hid (HM1.out.counted ((Kp.refl _ _).set (.inl (.inr rfl)) k _) (HM1.out.ca.kp ((Kp.refl (fun i => i = M.si) w1).set (b := M.si) (.inl rfl) k _) HM1.out.ne1) (HM1.out.si.set k y2))
  have HS2 : Hid ((w1.setCell ⟨M.si, k, none⟩ (.int .i64 y2)).heap.size = w.heap.size) := Lib.hid (by rw [← HS1.out]; simp [World.setCell])
  clear c14 d2 f2 HK1 HM1 HS1
  generalize w1.setCell _ _ = w2 at *
  have c15 := HM2.out.faults
  go_wp2_with fail
  go_loopg [30] 0 (fun g i wx => i = .int .i64 0 ∧ wx = w2)
  case atStart => exact ⟨rfl, rfl⟩
  case round =>
    obtain ⟨rfl, rfl⟩ := hrel
    go_wp2_with fail
    go_ret
    exact ⟨rfl, HM2.out, HK2.out, HS2.out⟩

set_option maxHeartbeats 2000000 in
theorem beginT_any (k : Nat) (hk : k < 14) (w : World) (B : Nat) (M : MB) (s : TSt) (hM : MemT w B M s) :
    Calls Tryz.prog 151 #[ptr M.b, .int .i64 k] w fun e w' => e = .returned (.int .i64 0) ∧ MemT w' B M s ∧ Kp (fun i => i = M.ca ∨ i = M.si) w w' ∧ w'.heap.size = w.heap.size := by
  have HC := Lib.hid (callT_any k hk w B M s hM)
  clear hM
  go_enter Tryz.func151, Tryz.ntmps151
  go_wp2_with (go_at_call 29; refine HC.out.mono ?_; rintro e w1 ⟨rfl, h1, h2, h3⟩)
  go_ret
  exact ⟨rfl, h1, h2, h3⟩

/-- The time that a file gets. -/
def tOfT (s : TSt) (t : Int) : Int := max (if hasB s.f 4 then t else s.now) 0 - max (if hasB s.f 4 then t else s.now) 0 % s.f.prec
set_option maxHeartbeats 2000000 in
set_option maxRecDepth 100000 in
theorem timeOfT_any (t : Int) (w : World) (B : Nat) (M : MB) (s : TSt) (hM : MemT w B M s) (ht : -9223372036854775808 ≤ t ∧ t ≤ 9223372036854775807) (hn : -9223372036854775808 ≤ s.now ∧ s.now ≤ 9223372036854775807) (hp : 1 ≤ s.f.prec ∧ s.f.prec ≤ 9223372036854775807) :
    Calls Tryz.prog 63 #[ptr M.b, .int .i64 t] w fun e w' => e = .returned (.int .i64 (tOfT s t)) ∧ w' = w := by
  have HH := Lib.hid (has_any M.b s.f 4 w hM.has)
  have HN := Lib.hid (nowM_any M.cb s.now w hM.now)
  have hd : ∀ b, tOfT s t = if b = hasB s.f 4 then max (if b then t else s.now) 0 - max (if b then t else s.now) 0 % s.f.prec else tOfT s t := fun b => by
    split
    · rename_i h; rw [h]; rfl
    · rfl
  have HD := Lib.hid hd
  have c9 := hM.clock
  have c2 := hM.prec
  generalize hasB s.f 4 = b at *
  clear hM hd
  cases b
  · obtain ⟨m, hm⟩ : ∃ m, max s.now 0 = m := ⟨_, rfl⟩
    have HT := Lib.hid (truncate_any m s.f.prec w (by omega) (by omega))
    have HR : Hid (tOfT s t = m - m % s.f.prec) := Lib.hid (by rw [HD.out false, if_pos rfl, ← hm]; rfl)
    have hm0 : 0 ≤ m := by omega
    go_enter Tryz.func63, Tryz.ntmps63
    go_wp2_with (first | (go_at_call 32; refine HH.out.mono ?_; rintro e w' ⟨rfl, rfl⟩) | (go_at_call 92; refine HN.out.mono ?_; rintro e w' ⟨rfl, rfl⟩) | (go_at_call 93; refine HT.out.mono ?_; rintro e w' ⟨r, rfl, rfl, hr1, hr2⟩))
    go_ret
    exact ⟨ret_int (by rw [HR.out, hr2 hp.1 (by omega)]), rfl⟩
  · obtain ⟨m, hm⟩ : ∃ m, max t 0 = m := ⟨_, rfl⟩
    have HT := Lib.hid (truncate_any m s.f.prec w (by omega) (by omega))
    have HR : Hid (tOfT s t = m - m % s.f.prec) := Lib.hid (by rw [HD.out true, if_pos rfl, ← hm]; rfl)
    have hm0 : 0 ≤ m := by omega
    go_enter Tryz.func63, Tryz.ntmps63
    go_wp2_with (first | (go_at_call 32; refine HH.out.mono ?_; rintro e w' ⟨rfl, rfl⟩) | (go_at_call 92; refine HN.out.mono ?_; rintro e w' ⟨rfl, rfl⟩) | (go_at_call 93; refine HT.out.mono ?_; rintro e w' ⟨r, rfl, rfl, hr1, hr2⟩))
    go_ret
    exact ⟨ret_int (by rw [HR.out, hr2 hp.1 (by omega)]), rfl⟩

end Go.Proofs.YtikegddlbelfaaaGreatDoor
namespace Go.Proofs.YtikegddlbelfaaaGreatDoor
open Go.RowKit

section
variable {P : Program} {ops : Array Oper} {Q : Exit → Act → World → Prop} {md : Region.Mode}

/-- How many have not come up. -/
def unl (listed : Array Bool) : Nat := listed.toList.countP (!·)

theorem unl_set {listed : Array Bool} {i : Nat} (h : listed.getD i true = false) : unl (listed.setIfInBounds i true) + 1 = unl listed := by
  have hlt : i < listed.size := by
    rcases Nat.lt_or_ge i listed.size with h' | h'
    · exact h'
    · simp [Array.getElem?_eq_none h'] at h
  have hv : listed.toList[i]'(by simpa using hlt) = false := by
    simp [hlt] at h
    simpa using h
  unfold unl
  rw [Array.toList_setIfInBounds, List.countP_set (h := by simpa using hlt), hv]
  have : 0 < listed.toList.countP (!·) := List.countP_pos_iff.2 ⟨false, by rw [← hv]; exact List.getElem_mem _, rfl⟩
  simp only [Bool.not_false, Bool.not_true, if_true, Bool.false_eq_true, if_false]
  omega

theorem unl_none {listed : Array Bool} (h : unl listed = 0) (i : Nat) : listed.getD i true = true := by
  rcases Nat.lt_or_ge i listed.size with h' | h'
  · have hx := List.countP_eq_zero.1 h (listed[i]'h') (by simp)
    simp at hx
    simp [h', hx]
  · simp [Array.getElem?_eq_none h']

/-- Each operation waits for earlier ones alone. -/
def topoOk (ops : Array Oper) : Bool := (List.range ops.size).all fun i => match ops[i]? with | some o => o.after.all (fun e => decide (e.on < i)) | none => true

theorem topoOk_spec (h : topoOk ops = true) {i : Nat} {o : Oper} (ho : ops[i]? = some o) : ∀ e ∈ o.after, e.on < i := by
  intro e he
  have hi := (Array.getElem?_eq_some_iff.1 ho).1
  have h1 := List.all_eq_true.1 h i (List.mem_range.2 hi)
  rw [ho] at h1
  have h2 := Array.all_eq_true_iff_forall_mem.1 h1 e he
  exact of_decide_eq_true h2

theorem all_listed (ht : topoOk ops = true) {listed : Array Bool} (hs : listed.size = ops.size) (hr : Region.ready md ops listed = []) : ∀ i, i < ops.size → listed.getD i false = true := by
  intro i
  induction i using Nat.strongRecOn with
  | _ i ih =>
    intro hi
    have ho : ops[i]? = some ops[i] := Array.getElem?_eq_getElem hi
    cases hl : listed.getD i false with
    | true => rfl
    | false =>
      have hl2 : listed.getD i true = false := by
        have hlt : i < listed.size := by omega
        simp [hlt] at hl ⊢
        exact hl
      have : i ∈ Region.ready md ops listed := mem_ready.2 ⟨hl2, _, ho, fun e he _ => ih e.on (topoOk_spec ht ho e he) (Nat.lt_trans (topoOk_spec ht ho e he) hi)⟩
      rw [hr] at this
      cases this

theorem wpAny_inv {Inv : (Nat → Prop) → Act → World → Prop} (ht : topoOk ops = true)
    (hstep : ∀ i o, ops[i]? = some o → ∀ (L : Nat → Prop) a w, Inv L a w → (∀ e ∈ o.after, Region.binds md e = true → L e.on) →
      ∀ K : Act → World → Prop, Shut (∀ a w, (∀ L' : Nat → Prop, (∀ j, L' j → j = i ∨ L j) → Inv L' a w) → K a w) → if Region.wanted o (yielded ops a.tmps) = true then Oper.wp P o a w K Q else K (a.put o.dst undef) w)
    (hdone : ∀ L a w, Inv L a w → (∀ i, i < ops.size → L i) → Q .normal a w) :
    ∀ (fuel : Nat) (listed : Array Bool) (a : Act) (w : World), listed.size = ops.size → unl listed ≤ fuel → Inv (fun j => listed.getD j false = true) a w → wpAny P md ops Q fuel listed a w := by
  intro fuel
  induction fuel with
  | zero =>
    intro listed a w hs hu hI
    have hr : Region.ready md ops listed = [] := by
      rw [List.eq_nil_iff_forall_not_mem]
      intro i hi
      have := (mem_ready.1 hi).1
      rw [unl_none (by omega) i] at this
      cases this
    exact ⟨hr, hdone _ a w hI (all_listed ht hs hr)⟩
  | succ fuel ih =>
    intro listed a w hs hu hI
    refine ⟨fun hr => hdone _ a w hI (all_listed ht hs hr), fun i hi => ?_⟩
    obtain ⟨hun, o, ho, hall⟩ := mem_ready.1 hi
    refine wpOp_step ho fun K hK => hstep i o ho _ a w hI hall K (fun a' w' h => hK a' w' ?_)
    refine ih _ a' w' (by simpa using hs) (by have := unl_set hun; omega) (h _ fun j hj => ?_)
    by_cases hji : j = i
    · exact .inl hji
    · rw [getD_set_ne false (Ne.symm hji)] at hj
      exact .inr hj

/-- The beginning. -/
theorem wp_region_inv (Inv : (Nat → Prop) → Act → World → Prop) {id : Nat} {a : Act} {w : World} (hm : P.follows .mixedOrders = true) (ht : topoOk ops = true) (h0 : Inv (fun _ => False) a w.drew)
    (hstep : ∀ i o, ops[i]? = some o → ∀ (L : Nat → Prop) a w, Inv L a w → (∀ e ∈ o.after, Region.binds .any e = true → L e.on) →
      ∀ K : Act → World → Prop, Shut (∀ a w, (∀ L' : Nat → Prop, (∀ j, L' j → j = i ∨ L j) → Inv L' a w) → K a w) → if Region.wanted o (yielded ops a.tmps) = true then Oper.wp P o a w K Q else K (a.put o.dst undef) w)
    (hdone : ∀ L a w, Inv L a w → (∀ i, i < ops.size → L i) → Q .normal a w) : (Code.region id ops true).wp P Q a w := by
  refine wp_region_any hm (wpAny_inv ht hstep hdone _ _ _ _ (by simp) (by unfold unl; exact Nat.le_trans List.countP_le_length (by simp)) ?_)
  have e : (fun j => (Array.replicate ops.size false).getD j false = true) = fun _ : Nat => False := by
    funext j
    simp [Array.getElem?_replicate]
    split <;> simp
  rw [e]
  exact h0
end
end Go.Proofs.YtikegddlbelfaaaGreatDoor
namespace Go.Proofs.YtikegddlbelfaaaGreatDoor
open Go.RowKit

section
variable {P : Program} {ops : Array Oper} {Q : Exit → Act → World → Prop} {md : Region.Mode}

theorem listed_set {listed : Array Bool} {i : Nat} (h : listed.getD i true = false) : (fun j => (listed.setIfInBounds i true).getD j false = true) = fun j => j = i ∨ listed.getD j false = true := by
  have hlt : i < listed.size := by
    rcases Nat.lt_or_ge i listed.size with h' | h'
    · exact h'
    · simp [Array.getElem?_eq_none h'] at h
  funext j
  apply propext
  by_cases hji : j = i
  · subst hji
    simp [hlt]
  · rw [getD_set_ne false (Ne.symm hji)]
    simp [hji]

theorem wpAny_inv2 {Inv : (Nat → Prop) → Act → World → Prop} (ht : topoOk ops = true)
    (hstep : ∀ i o, ops[i]? = some o → ∀ (L : Nat → Prop) a w, Inv L a w → ¬ L i → (∀ e ∈ o.after, Region.binds md e = true → L e.on) →
      ∀ K : Act → World → Prop, Shut (∀ a w, Inv (fun j => j = i ∨ L j) a w → K a w) → if Region.wanted o (yielded ops a.tmps) = true then Oper.wp P o a w K Q else K (a.put o.dst undef) w)
    (hdone : ∀ L a w, Inv L a w → (∀ i, i < ops.size → L i) → Q .normal a w) :
    ∀ (fuel : Nat) (listed : Array Bool) (a : Act) (w : World), listed.size = ops.size → unl listed ≤ fuel → Inv (fun j => listed.getD j false = true) a w → wpAny P md ops Q fuel listed a w := by
  intro fuel
  induction fuel with
  | zero =>
    intro listed a w hs hu hI
    have hr : Region.ready md ops listed = [] := by
      rw [List.eq_nil_iff_forall_not_mem]
      intro i hi
      have := (mem_ready.1 hi).1
      rw [unl_none (by omega) i] at this
      cases this
    exact ⟨hr, hdone _ a w hI (all_listed ht hs hr)⟩
  | succ fuel ih =>
    intro listed a w hs hu hI
    refine ⟨fun hr => hdone _ a w hI (all_listed ht hs hr), fun i hi => ?_⟩
    obtain ⟨hun, o, ho, hall⟩ := mem_ready.1 hi
    have hnot : ¬ listed.getD i false = true := by
      intro h
      rcases Nat.lt_or_ge i listed.size with h' | h'
      · simp [h'] at hun h
        rw [hun] at h
        cases h
      · simp [Array.getElem?_eq_none h'] at h
    refine wpOp_step ho fun K hK => hstep i o ho _ a w hI hnot hall K (fun a' w' h => hK a' w' ?_)
    refine ih _ a' w' (by simpa using hs) (by have := unl_set hun; omega) ?_
    rw [listed_set hun]
    exact h

/-- The beginning. -/
theorem wp_region_inv2 (Inv : (Nat → Prop) → Act → World → Prop) {id : Nat} {a : Act} {w : World} (hm : P.follows .mixedOrders = true) (ht : topoOk ops = true) (h0 : Inv (fun _ => False) a w.drew)
    (hstep : ∀ i o, ops[i]? = some o → ∀ (L : Nat → Prop) a w, Inv L a w → ¬ L i → (∀ e ∈ o.after, Region.binds .any e = true → L e.on) →
      ∀ K : Act → World → Prop, Shut (∀ a w, Inv (fun j => j = i ∨ L j) a w → K a w) → if Region.wanted o (yielded ops a.tmps) = true then Oper.wp P o a w K Q else K (a.put o.dst undef) w)
    (hdone : ∀ L a w, Inv L a w → (∀ i, i < ops.size → L i) → Q .normal a w) : (Code.region id ops true).wp P Q a w := by
  refine wp_region_any hm (wpAny_inv2 ht hstep hdone _ _ _ _ (by simp) (by unfold unl; exact Nat.le_trans List.countP_le_length (by simp)) ?_)
  have e : (fun j => (Array.replicate ops.size false).getD j false = true) = fun _ : Nat => False := by
    funext j
    simp [Array.getElem?_replicate]
    split <;> simp
  rw [e]
  exact h0
end
end Go.Proofs.YtikegddlbelfaaaGreatDoor
namespace Go.Proofs.YtikegddlbelfaaaGreatDoor
open Go.RowKit

abbrev infoArr (A : ByteArray) (dir : Bool) (size time : Int) (sums : Value) (id : ByteArray) : Array Value := #[.string A, .bool dir, .int .i64 size, .int .i64 time, sums, .slice none 0 0, .string id]
abbrev info0 : Array Value := infoArr ⟨#[]⟩ false 0 0 (.slice none 0 0) ⟨#[]⟩
abbrev info1 (A : ByteArray) (d : Bool) : Array Value := infoArr A d 0 0 (.slice none 0 0) ⟨#[]⟩
theorem info_cells {w : World} {b : Nat} {A id : ByteArray} {d : Bool} {n t : Int} {v : Value} (h : BoxIs w b (infoArr A d n t v id) 43) : w.cell? ⟨b, 0, none⟩ = some (.string A) ∧ w.cell? ⟨b, 1, none⟩ = some (.bool d) ∧ w.cell? ⟨b, 2, none⟩ = some (.int .i64 n) ∧ w.cell? ⟨b, 3, none⟩ = some (.int .i64 t) ∧ w.cell? ⟨b, 4, none⟩ = some v ∧ w.cell? ⟨b, 5, none⟩ = some (.slice none 0 0) ∧ w.cell? ⟨b, 6, none⟩ = some (.string id) :=
  ⟨h.cell (j := 0) rfl, h.cell (j := 1) rfl, h.cell (j := 2) rfl, h.cell (j := 3) rfl, h.cell (j := 4) rfl, h.cell (j := 5) rfl, h.cell (j := 6) rfl⟩
theorem info_room {w : World} {b : Nat} {A id : ByteArray} {d : Bool} {n t : Int} {v : Value} (h : BoxIs w b (infoArr A d n t v id) 43) : (w.cell? ⟨b, 0, none⟩ = some (.string A) ∧ w.cell? ⟨b, 1, none⟩ = some (.bool d) ∧ w.cell? ⟨b, 2, none⟩ = some (.int .i64 n) ∧ w.cell? ⟨b, 3, none⟩ = some (.int .i64 t) ∧ w.cell? ⟨b, 4, none⟩ = some v ∧ w.cell? ⟨b, 5, none⟩ = some (.slice none 0 0) ∧ w.cell? ⟨b, 6, none⟩ = some (.string id)) ∧
    w.frozen? ⟨b, 0, none⟩ = false ∧ w.frozen? ⟨b, 1, none⟩ = false ∧ w.frozen? ⟨b, 2, none⟩ = false ∧ w.frozen? ⟨b, 3, none⟩ = false ∧ w.frozen? ⟨b, 4, none⟩ = false ∧ w.frozen? ⟨b, 5, none⟩ = false ∧ w.frozen? ⟨b, 6, none⟩ = false :=
  ⟨info_cells h, Lib.frozen_of_heap h 0, Lib.frozen_of_heap h 1, Lib.frozen_of_heap h 2, Lib.frozen_of_heap h 3, Lib.frozen_of_heap h 4, Lib.frozen_of_heap h 5, Lib.frozen_of_heap h 6⟩
def InfoD (A : ByteArray) (w : World) : Ending → World → Prop := fun e w' => e = .returned (.agg (info1 A true)) ∧ Below w.heap.size w w'
/-- What the first region of info has done: L tells which operations have been carried out. -/
structure IJ (w : World) (b nb rz : Nat) (A : ByteArray) (d : Bool) (L : Nat → Prop) (w' : World) (v5 v10 v11 v12 v13 v14 v15 v16 : Value) : Prop where
  bel : Below w.heap.size w w'
  box : BoxIs w' rz info0 43
  q0 : L 0 → v10 = ptr nb
  q1 : L 1 → v11 = .string A
  q2 : L 2 → v12 = ptr nb
  q3 : L 3 → v13 = .pointer (some ⟨nb, 0, none⟩)
  q4 : L 4 → v14 = .pointer (some ⟨nb, 1, none⟩)
  q5 : L 5 → v15 = .bool d
  q6 : L 6 → v16 = .agg (info1 A d)
  q7 : L 7 → ∃ (x : Nat) (arr : Array Value), v5 = ptr x ∧ w.heap.size ≤ x ∧ rz ≠ x ∧ BoxIs w' x arr 43 ∧ arr.size = 7 ∧ (L 8 → arr = info1 A d)
  q8 : L 8 → L 7
def IJa (w : World) (b nb rz : Nat) (A : ByteArray) (d : Bool) (L : Nat → Prop) (a' : Act) (w' : World) : Prop :=
  ∃ v5 v10 v11 v12 v13 v14 v15 v16, a' = ⟨#[ptr b, ptr nb, undef, undef, ptr rz, v5, undef, undef, undef, undef, v10, v11, v12, v13, v14, v15, v16, undef, undef, undef, undef, undef, undef, undef, undef, undef, undef, undef, undef, undef, undef, undef, undef, undef, undef, undef, undef, undef, undef, undef, undef, undef, undef, undef, undef, undef, undef, undef, undef, undef, undef, undef, undef, undef, undef, undef, undef, undef, undef, undef, undef, undef, undef, undef, undef, undef, undef, undef, undef, undef, undef, undef, undef, undef, undef, undef, undef, undef, undef, undef], []⟩ ∧ IJ w b nb rz A d L w' v5 v10 v11 v12 v13 v14 v15 v16
theorem seven_cells {arr : Array Value} (h : arr.size = 7) : ∃ u0 u1 u2 u3 u4 u5 u6, arr = #[u0, u1, u2, u3, u4, u5, u6] := by
  obtain ⟨l⟩ := arr
  match l, h with
  | [a, b, c, d, e, f, g], _ => exact ⟨a, b, c, d, e, f, g, rfl⟩
theorem BoxIs.put7 {w : World} {x : Nat} {t : TypeId} {u0 u1 u2 u3 u4 u5 u6 a0 a1 a2 a3 a4 a5 a6 : Value} (h : BoxIs w x #[u0, u1, u2, u3, u4, u5, u6] t) :
    BoxIs (((((((w.setCell ⟨x, 0, none⟩ a0).setCell ⟨x, 1, none⟩ a1).setCell ⟨x, 2, none⟩ a2).setCell ⟨x, 3, none⟩ a3).setCell ⟨x, 4, none⟩ a4).setCell ⟨x, 5, none⟩ a5).setCell ⟨x, 6, none⟩ a6) x #[a0, a1, a2, a3, a4, a5, a6] t := by
  have h0 : BoxIs _ x #[a0, u1, u2, u3, u4, u5, u6] t := h.putAt 0 a0
  have h1 : BoxIs _ x #[a0, a1, u2, u3, u4, u5, u6] t := h0.putAt 1 a1
  have h2 : BoxIs _ x #[a0, a1, a2, u3, u4, u5, u6] t := h1.putAt 2 a2
  have h3 : BoxIs _ x #[a0, a1, a2, a3, u4, u5, u6] t := h2.putAt 3 a3
  have h4 : BoxIs _ x #[a0, a1, a2, a3, a4, u5, u6] t := h3.putAt 4 a4
  have h5 : BoxIs _ x #[a0, a1, a2, a3, a4, a5, u6] t := h4.putAt 5 a5
  exact h5.putAt 6 a6
section
variable {w w' w'' : World} {b nb rz : Nat} {A : ByteArray} {d : Bool} {L : Nat → Prop} {v5 v10 v11 v12 v13 v14 v15 v16 : Value}
theorem IJ.up (h : IJ w b nb rz A d L w' v5 v10 v11 v12 v13 v14 v15 v16) (hb : Below w'.heap.size w' w'') : IJ w b nb rz A d L w'' v5 v10 v11 v12 v13 v14 v15 v16 := by
  refine ⟨bTrans h.bel hb, h.box.under hb, h.q0, h.q1, h.q2, h.q3, h.q4, h.q5, h.q6, fun l => ?_, h.q8⟩
  obtain ⟨x, arr, h1, h2, h3, h4, h5⟩ := h.q7 l
  exact ⟨x, arr, h1, h2, h3, h4.under hb, h5⟩
theorem IJ.start (h1 : Below w.heap.size w w') (h2 : BoxIs w' rz info0 43) : IJ w b nb rz A d (fun _ => False) w'.drew undef undef undef undef undef undef undef undef :=
  ⟨⟨h1.os, h1.tape, h1.output, h1.size, h1.block⟩, h2, fun h => h.elim, fun h => h.elim, fun h => h.elim, fun h => h.elim, fun h => h.elim, fun h => h.elim, fun h => h.elim, fun h => h.elim, fun h => h.elim⟩
theorem IJ.s0 (h : IJ w b nb rz A d L w' v5 v10 v11 v12 v13 v14 v15 v16)  : IJ w b nb rz A d (fun j => j = 0 ∨ L j) w' v5 (ptr nb) v11 v12 v13 v14 v15 v16 := by
  refine ⟨h.bel, h.box, fun _ => rfl, fun l => h.q1 (l.resolve_left (by decide)), fun l => h.q2 (l.resolve_left (by decide)), fun l => h.q3 (l.resolve_left (by decide)), fun l => h.q4 (l.resolve_left (by decide)), fun l => h.q5 (l.resolve_left (by decide)), fun l => h.q6 (l.resolve_left (by decide)), fun l => by
    obtain ⟨x, arr, h1, h2, h3, h4, h5, h6⟩ := h.q7 (l.resolve_left (by decide))
    exact ⟨x, arr, h1, h2, h3, h4, h5, fun l8 => h6 (l8.resolve_left (by decide))⟩, fun l => .inr (h.q8 (l.resolve_left (by decide)))⟩
theorem IJ.s1 (h : IJ w b nb rz A d L w' v5 v10 v11 v12 v13 v14 v15 v16)  : IJ w b nb rz A d (fun j => j = 1 ∨ L j) w' v5 v10 (.string A) v12 v13 v14 v15 v16 := by
  refine ⟨h.bel, h.box, fun l => h.q0 (l.resolve_left (by decide)), fun _ => rfl, fun l => h.q2 (l.resolve_left (by decide)), fun l => h.q3 (l.resolve_left (by decide)), fun l => h.q4 (l.resolve_left (by decide)), fun l => h.q5 (l.resolve_left (by decide)), fun l => h.q6 (l.resolve_left (by decide)), fun l => by
    obtain ⟨x, arr, h1, h2, h3, h4, h5, h6⟩ := h.q7 (l.resolve_left (by decide))
    exact ⟨x, arr, h1, h2, h3, h4, h5, fun l8 => h6 (l8.resolve_left (by decide))⟩, fun l => .inr (h.q8 (l.resolve_left (by decide)))⟩
theorem IJ.s2 (h : IJ w b nb rz A d L w' v5 v10 v11 v12 v13 v14 v15 v16)  : IJ w b nb rz A d (fun j => j = 2 ∨ L j) w' v5 v10 v11 (ptr nb) v13 v14 v15 v16 := by
  refine ⟨h.bel, h.box, fun l => h.q0 (l.resolve_left (by decide)), fun l => h.q1 (l.resolve_left (by decide)), fun _ => rfl, fun l => h.q3 (l.resolve_left (by decide)), fun l => h.q4 (l.resolve_left (by decide)), fun l => h.q5 (l.resolve_left (by decide)), fun l => h.q6 (l.resolve_left (by decide)), fun l => by
    obtain ⟨x, arr, h1, h2, h3, h4, h5, h6⟩ := h.q7 (l.resolve_left (by decide))
    exact ⟨x, arr, h1, h2, h3, h4, h5, fun l8 => h6 (l8.resolve_left (by decide))⟩, fun l => .inr (h.q8 (l.resolve_left (by decide)))⟩
theorem IJ.s3 (h : IJ w b nb rz A d L w' v5 v10 v11 v12 v13 v14 v15 v16)  : IJ w b nb rz A d (fun j => j = 3 ∨ L j) w' v5 v10 v11 v12 (.pointer (some ⟨nb, 0, none⟩)) v14 v15 v16 := by
  refine ⟨h.bel, h.box, fun l => h.q0 (l.resolve_left (by decide)), fun l => h.q1 (l.resolve_left (by decide)), fun l => h.q2 (l.resolve_left (by decide)), fun _ => rfl, fun l => h.q4 (l.resolve_left (by decide)), fun l => h.q5 (l.resolve_left (by decide)), fun l => h.q6 (l.resolve_left (by decide)), fun l => by
    obtain ⟨x, arr, h1, h2, h3, h4, h5, h6⟩ := h.q7 (l.resolve_left (by decide))
    exact ⟨x, arr, h1, h2, h3, h4, h5, fun l8 => h6 (l8.resolve_left (by decide))⟩, fun l => .inr (h.q8 (l.resolve_left (by decide)))⟩
theorem IJ.s4 (h : IJ w b nb rz A d L w' v5 v10 v11 v12 v13 v14 v15 v16)  : IJ w b nb rz A d (fun j => j = 4 ∨ L j) w' v5 v10 v11 v12 v13 (.pointer (some ⟨nb, 1, none⟩)) v15 v16 := by
  refine ⟨h.bel, h.box, fun l => h.q0 (l.resolve_left (by decide)), fun l => h.q1 (l.resolve_left (by decide)), fun l => h.q2 (l.resolve_left (by decide)), fun l => h.q3 (l.resolve_left (by decide)), fun _ => rfl, fun l => h.q5 (l.resolve_left (by decide)), fun l => h.q6 (l.resolve_left (by decide)), fun l => by
    obtain ⟨x, arr, h1, h2, h3, h4, h5, h6⟩ := h.q7 (l.resolve_left (by decide))
    exact ⟨x, arr, h1, h2, h3, h4, h5, fun l8 => h6 (l8.resolve_left (by decide))⟩, fun l => .inr (h.q8 (l.resolve_left (by decide)))⟩
theorem IJ.s5 (h : IJ w b nb rz A d L w' v5 v10 v11 v12 v13 v14 v15 v16)  : IJ w b nb rz A d (fun j => j = 5 ∨ L j) w' v5 v10 v11 v12 v13 v14 (.bool d) v16 := by
  refine ⟨h.bel, h.box, fun l => h.q0 (l.resolve_left (by decide)), fun l => h.q1 (l.resolve_left (by decide)), fun l => h.q2 (l.resolve_left (by decide)), fun l => h.q3 (l.resolve_left (by decide)), fun l => h.q4 (l.resolve_left (by decide)), fun _ => rfl, fun l => h.q6 (l.resolve_left (by decide)), fun l => by
    obtain ⟨x, arr, h1, h2, h3, h4, h5, h6⟩ := h.q7 (l.resolve_left (by decide))
    exact ⟨x, arr, h1, h2, h3, h4, h5, fun l8 => h6 (l8.resolve_left (by decide))⟩, fun l => .inr (h.q8 (l.resolve_left (by decide)))⟩
theorem IJ.s6 (h : IJ w b nb rz A d L w' v5 v10 v11 v12 v13 v14 v15 v16)  : IJ w b nb rz A d (fun j => j = 6 ∨ L j) w' v5 v10 v11 v12 v13 v14 v15 (.agg (info1 A d)) := by
  refine ⟨h.bel, h.box, fun l => h.q0 (l.resolve_left (by decide)), fun l => h.q1 (l.resolve_left (by decide)), fun l => h.q2 (l.resolve_left (by decide)), fun l => h.q3 (l.resolve_left (by decide)), fun l => h.q4 (l.resolve_left (by decide)), fun l => h.q5 (l.resolve_left (by decide)), fun _ => rfl, fun l => by
    obtain ⟨x, arr, h1, h2, h3, h4, h5, h6⟩ := h.q7 (l.resolve_left (by decide))
    exact ⟨x, arr, h1, h2, h3, h4, h5, fun l8 => h6 (l8.resolve_left (by decide))⟩, fun l => .inr (h.q8 (l.resolve_left (by decide)))⟩
theorem IJ.s7 (h : IJ w b nb rz A d L w' v5 v10 v11 v12 v13 v14 v15 v16) (h7 : ¬ L 7) : IJ w b nb rz A d (fun j => j = 7 ∨ L j) (w'.alloc (.cells info0 43)) (ptr w'.heap.size) v10 v11 v12 v13 v14 v15 v16 := by
  have hb := bAlloc (Below.refl w'.heap.size w') (.cells info0 43)
  refine ⟨bTrans h.bel hb, h.box.under hb, fun l => h.q0 (l.resolve_left (by decide)), fun l => h.q1 (l.resolve_left (by decide)), fun l => h.q2 (l.resolve_left (by decide)), fun l => h.q3 (l.resolve_left (by decide)), fun l => h.q4 (l.resolve_left (by decide)), fun l => h.q5 (l.resolve_left (by decide)), fun l => h.q6 (l.resolve_left (by decide)), fun _ => ⟨w'.heap.size, info0, rfl, h.bel.size, by have := h.box.lt; omega, BoxIs.new _ _ _, rfl, fun l8 => absurd (h.q8 (l8.resolve_left (by decide))) h7⟩, fun _ => .inl rfl⟩
theorem IJ.s8 (h : IJ w b nb rz A d L w' v5 v10 v11 v12 v13 v14 v15 v16) (d7 : L 7) {x : Nat} {arr : Array Value} (h1 : v5 = ptr x) (h2 : w.heap.size ≤ x) (h3 : rz ≠ x) (h4 : BoxIs w' x arr 43) (h5 : arr.size = 7) :
    IJ w b nb rz A d (fun j => j = 8 ∨ L j) (((((((w'.setCell ⟨x, 0, none⟩ (.string A)).setCell ⟨x, 1, none⟩ (.bool d)).setCell ⟨x, 2, none⟩ (.int .i64 0)).setCell ⟨x, 3, none⟩ (.int .i64 0)).setCell ⟨x, 4, none⟩ (.slice none 0 0)).setCell ⟨x, 5, none⟩ (.slice none 0 0)).setCell ⟨x, 6, none⟩ (.string ⟨#[]⟩)) v5 v10 v11 v12 v13 v14 v15 v16 := by
  have hk : Kp (fun i => i = x) w' (((((((w'.setCell ⟨x, 0, none⟩ (.string A)).setCell ⟨x, 1, none⟩ (.bool d)).setCell ⟨x, 2, none⟩ (.int .i64 0)).setCell ⟨x, 3, none⟩ (.int .i64 0)).setCell ⟨x, 4, none⟩ (.slice none 0 0)).setCell ⟨x, 5, none⟩ (.slice none 0 0)).setCell ⟨x, 6, none⟩ (.string ⟨#[]⟩)) :=
    (((((((Kp.refl (fun i => i = x) w').set (b := x) (.inl rfl) 0 _).set (b := x) (.inl rfl) 1 _).set (b := x) (.inl rfl) 2 _).set (b := x) (.inl rfl) 3 _).set (b := x) (.inl rfl) 4 _).set (b := x) (.inl rfl) 5 _).set (b := x) (.inl rfl) 6 _
  obtain ⟨u0, u1, u2, u3, u4, u5, u6, rfl⟩ := seven_cells h5
  refine ⟨h.bel.trans (hk.below (fun i e => by rw [e]; exact h2) h.bel.size), h.box.kp hk h3, fun l => h.q0 (l.resolve_left (by decide)), fun l => h.q1 (l.resolve_left (by decide)), fun l => h.q2 (l.resolve_left (by decide)), fun l => h.q3 (l.resolve_left (by decide)), fun l => h.q4 (l.resolve_left (by decide)), fun l => h.q5 (l.resolve_left (by decide)), fun l => h.q6 (l.resolve_left (by decide)), fun _ => ⟨x, info1 A d, h1, h2, h3, h4.put7, rfl, fun _ => rfl⟩, fun _ => .inr d7⟩
end
set_option maxHeartbeats 4000000 in
set_option maxRecDepth 100000 in
theorem infoT_dir (w : World) (B : Nat) (M : MB) (s : TSt) (rk : List ByteArray) (n : Nd) (hM : MemT w B M s) (hn : s.F rk.reverse = some n) (hkl : klen rk ≤ 4096) (hd : n.dir = true) :
    Calls Tryz.prog 61 #[ptr M.b, ptr n.b] w (InfoD (pathR s.F rk) w) := by
  have HP := Lib.hid (fun W (hb : Below w.heap.size w W) => pathT_any B M.rb s.f s.F rk n W (hM.tree.under hb) hn hkl)
  have HC := Lib.hid (fun W (hb : Below w.heap.size w W) => (nd_cells ((hM.tree.under hb).box _ _ hn).1).2.1)
  rw [hd] at HC
  generalize pathR s.F rk = A at *
  generalize n.b = nb at *
  generalize M.b = b at *
  clear hM hn hkl hd
  go_enter Tryz.func61, Tryz.ntmps61
  go_upto_region 1 with fail
  have hb1 : Below w.heap.size w (w.alloc (.cells info0 43)) := bAlloc (Below.refl _ _) _
  have hx1 : BoxIs (w.alloc (.cells info0 43)) w.heap.size info0 43 := heap_alloc_new _ _
  obtain ⟨rz, hrz⟩ : ∃ rz, rz = w.heap.size := ⟨_, rfl⟩
  rw [← hrz] at hx1 ⊢
  have HRZ := Lib.hid hrz
  have HX1 := Lib.hid hx1
  have HB1 := Lib.hid hb1
  clear hrz hx1 hb1
  generalize w.alloc _ = w1 at *
  go_cut [5] (fun s5 wx => (∃ x, s5 = ptr x ∧ rz ≠ x ∧ BoxIs wx x (info1 A true) 43) ∧ BoxIs wx rz info0 43 ∧ Below w.heap.size w wx)
  case first =>
    refine wp_region_inv2 (IJa w b nb rz A true) (by kernel_rfl) (by kernel_rfl) ?_ ?_ ?_
    · exact ⟨_, _, _, _, _, _, _, _, rfl, IJ.start (HB1.out) (HX1.out)⟩
    · intro i o ho L a' w' hI hnl hd K hK
      rcases i with _ | _ | _ | _ | _ | _ | _ | _ | _ | i
      · obtain rfl : o = ⟨_, _, _, _, _, _⟩ := (Option.some.inj ho).symm
        obtain ⟨v5, v10, v11, v12, v13, v14, v15, v16, rfl, hN⟩ := hI
        rw [if_pos (by rfl)]
        have HN := Lib.hid hN
        clear hN hd
        go_wp2_with fail
        exact hK.out _ _ ⟨_, _, _, _, _, _, _, _, rfl, HN.out.s0⟩
      · obtain rfl : o = ⟨_, _, _, _, _, _⟩ := (Option.some.inj ho).symm
        obtain ⟨v5, v10, v11, v12, v13, v14, v15, v16, rfl, hN⟩ := hI
        simp [Region.binds] at hd
        have d0 := hd
        have e0 := hN.q0 d0
        subst e0
        rw [if_pos (by rfl)]
        have HN := Lib.hid hN
        clear hN hd
        go_wp2_with (go_at_call 83; refine (HP.out _ HN.out.bel).mono ?_; rintro e w9 ⟨rfl, hb9⟩; have HN9 := Lib.hid (HN.out.up hb9))
        exact hK.out _ _ ⟨_, _, _, _, _, _, _, _, rfl, HN9.out.s1⟩
      · obtain rfl : o = ⟨_, _, _, _, _, _⟩ := (Option.some.inj ho).symm
        obtain ⟨v5, v10, v11, v12, v13, v14, v15, v16, rfl, hN⟩ := hI
        rw [if_pos (by rfl)]
        have HN := Lib.hid hN
        clear hN hd
        go_wp2_with fail
        exact hK.out _ _ ⟨_, _, _, _, _, _, _, _, rfl, HN.out.s2⟩
      · obtain rfl : o = ⟨_, _, _, _, _, _⟩ := (Option.some.inj ho).symm
        obtain ⟨v5, v10, v11, v12, v13, v14, v15, v16, rfl, hN⟩ := hI
        simp [Region.binds] at hd
        have d2 := hd
        have e2 := hN.q2 d2
        subst e2
        rw [if_pos (by rfl)]
        have HN := Lib.hid hN
        clear hN hd
        go_wp2_with fail
        exact hK.out _ _ ⟨_, _, _, _, _, _, _, _, rfl, HN.out.s3⟩
      · obtain rfl : o = ⟨_, _, _, _, _, _⟩ := (Option.some.inj ho).symm
        obtain ⟨v5, v10, v11, v12, v13, v14, v15, v16, rfl, hN⟩ := hI
        simp [Region.binds] at hd
        have d3 := hd
        have e3 := hN.q3 d3
        subst e3
        rw [if_pos (by rfl)]
        have HN := Lib.hid hN
        clear hN hd
        go_wp2_with fail
        exact hK.out _ _ ⟨_, _, _, _, _, _, _, _, rfl, HN.out.s4⟩
      · obtain rfl : o = ⟨_, _, _, _, _, _⟩ := (Option.some.inj ho).symm
        obtain ⟨v5, v10, v11, v12, v13, v14, v15, v16, rfl, hN⟩ := hI
        simp [Region.binds] at hd
        have d4 := hd
        have e4 := hN.q4 d4
        subst e4
        have hc := HC.out _ hN.bel
        rw [if_pos (by rfl)]
        have HN := Lib.hid hN
        clear hN hd
        go_wp2_with fail
        exact hK.out _ _ ⟨_, _, _, _, _, _, _, _, rfl, HN.out.s5⟩
      · obtain rfl : o = ⟨_, _, _, _, _, _⟩ := (Option.some.inj ho).symm
        obtain ⟨v5, v10, v11, v12, v13, v14, v15, v16, rfl, hN⟩ := hI
        simp [Region.binds] at hd
        have d1 := hd.1
        have d5 := hd.2
        have e1 := hN.q1 d1
        have e5 := hN.q5 d5
        subst e1
        subst e5
        rw [if_pos (by rfl)]
        have HN := Lib.hid hN
        clear hN hd
        go_wp2_with fail
        exact hK.out _ _ ⟨_, _, _, _, _, _, _, _, rfl, HN.out.s6⟩
      · obtain rfl : o = ⟨_, _, _, _, _, _⟩ := (Option.some.inj ho).symm
        obtain ⟨v5, v10, v11, v12, v13, v14, v15, v16, rfl, hN⟩ := hI
        rw [if_pos (by rfl)]
        have HN := Lib.hid hN
        clear hN hd
        go_wp2_with fail
        exact hK.out _ _ ⟨_, _, _, _, _, _, _, _, rfl, HN.out.s7 hnl⟩
      · obtain rfl : o = ⟨_, _, _, _, _, _⟩ := (Option.some.inj ho).symm
        obtain ⟨v5, v10, v11, v12, v13, v14, v15, v16, rfl, hN⟩ := hI
        simp [Region.binds] at hd
        have d6 : L 6 := by simp only [hd]
        have d7 : L 7 := by simp only [hd]
        have e6 := hN.q6 d6
        subst e6
        obtain ⟨x, arr, h1, h2, h3, h4, h5, _⟩ := hN.q7 d7
        obtain ⟨u0, u1, u2, u3, u4, u5, u6, rfl⟩ := seven_cells h5
        subst h1
        have HX := Lib.hid (And.intro h2 (And.intro h3 (And.intro h4 h5)))
        have p0 := h4.cell (j := 0) rfl
        have p1 := h4.cell (j := 1) rfl
        have p2 := h4.cell (j := 2) rfl
        have p3 := h4.cell (j := 3) rfl
        have p4 := h4.cell (j := 4) rfl
        have p5 := h4.cell (j := 5) rfl
        have p6 := h4.cell (j := 6) rfl
        have f0 : w'.frozen? ⟨x, 0, none⟩ = false := Lib.frozen_of_heap h4 0
        have f1 : w'.frozen? ⟨x, 1, none⟩ = false := Lib.frozen_of_heap h4 1
        have f2 : w'.frozen? ⟨x, 2, none⟩ = false := Lib.frozen_of_heap h4 2
        have f3 : w'.frozen? ⟨x, 3, none⟩ = false := Lib.frozen_of_heap h4 3
        have f4 : w'.frozen? ⟨x, 4, none⟩ = false := Lib.frozen_of_heap h4 4
        have f5 : w'.frozen? ⟨x, 5, none⟩ = false := Lib.frozen_of_heap h4 5
        have f6 : w'.frozen? ⟨x, 6, none⟩ = false := Lib.frozen_of_heap h4 6
        clear h2 h3 h4 h5
        rw [if_pos (by rfl)]
        have HN := Lib.hid hN
        clear hN hd
        go_wp2_with fail
        exact hK.out _ _ ⟨_, _, _, _, _, _, _, _, rfl, HN.out.s8 d7 rfl HX.out.1 HX.out.2.1 HX.out.2.2.1 HX.out.2.2.2⟩
      · simp at ho
    · rintro L a' w' ⟨v5, v10, v11, v12, v13, v14, v15, v16, rfl, hN⟩ hall
      obtain ⟨x, arr, h1, h2, h3, h4, h5, h6⟩ := hN.q7 (hall 7 (by decide))
      have h7 := h6 (hall 8 (by decide))
      subst h7
      have HN := Lib.hid (And.intro h3 (And.intro h4 (And.intro hN.box hN.bel)))
      subst h1
      clear hN hall h2 h3 h4 h5 h6
      go_wp2_with fail
      go_meet
      exact ⟨⟨x, rfl, HN.out.1, HN.out.2.1⟩, HN.out.2.2.1, HN.out.2.2.2⟩
  case rest =>
    obtain ⟨⟨x, rfl, hne, hbx⟩, hbz, hbl⟩ := hcut
    have hc := HC.out _ hbl
    have hlr : w.heap.size ≤ rz := Nat.le_of_eq HRZ.out.symm
    obtain ⟨q0, q1, q2, q3, q4, q5, q6⟩ := info_cells hbx
    obtain ⟨⟨p0, p1, p2, p3, p4, p5, p6⟩, f0, f1, f2, f3, f4, f5, f6⟩ := info_room hbz
    have hend : InfoD A w (.returned (.agg (info1 A true))) (((((((wc.setCell ⟨rz, 0, none⟩ (.string A)).setCell ⟨rz, 1, none⟩ (.bool true)).setCell ⟨rz, 2, none⟩ (.int .i64 0)).setCell ⟨rz, 3, none⟩ (.int .i64 0)).setCell ⟨rz, 4, none⟩ (.slice none 0 0)).setCell ⟨rz, 5, none⟩ (.slice none 0 0)).setCell ⟨rz, 6, none⟩ (.string ⟨#[]⟩)) :=
      ⟨rfl, Below.setCell (Below.setCell (Below.setCell (Below.setCell (Below.setCell (Below.setCell (Below.setCell hbl (p := ⟨rz, 0, none⟩) hlr _) (p := ⟨rz, 1, none⟩) hlr _) (p := ⟨rz, 2, none⟩) hlr _) (p := ⟨rz, 3, none⟩) hlr _) (p := ⟨rz, 4, none⟩) hlr _) (p := ⟨rz, 5, none⟩) hlr _) (p := ⟨rz, 6, none⟩) hlr _⟩
    clear hbl hbx hbz HC HP HX1 HB1 HRZ hlr
    go_wp2_with fail
    try simp only [Exit.inBlock, Exit.then]
    refine bodyPost_ret (v := .agg (info1 A true)) ?_ rfl hend
    clear hend
    simp [results, Tryz.f61]
    go_simp
end Go.Proofs.YtikegddlbelfaaaGreatDoor
namespace Go.Proofs.YtikegddlbelfaaaGreatDoor
open Go.RowKit

theorem kinds_any (w : World) : Calls Tryz.prog 49 #[] w fun e w' => e = .returned (.slice (some ⟨w.heap.size, 0, none⟩) 5 5) ∧ w' = w.alloc (.cells #[.int .i64 1, .int .i64 2, .int .i64 3, .int .i64 4, .int .i64 5] 3) := by
  go_enter Tryz.func49, Tryz.ntmps49
  go_wp2_with fail
  go_ret
  exact ⟨rfl, rfl⟩
theorem cloneM_nil (w : World) : Calls Tryz.prog 84 #[.slice none 0 0] w fun e w' => e = .returned (.slice none 0 0) ∧ w' = w := by
  have hnil := fun W n c => Lib.run_eql_slice_nil (P := Tryz.prog) W 41 132 none n c 0 0 Tryz.underlying41
  go_enter Tryz.func84, Tryz.ntmps84
  go_wp2_with fail
  go_ret
  exact ⟨rfl, rfl⟩
theorem below_drewn {z : Nat} {w w' : World} (h : Below z w w') : Below z w w'.drew := ⟨h.os, h.tape, h.output, h.size, h.block⟩
theorem zeroBits (i : Nat) : (bits BinOp.and IntKind.i64 ((0 : Int) / 2 ^ i) 1 == 1) = false := by rw [Int.zero_ediv]; rfl
def InfoF (A : ByteArray) (data : ByteArray) (time : Int) (w : World) : Ending → World → Prop := fun e w' => e = .returned (.agg (infoArr A false data.size time (.slice none 0 0) ⟨#[]⟩)) ∧ Below w.heap.size w w'
set_option maxHeartbeats 8000000 in
set_option maxRecDepth 100000 in
theorem infoT_file (w : World) (B : Nat) (M : MB) (s : TSt) (rk : List ByteArray) (n : Nd) (hM : MemT w B M s) (hn : s.F rk.reverse = some n) (hkl : klen rk ≤ 4096) (hd : n.dir = false) (hmt : n.mt = .slice none 0 0) (hsum : s.f.sums = 0) (hid : hasB s.f 512 = false) (hds : n.data.size ≤ maxLen) :
    Calls Tryz.prog 61 #[ptr M.b, ptr n.b] w (InfoF (pathR s.F rk) n.data n.time w) := by
  have HP := Lib.hid (fun W (hb : Below w.heap.size w W) => pathT_any B M.rb s.f s.F rk n W (hM.tree.under hb) hn hkl)
  have HC : Hid (∀ W, Below w.heap.size w W → W.cell? ⟨n.b, 1, none⟩ = some (.bool false) ∧ W.cell? ⟨n.b, 4, none⟩ = some (.string n.data) ∧ W.cell? ⟨n.b, 5, none⟩ = some (.int .i64 n.time) ∧ W.cell? ⟨n.b, 6, none⟩ = some (.slice none 0 0) ∧ W.cell? ⟨n.b, 7, none⟩ = some (.string n.id) ∧ W.cell? ⟨M.b, 1, none⟩ = some (.int .i64 0)) := Lib.hid (fun W hb => by
    have hx := ((hM.tree.under hb).box _ _ hn).1
    have hf : W.cell? ⟨M.b, 1, none⟩ = some (.int .i64 s.f.sums) := (hM.below hb).box.cell (j := 1) rfl
    rw [hsum] at hf
    refine ⟨?_, hx.cell (j := 4) rfl, hx.cell (j := 5) rfl, ?_, hx.cell (j := 7) rfl, hf⟩
    · rw [← hd]
      exact hx.cell (j := 1) rfl
    · rw [← hmt]
      exact hx.cell (j := 6) rfl)
  have HH := Lib.hid (fun W (hb : Below w.heap.size w W) => has_any M.b s.f 512 W (hM.below hb).has)
  rw [hid] at HH
  have HD := Lib.hid hds
  generalize pathR s.F rk = A at *
  generalize n.data = data at *
  generalize n.time = time at *
  generalize n.id = nid at *
  generalize n.b = nb at *
  generalize M.b = b at *
  clear hM hn hkl hd hmt hsum hid hds
  go_enter Tryz.func61, Tryz.ntmps61
  go_upto_region 1 with fail
  have hb1 : Below w.heap.size w (w.alloc (.cells info0 43)) := bAlloc (Below.refl _ _) _
  have hx1 : BoxIs (w.alloc (.cells info0 43)) w.heap.size info0 43 := heap_alloc_new _ _
  obtain ⟨rz, hrz⟩ : ∃ rz, rz = w.heap.size := ⟨_, rfl⟩
  rw [← hrz] at hx1 ⊢
  have HRZ := Lib.hid hrz
  have HX1 := Lib.hid hx1
  have HB1 := Lib.hid hb1
  clear hrz hx1 hb1
  generalize w.alloc _ = w1 at *
  go_cut [5] (fun s5 wx => (∃ x, s5 = ptr x ∧ w.heap.size ≤ x ∧ rz ≠ x ∧ BoxIs wx x (info1 A false) 43) ∧ BoxIs wx rz info0 43 ∧ Below w.heap.size w wx)
  case first =>
    refine wp_region_inv2 (IJa w b nb rz A false) (by kernel_rfl) (by kernel_rfl) ?_ ?_ ?_
    · exact ⟨_, _, _, _, _, _, _, _, rfl, IJ.start (HB1.out) (HX1.out)⟩
    · intro i o ho L a' w' hI hnl hd K hK
      rcases i with _ | _ | _ | _ | _ | _ | _ | _ | _ | i
      · obtain rfl : o = ⟨_, _, _, _, _, _⟩ := (Option.some.inj ho).symm
        obtain ⟨v5, v10, v11, v12, v13, v14, v15, v16, rfl, hN⟩ := hI
        rw [if_pos (by rfl)]
        have HN := Lib.hid hN
        clear hN hd
        go_wp2_with fail
        exact hK.out _ _ ⟨_, _, _, _, _, _, _, _, rfl, HN.out.s0⟩
      · obtain rfl : o = ⟨_, _, _, _, _, _⟩ := (Option.some.inj ho).symm
        obtain ⟨v5, v10, v11, v12, v13, v14, v15, v16, rfl, hN⟩ := hI
        simp [Region.binds] at hd
        have d0 := hd
        have e0 := hN.q0 d0
        subst e0
        rw [if_pos (by rfl)]
        have HN := Lib.hid hN
        clear hN hd
        go_wp2_with (go_at_call 83; refine (HP.out _ HN.out.bel).mono ?_; rintro e w9 ⟨rfl, hb9⟩; have HN9 := Lib.hid (HN.out.up hb9))
        exact hK.out _ _ ⟨_, _, _, _, _, _, _, _, rfl, HN9.out.s1⟩
      · obtain rfl : o = ⟨_, _, _, _, _, _⟩ := (Option.some.inj ho).symm
        obtain ⟨v5, v10, v11, v12, v13, v14, v15, v16, rfl, hN⟩ := hI
        rw [if_pos (by rfl)]
        have HN := Lib.hid hN
        clear hN hd
        go_wp2_with fail
        exact hK.out _ _ ⟨_, _, _, _, _, _, _, _, rfl, HN.out.s2⟩
      · obtain rfl : o = ⟨_, _, _, _, _, _⟩ := (Option.some.inj ho).symm
        obtain ⟨v5, v10, v11, v12, v13, v14, v15, v16, rfl, hN⟩ := hI
        simp [Region.binds] at hd
        have d2 := hd
        have e2 := hN.q2 d2
        subst e2
        rw [if_pos (by rfl)]
        have HN := Lib.hid hN
        clear hN hd
        go_wp2_with fail
        exact hK.out _ _ ⟨_, _, _, _, _, _, _, _, rfl, HN.out.s3⟩
      · obtain rfl : o = ⟨_, _, _, _, _, _⟩ := (Option.some.inj ho).symm
        obtain ⟨v5, v10, v11, v12, v13, v14, v15, v16, rfl, hN⟩ := hI
        simp [Region.binds] at hd
        have d3 := hd
        have e3 := hN.q3 d3
        subst e3
        rw [if_pos (by rfl)]
        have HN := Lib.hid hN
        clear hN hd
        go_wp2_with fail
        exact hK.out _ _ ⟨_, _, _, _, _, _, _, _, rfl, HN.out.s4⟩
      · obtain rfl : o = ⟨_, _, _, _, _, _⟩ := (Option.some.inj ho).symm
        obtain ⟨v5, v10, v11, v12, v13, v14, v15, v16, rfl, hN⟩ := hI
        simp [Region.binds] at hd
        have d4 := hd
        have e4 := hN.q4 d4
        subst e4
        have hc := (HC.out _ hN.bel).1
        rw [if_pos (by rfl)]
        have HN := Lib.hid hN
        clear hN hd
        go_wp2_with fail
        exact hK.out _ _ ⟨_, _, _, _, _, _, _, _, rfl, HN.out.s5⟩
      · obtain rfl : o = ⟨_, _, _, _, _, _⟩ := (Option.some.inj ho).symm
        obtain ⟨v5, v10, v11, v12, v13, v14, v15, v16, rfl, hN⟩ := hI
        simp [Region.binds] at hd
        have d1 := hd.1
        have d5 := hd.2
        have e1 := hN.q1 d1
        have e5 := hN.q5 d5
        subst e1
        subst e5
        rw [if_pos (by rfl)]
        have HN := Lib.hid hN
        clear hN hd
        go_wp2_with fail
        exact hK.out _ _ ⟨_, _, _, _, _, _, _, _, rfl, HN.out.s6⟩
      · obtain rfl : o = ⟨_, _, _, _, _, _⟩ := (Option.some.inj ho).symm
        obtain ⟨v5, v10, v11, v12, v13, v14, v15, v16, rfl, hN⟩ := hI
        rw [if_pos (by rfl)]
        have HN := Lib.hid hN
        clear hN hd
        go_wp2_with fail
        exact hK.out _ _ ⟨_, _, _, _, _, _, _, _, rfl, HN.out.s7 hnl⟩
      · obtain rfl : o = ⟨_, _, _, _, _, _⟩ := (Option.some.inj ho).symm
        obtain ⟨v5, v10, v11, v12, v13, v14, v15, v16, rfl, hN⟩ := hI
        simp [Region.binds] at hd
        have d6 : L 6 := by simp only [hd]
        have d7 : L 7 := by simp only [hd]
        have e6 := hN.q6 d6
        subst e6
        obtain ⟨x, arr, h1, h2, h3, h4, h5, _⟩ := hN.q7 d7
        obtain ⟨u0, u1, u2, u3, u4, u5, u6, rfl⟩ := seven_cells h5
        subst h1
        have HX := Lib.hid (And.intro h2 (And.intro h3 (And.intro h4 h5)))
        have p0 := h4.cell (j := 0) rfl
        have p1 := h4.cell (j := 1) rfl
        have p2 := h4.cell (j := 2) rfl
        have p3 := h4.cell (j := 3) rfl
        have p4 := h4.cell (j := 4) rfl
        have p5 := h4.cell (j := 5) rfl
        have p6 := h4.cell (j := 6) rfl
        have f0 : w'.frozen? ⟨x, 0, none⟩ = false := Lib.frozen_of_heap h4 0
        have f1 : w'.frozen? ⟨x, 1, none⟩ = false := Lib.frozen_of_heap h4 1
        have f2 : w'.frozen? ⟨x, 2, none⟩ = false := Lib.frozen_of_heap h4 2
        have f3 : w'.frozen? ⟨x, 3, none⟩ = false := Lib.frozen_of_heap h4 3
        have f4 : w'.frozen? ⟨x, 4, none⟩ = false := Lib.frozen_of_heap h4 4
        have f5 : w'.frozen? ⟨x, 5, none⟩ = false := Lib.frozen_of_heap h4 5
        have f6 : w'.frozen? ⟨x, 6, none⟩ = false := Lib.frozen_of_heap h4 6
        clear h2 h3 h4 h5
        rw [if_pos (by rfl)]
        have HN := Lib.hid hN
        clear hN hd
        go_wp2_with fail
        exact hK.out _ _ ⟨_, _, _, _, _, _, _, _, rfl, HN.out.s8 d7 rfl HX.out.1 HX.out.2.1 HX.out.2.2.1 HX.out.2.2.2⟩
      · simp at ho
    · rintro L a' w' ⟨v5, v10, v11, v12, v13, v14, v15, v16, rfl, hN⟩ hall
      obtain ⟨x, arr, h1, h2, h3, h4, h5, h6⟩ := hN.q7 (hall 7 (by decide))
      have h7 := h6 (hall 8 (by decide))
      subst h7
      have HN := Lib.hid (And.intro h3 (And.intro h4 (And.intro hN.box (And.intro hN.bel h2))))
      subst h1
      clear hN hall h2 h3 h4 h5 h6
      go_wp2_with fail
      go_meet
      exact ⟨⟨x, rfl, HN.out.2.2.2.2, HN.out.1, HN.out.2.1⟩, HN.out.2.2.1, HN.out.2.2.2.1⟩
  case rest =>
    obtain ⟨⟨xz, rfl, hlz, hrx, hbx⟩, hbz, hbl⟩ := hcut
    have hlr : w.heap.size ≤ rz := Nat.le_of_eq HRZ.out.symm
    have k1 := (HC.out _ hbl).1
    have HX2 := Lib.hid hbx
    have HX1b := Lib.hid hbz
    have hS := hbl
    clear hbx hbz hbl HP HX1 HB1
    have x2 : wc.cell? ⟨xz, 2, none⟩ = some (.int .i64 0) := HX2.out.cell (j := 2) rfl
    have x3 : wc.cell? ⟨xz, 3, none⟩ = some (.int .i64 0) := HX2.out.cell (j := 3) rfl
    have x5 : wc.cell? ⟨xz, 5, none⟩ = some (.slice none 0 0) := HX2.out.cell (j := 5) rfl
    have g2 : wc.frozen? ⟨xz, 2, none⟩ = false := Lib.frozen_of_heap HX2.out 2
    have g3 : wc.frozen? ⟨xz, 3, none⟩ = false := Lib.frozen_of_heap HX2.out 3
    have g5 : wc.frozen? ⟨xz, 5, none⟩ = false := Lib.frozen_of_heap HX2.out 5
    have HKi := Lib.hid kinds_any
    go_upto_region 4 with fail
    have hSd : Below w.heap.size w wc.drew := below_drewn hS
    have hS0 := hS
    clear k1 hS
    refine wp_region_seqQ (Below w.heap.size w) 1000 [(0, true), (1, true), (2, true), (3, true), (4, true), (5, true), (6, true), (7, true), (8, true), (9, true), (10, true), (11, true), (12, true), (13, true), (14, true), (15, false), (16, true), (17, false), (18, true), (19, false)] (by as_aux_lemma => kernel_rfl) (by as_aux_lemma => kernel_rfl) (by as_aux_lemma => kernel_rfl) (by decide) (by as_aux_lemma => kernel_rfl) (by decide) hSd ?_
    intro OPS HO
    refine seqQ_take (o := ⟨_, _, _, _, _, _⟩) (v := ?_) (by rw [HO.out]; rfl) (by rfl) ?_ ?_
    rotate_left 1
    · first | ((intro W _; go_simp) <;> with_reducible rfl) | (intro W hW; obtain ⟨k1, k2, k3, k4, k5, k6⟩ := HC.out _ hW; clear hW; (go_simp <;> with_reducible rfl))
    try simp only [Act.put, List.setIfInBounds_toArray, List.set_cons_zero, List.set_cons_succ]
    refine seqQ_take (o := ⟨_, _, _, _, _, _⟩) (v := ?_) (by rw [HO.out]; rfl) (by rfl) ?_ ?_
    rotate_left 1
    · first | ((intro W _; go_simp) <;> with_reducible rfl) | (intro W hW; obtain ⟨k1, k2, k3, k4, k5, k6⟩ := HC.out _ hW; clear hW; (go_simp <;> with_reducible rfl))
    try simp only [Act.put, List.setIfInBounds_toArray, List.set_cons_zero, List.set_cons_succ]
    refine seqQ_take (o := ⟨_, _, _, _, _, _⟩) (v := ?_) (by rw [HO.out]; rfl) (by rfl) ?_ ?_
    rotate_left 1
    · first | ((intro W _; go_simp) <;> with_reducible rfl) | (intro W hW; obtain ⟨k1, k2, k3, k4, k5, k6⟩ := HC.out _ hW; clear hW; (go_simp <;> with_reducible rfl))
    try simp only [Act.put, List.setIfInBounds_toArray, List.set_cons_zero, List.set_cons_succ]
    refine seqQ_take (o := ⟨_, _, _, _, _, _⟩) (v := ?_) (by rw [HO.out]; rfl) (by rfl) ?_ ?_
    rotate_left 1
    · first | ((intro W _; go_simp) <;> with_reducible rfl) | (intro W hW; obtain ⟨k1, k2, k3, k4, k5, k6⟩ := HC.out _ hW; clear hW; (go_simp <;> with_reducible rfl))
    try simp only [Act.put, List.setIfInBounds_toArray, List.set_cons_zero, List.set_cons_succ]
    refine seqQ_take (o := ⟨_, _, _, _, _, _⟩) (v := ?_) (by rw [HO.out]; rfl) (by rfl) ?_ ?_
    rotate_left 1
    · first | ((intro W _; go_simp) <;> with_reducible rfl) | (intro W hW; obtain ⟨k1, k2, k3, k4, k5, k6⟩ := HC.out _ hW; clear hW; (go_simp <;> with_reducible rfl))
    try simp only [Act.put, List.setIfInBounds_toArray, List.set_cons_zero, List.set_cons_succ]
    refine seqQ_take (o := ⟨_, _, _, _, _, _⟩) (v := ?_) (by rw [HO.out]; rfl) (by rfl) ?_ ?_
    rotate_left 1
    · first | ((intro W _; go_simp) <;> with_reducible rfl) | (intro W hW; obtain ⟨k1, k2, k3, k4, k5, k6⟩ := HC.out _ hW; clear hW; (go_simp <;> with_reducible rfl))
    try simp only [Act.put, List.setIfInBounds_toArray, List.set_cons_zero, List.set_cons_succ]
    refine seqQ_take (o := ⟨_, _, _, _, _, _⟩) (v := ?_) (by rw [HO.out]; rfl) (by rfl) ?_ ?_
    rotate_left 1
    · first | ((intro W _; go_simp) <;> with_reducible rfl) | (intro W hW; obtain ⟨k1, k2, k3, k4, k5, k6⟩ := HC.out _ hW; clear hW; (go_simp <;> with_reducible rfl))
    try simp only [Act.put, List.setIfInBounds_toArray, List.set_cons_zero, List.set_cons_succ]
    refine seqQ_take (o := ⟨_, _, _, _, _, _⟩) (v := ?_) (by rw [HO.out]; rfl) (by rfl) ?_ ?_
    rotate_left 1
    · first | ((intro W _; go_simp) <;> with_reducible rfl) | (intro W hW; obtain ⟨k1, k2, k3, k4, k5, k6⟩ := HC.out _ hW; clear hW; (go_simp <;> with_reducible rfl))
    try simp only [Act.put, List.setIfInBounds_toArray, List.set_cons_zero, List.set_cons_succ]
    refine seqQ_take (o := ⟨_, _, _, _, _, _⟩) (v := ?_) (by rw [HO.out]; rfl) (by rfl) ?_ ?_
    rotate_left 1
    · first | ((intro W _; go_simp) <;> with_reducible rfl) | (intro W hW; obtain ⟨k1, k2, k3, k4, k5, k6⟩ := HC.out _ hW; clear hW; (go_simp <;> with_reducible rfl))
    try simp only [Act.put, List.setIfInBounds_toArray, List.set_cons_zero, List.set_cons_succ]
    refine seqQ_take (o := ⟨_, _, _, _, _, _⟩) (v := ?_) (by rw [HO.out]; rfl) (by rfl) ?_ ?_
    rotate_left 1
    · first | ((intro W _; go_simp) <;> with_reducible rfl) | (intro W hW; obtain ⟨k1, k2, k3, k4, k5, k6⟩ := HC.out _ hW; clear hW; (go_simp <;> with_reducible rfl))
    try simp only [Act.put, List.setIfInBounds_toArray, List.set_cons_zero, List.set_cons_succ]
    refine seqQ_take (o := ⟨_, _, _, _, _, _⟩) (v := ?_) (by rw [HO.out]; rfl) (by rfl) ?_ ?_
    rotate_left 1
    · first | ((intro W _; go_simp) <;> with_reducible rfl) | (intro W hW; obtain ⟨k1, k2, k3, k4, k5, k6⟩ := HC.out _ hW; clear hW; (go_simp <;> with_reducible rfl))
    try simp only [Act.put, List.setIfInBounds_toArray, List.set_cons_zero, List.set_cons_succ]
    refine seqQ_take (o := ⟨_, _, _, _, _, _⟩) (v := ?_) (by rw [HO.out]; rfl) (by rfl) ?_ ?_
    rotate_left 1
    · first | ((intro W _; go_simp) <;> with_reducible rfl) | (intro W hW; obtain ⟨k1, k2, k3, k4, k5, k6⟩ := HC.out _ hW; clear hW; (go_simp <;> with_reducible rfl))
    try simp only [Act.put, List.setIfInBounds_toArray, List.set_cons_zero, List.set_cons_succ]
    refine seqQ_take (o := ⟨_, _, _, _, _, _⟩) (v := ?_) (by rw [HO.out]; rfl) (by rfl) ?_ ?_
    rotate_left 1
    · first | ((intro W _; go_simp) <;> with_reducible rfl) | (intro W hW; obtain ⟨k1, k2, k3, k4, k5, k6⟩ := HC.out _ hW; clear hW; (go_simp <;> with_reducible rfl))
    try simp only [Act.put, List.setIfInBounds_toArray, List.set_cons_zero, List.set_cons_succ]
    refine seqQ_quiet (o := ⟨_, _, _, _, _, _⟩) (by rw [HO.out]; rfl) (by rfl) 84 _ (fun W hW => ?_) _ (fun W hW => cloneM_nil W) ?_
    · obtain ⟨k1, k2, k3, k4, k5, k6⟩ := HC.out _ hW; clear hW; (go_simp <;> with_reducible rfl)
    try simp only [Act.put, List.setIfInBounds_toArray, List.set_cons_zero, List.set_cons_succ]
    refine seqQ_take (o := ⟨_, _, _, _, _, _⟩) (v := ?_) (by rw [HO.out]; rfl) (by rfl) ?_ ?_
    rotate_left 1
    · first | ((intro W _; go_simp) <;> with_reducible rfl) | (intro W hW; obtain ⟨k1, k2, k3, k4, k5, k6⟩ := HC.out _ hW; clear hW; (go_simp <;> with_reducible rfl))
    try simp only [Act.put, List.setIfInBounds_toArray, List.set_cons_zero, List.set_cons_succ]
    refine seqQ_do (o := ⟨_, _, _, _, _, _⟩) (by rw [HO.out]; rfl) (by rfl) (fun K hK => ?_)
    go_wp2_with fail
    have hS : Below w.heap.size w (wc.setCell ⟨xz, 2, none⟩ (.int .i64 data.size)).drew := below_drewn (Below.setCell hS0 (p := ⟨xz, 2, none⟩) hlz _)
    refine hK.out _ _ (fun _ => hS) ?_
    clear hK K
    try simp only [Act.put, List.setIfInBounds_toArray, List.set_cons_zero, List.set_cons_succ]
    refine seqQ_take (o := ⟨_, _, _, _, _, _⟩) (v := ?_) (by rw [HO.out]; rfl) (by rfl) ?_ ?_
    rotate_left 1
    · first | ((intro W _; go_simp) <;> with_reducible rfl) | (intro W hW; obtain ⟨k1, k2, k3, k4, k5, k6⟩ := HC.out _ hW; clear hW; (go_simp <;> with_reducible rfl))
    try simp only [Act.put, List.setIfInBounds_toArray, List.set_cons_zero, List.set_cons_succ]
    refine seqQ_do (o := ⟨_, _, _, _, _, _⟩) (by rw [HO.out]; rfl) (by rfl) (fun K hK => ?_)
    go_wp2_with fail
    replace hS : Below w.heap.size w ((wc.setCell ⟨xz, 2, none⟩ (.int .i64 data.size)).setCell ⟨xz, 3, none⟩ (.int .i64 time)).drew := below_drewn (Below.setCell (Below.setCell hS0 (p := ⟨xz, 2, none⟩) hlz _) (p := ⟨xz, 3, none⟩) hlz _)
    refine hK.out _ _ (fun _ => hS) ?_
    clear hK K
    try simp only [Act.put, List.setIfInBounds_toArray, List.set_cons_zero, List.set_cons_succ]
    refine seqQ_take (o := ⟨_, _, _, _, _, _⟩) (v := ?_) (by rw [HO.out]; rfl) (by rfl) ?_ ?_
    rotate_left 1
    · first | ((intro W _; go_simp) <;> with_reducible rfl) | (intro W hW; obtain ⟨k1, k2, k3, k4, k5, k6⟩ := HC.out _ hW; clear hW; (go_simp <;> with_reducible rfl))
    try simp only [Act.put, List.setIfInBounds_toArray, List.set_cons_zero, List.set_cons_succ]
    refine seqQ_do (o := ⟨_, _, _, _, _, _⟩) (by rw [HO.out]; rfl) (by rfl) (fun K hK => ?_)
    go_wp2_with fail
    replace hS : Below w.heap.size w (((wc.setCell ⟨xz, 2, none⟩ (.int .i64 data.size)).setCell ⟨xz, 3, none⟩ (.int .i64 time)).setCell ⟨xz, 5, none⟩ (.slice none 0 0)).drew := below_drewn (Below.setCell (Below.setCell (Below.setCell hS0 (p := ⟨xz, 2, none⟩) hlz _) (p := ⟨xz, 3, none⟩) hlz _) (p := ⟨xz, 5, none⟩) hlz _)
    refine hK.out _ _ (fun _ => hS) ?_
    clear hK K
    try simp only [Act.put, List.setIfInBounds_toArray, List.set_cons_zero, List.set_cons_succ]
    refine seqQ_done ?_
    have HX4 : Hid (BoxIs (((wc.setCell ⟨xz, 2, none⟩ (.int .i64 data.size)).setCell ⟨xz, 3, none⟩ (.int .i64 time)).setCell ⟨xz, 5, none⟩ (.slice none 0 0)).drew xz (infoArr A false data.size time (.slice none 0 0) ⟨#[]⟩) 43) := Lib.hid (BoxIs.putAt (BoxIs.putAt (BoxIs.putAt HX2.out 2 (.int .i64 data.size)) 3 (.int .i64 time)) 5 (.slice none 0 0))
    have HZ4 : Hid (BoxIs (((wc.setCell ⟨xz, 2, none⟩ (.int .i64 data.size)).setCell ⟨xz, 3, none⟩ (.int .i64 time)).setCell ⟨xz, 5, none⟩ (.slice none 0 0)).drew rz info0 43) := Lib.hid (HX1b.out.kp (F := fun i => i = xz) (((((Kp.refl (fun i => i = xz) wc).set (b := xz) (.inl rfl) 2 (.int .i64 data.size)).set (b := xz) (.inl rfl) 3 (.int .i64 time)).set (b := xz) (.inl rfl) 5 (.slice none 0 0)).drew 1) hrx)
    clear x2 x3 x5 g2 g3 g5 HX2 HX1b hS0 hSd
    generalize (World.setCell _ _ _).drew = w4 at *
    go_upto_region 6 with (go_at_call 49; refine (HKi.out _).mono ?_; rintro e w' ⟨rfl, rfl⟩)
    have HS5 := Lib.hid (bTrans hS (bAlloc (Below.refl w4.heap.size w4) (.cells #[.int .i64 1, .int .i64 2, .int .i64 3, .int .i64 4, .int .i64 5] 3)))
    have HX5 := Lib.hid (HX4.out.under (bAlloc (Below.refl w4.heap.size w4) (.cells #[.int .i64 1, .int .i64 2, .int .i64 3, .int .i64 4, .int .i64 5] 3)))
    have HZ5 := Lib.hid (HZ4.out.under (bAlloc (Below.refl w4.heap.size w4) (.cells #[.int .i64 1, .int .i64 2, .int .i64 3, .int .i64 4, .int .i64 5] 3)))
    have HK5 : Hid (BoxIs (w4.alloc (.cells #[.int .i64 1, .int .i64 2, .int .i64 3, .int .i64 4, .int .i64 5] 3)) w4.heap.size #[.int .i64 1, .int .i64 2, .int .i64 3, .int .i64 4, .int .i64 5] 3) := Lib.hid (heap_alloc_new _ _)
    obtain ⟨kz, hkz⟩ : ∃ kz, kz = w4.heap.size := ⟨_, rfl⟩
    rw [← hkz] at HK5 ⊢
    clear hS HX4 HZ4 hkz
    generalize w4.alloc _ = w5 at *
    go_loopg [41] 5 (fun gk s41 wx => ∃ (i : Nat), i + gk = 5 ∧ s41 = .int .i64 i ∧ Hid (Below w.heap.size w wx) ∧ Hid (BoxIs wx xz (infoArr A false data.size time (.slice none 0 0) ⟨#[]⟩) 43) ∧ Hid (BoxIs wx kz #[.int .i64 1, .int .i64 2, .int .i64 3, .int .i64 4, .int .i64 5] 3) ∧ Hid (BoxIs wx rz info0 43))
    case atStart => exact ⟨0, by omega, rfl, HS5, HX5, HK5, HZ5⟩
    case round =>
      clear HS5 HX5 HZ5 HK5
      obtain ⟨i, hi, rfl, HSx, HXx, HKx, HZx⟩ := hrel
      by_cases hlt : i < 5
      · obtain ⟨g, rfl⟩ : ∃ g, gk = g + 1 := ⟨gk - 1, by omega⟩
        obtain ⟨k, hk⟩ : ∃ k, k = i + 1 := ⟨_, rfl⟩
        have ck : wr.cell? ⟨kz, i, none⟩ = some (.int .i64 k) := HKx.out.cell (j := i) (by
          rw [hk]
          rcases (show i = 0 ∨ i = 1 ∨ i = 2 ∨ i = 3 ∨ i = 4 by omega) with rfl | rfl | rfl | rfl | rfl <;> rfl)
        have cs := (HC.out _ HSx.out).2.2.2.2.2
        have hi5 : (i : Int) < 5 := by omega
        have hk64 : (k : Int) < 64 := by omega
        have hzb := zeroBits k
        have HKk := Lib.hid hk
        clear hk
        go_wp2_with fail
        all_goals (
          go_roundg g
          case measure => omega
          case rel => exact ⟨i + 1, by omega, by go_num, HSx, HXx, HKx, HZx⟩)
      · obtain rfl : i = 5 := by omega
        have HHr := Lib.hid (HH.out _ HSx.out)
        obtain ⟨q0, q1, q2, q3, q4, q5, q6⟩ := info_cells HXx.out
        obtain ⟨⟨p0, p1, p2, p3, p4, p5, p6⟩, f0, f1, f2, f3, f4, f5, f6⟩ := info_room HZx.out
        have hend : InfoF A data time w (.returned (.agg (infoArr A false data.size time (.slice none 0 0) ⟨#[]⟩))) (((((((wr.setCell ⟨rz, 0, none⟩ (.string A)).setCell ⟨rz, 1, none⟩ (.bool false)).setCell ⟨rz, 2, none⟩ (.int .i64 data.size)).setCell ⟨rz, 3, none⟩ (.int .i64 time)).setCell ⟨rz, 4, none⟩ (.slice none 0 0)).setCell ⟨rz, 5, none⟩ (.slice none 0 0)).setCell ⟨rz, 6, none⟩ (.string ⟨#[]⟩)) :=
          ⟨rfl, Below.setCell (Below.setCell (Below.setCell (Below.setCell (Below.setCell (Below.setCell (Below.setCell HSx.out (p := ⟨rz, 0, none⟩) hlr _) (p := ⟨rz, 1, none⟩) hlr _) (p := ⟨rz, 2, none⟩) hlr _) (p := ⟨rz, 3, none⟩) hlr _) (p := ⟨rz, 4, none⟩) hlr _) (p := ⟨rz, 5, none⟩) hlr _) (p := ⟨rz, 6, none⟩) hlr _⟩
        go_upto_region 14 with (go_at_call 32; refine HHr.out.mono ?_; rintro e w' ⟨rfl, hw⟩; (have hw2 := hw.symm; clear hw; subst hw2))
        clear HXx HKx HZx HKi HC HH HHr
        go_wp2_with fail
        try simp only [Exit.inBlock, Exit.then]
        refine bodyPost_ret (v := .agg (infoArr A false data.size time (.slice none 0 0) ⟨#[]⟩)) ?_ rfl hend
        clear hend
        simp [results, Tryz.f61]
        go_simp
end Go.Proofs.YtikegddlbelfaaaGreatDoor
namespace Go.Proofs.YtikegddlbelfaaaGreatDoor
open Go.RowKit

/-- keep, where the store keeps no versions. -/
theorem keepT_off (b nb : Nat) (f : Wh.Feat) (w : World) (hc : w.cell? ⟨b, 0, none⟩ = some (.int .i64 f.has)) (hv : hasB f 1024 = false) :
    Calls Tryz.prog 91 #[ptr b, ptr nb] w fun e w' => e = .returned (.tuple #[]) ∧ w' = w := by
  have HH := Lib.hid (has_any b f 1024 w hc)
  rw [hv] at HH
  clear hc hv
  go_enter Tryz.func91, Tryz.ntmps91
  go_wp2_with (go_at_call 32; refine HH.out.mono ?_; rintro e w' ⟨rfl, hw⟩; (have hw2 := hw.symm; clear hw; subst hw2))
  exact bodyPost_ret (results_none rfl _ _ _) rfl ⟨rfl, rfl⟩
/-- What setFile of a file that is there has done. -/
def TurnPost (w : World) (B : Nat) (M : MB) (s : TSt) (ks : List ByteArray) (m : Nd) (d : ByteArray) (t : Int) (e : Ending) (w' : World) : Prop :=
  e = .returned (ptr m.b) ∧ MemT w' B M { s with F := s.F.put ks { m with data := d, time := t, mt := .slice none 0 0 } } ∧ Kp (fun i => i = m.b) w w'
set_option maxHeartbeats 4000000 in
set_option maxRecDepth 100000 in
theorem setFileT_old (w : World) (B : Nat) (M : MB) (s : TSt) (p d : ByteArray) (t : Int) (a : Option Addr) (l c : Nat) (m : Nd) (hM : MemT w B M s) (hE : Env w) (hs : p.size ≤ 1024) (hF : s.F (kysOf s.f p) = some m) (hv : hasB s.f 1024 = false) (hm : hasB s.f 256 = false) :
    Calls Tryz.prog 62 #[ptr M.b, .string p, .string d, .int .i64 t, .slice a l c] w (TurnPost w B M s (kysOf s.f p) m d t) := by
  have HF := Lib.hid (findT_any w B M s p hM hE hs)
  rw [hF] at HF
  simp only [Option.map_some, adr] at HF
  have HHm := Lib.hid (fun W (h : W.cell? ⟨M.b, 0, none⟩ = some (.int .i64 s.f.has)) => has_any M.b s.f 256 W h)
  rw [hm] at HHm
  have HKe := Lib.hid (fun W (h : W.cell? ⟨M.b, 0, none⟩ = some (.int .i64 s.f.has)) => keepT_off M.b m.b s.f W h hv)
  have HM := Lib.hid hM
  have HF0 := Lib.hid hF
  clear hM hE hs hF hv hm
  generalize kysOf s.f p = ks at *
  obtain ⟨z, hz⟩ : ∃ z, m.b = z := ⟨_, rfl⟩
  have HZ := Lib.hid hz
  rw [hz] at HF HKe
  clear hz
  go_enter Tryz.func62, Tryz.ntmps62
  go_upto_region 3 with (go_at_call 86; refine HF.out.mono ?_; rintro e w1 ⟨rfl, hb1⟩)
  have HM1 := Lib.hid (HM.out.below hb1)
  have HB1 := Lib.hid hb1
  have HK1 := Lib.hid (HKe.out w1 HM1.out.has)
  clear hb1
  have hbx : BoxIs w1 z (ndArr m (s.F.up ks)) 57 := by
    rw [← HZ.out]
    exact (HM1.out.tree.box _ _ HF0.out).1
  have c4 : w1.cell? ⟨z, 4, none⟩ = some (.string m.data) := hbx.cell (j := 4) rfl
  have c5 : w1.cell? ⟨z, 5, none⟩ = some (.int .i64 m.time) := hbx.cell (j := 5) rfl
  have c6 : w1.cell? ⟨z, 6, none⟩ = some m.mt := hbx.cell (j := 6) rfl
  have f4 : w1.frozen? ⟨z, 4, none⟩ = false := Lib.frozen_of_heap hbx 4
  have f5 : w1.frozen? ⟨z, 5, none⟩ = false := Lib.frozen_of_heap hbx 5
  have f6 : w1.frozen? ⟨z, 6, none⟩ = false := Lib.frozen_of_heap hbx 6
  have HBx := Lib.hid hbx
  clear hbx
  go_upto_region 7 with (go_at_call 91; refine HK1.out.mono ?_; rintro e w' ⟨rfl, hw⟩; (have hw2 := hw.symm; clear hw; subst hw2))
  obtain ⟨nd1, hnd1⟩ : ∃ nd1 : Nd, nd1 = { m with data := d, time := t, mt := .slice none 0 0 } := ⟨_, rfl⟩
  have hk7 : Kp (fun i => i = z) w1 (((w1.setCell ⟨z, 4, none⟩ (.string d)).setCell ⟨z, 5, none⟩ (.int .i64 t)).setCell ⟨z, 6, none⟩ (.slice none 0 0)) := (((Kp.refl (fun i => i = z) w1).set (b := z) (.inl rfl) 4 _).set (b := z) (.inl rfl) 5 _).set (b := z) (.inl rfl) 6 _
  have hbx7 : BoxIs (((w1.setCell ⟨z, 4, none⟩ (.string d)).setCell ⟨z, 5, none⟩ (.int .i64 t)).setCell ⟨z, 6, none⟩ (.slice none 0 0)) z (ndArr nd1 (s.F.up ks)) 57 := by
    rw [hnd1]
    exact ((HBx.out.putAt 4 (.string d)).putAt 5 (.int .i64 t)).putAt 6 (.slice none 0 0)
  have hb1 : nd1.b = m.b ∧ nd1.kb = m.kb ∧ nd1.dir = m.dir ∧ nd1.name = m.name := by rw [hnd1]; exact ⟨rfl, rfl, rfl, rfl⟩
  have hm7 := HM1.out.turn (n := nd1) HF0.out hb1.1 hb1.2.1 hb1.2.2.1 hb1.2.2.2 (by rw [hb1.1, HZ.out]; exact hbx7) (by rw [HZ.out]; exact hk7)
  rw [hnd1] at hm7
  have HM7 := Lib.hid hm7
  have HKW7 : Hid (Kp (fun i => i = m.b) w _) := Lib.hid ((Kp.of HB1.out).trans (by rw [HZ.out]; exact hk7))
  clear c4 c5 c6 f4 f5 f6 hk7 hbx7 hb1 hm7 hnd1 HBx
  generalize ((w1.setCell ⟨z, 4, none⟩ (.string d)).setCell ⟨z, 5, none⟩ (.int .i64 t)).setCell ⟨z, 6, none⟩ (.slice none 0 0) = w7 at *
  have HHs7 := Lib.hid (HHm.out w7 HM7.out.has)
  go_wp2_with (go_at_call 32; refine HHs7.out.mono ?_; rintro e w' ⟨rfl, hw⟩; (have hw2 := hw.symm; clear hw; subst hw2))
  go_ret
  exact ⟨by rw [HZ.out]; rfl, HM7.out, HKW7.out⟩
end Go.Proofs.YtikegddlbelfaaaGreatDoor
namespace Go.Proofs.YtikegddlbelfaaaGreatDoor
open Go.RowKit

/-- What a store comes to when a file gets contents. -/
def SetS (s s' : TSt) (ks ns : List ByteArray) (n : Nd) : Prop :=
  (s.F ks = none ∧ s'.made = s.made + 1 ∧ ns.getLast? = some n.name ∧ (∃ i0 n0, WayIs s.F ks i0 n0 ∧ s'.cnt = s.cnt + ((ks.length : Int) - i0)) ∧ (∀ ls m, s.F ls = some m → s'.F ls = some m) ∧
    ∀ ls m, s'.F ls = some m → s.F ls = some m ∨ ls = ks ∨ (m.dir = true ∧ ∃ i, i + 1 < ks.length ∧ ls = ks.take (i + 1) ∧ ns[i]? = some m.name)) ∨
  (∃ m, s.F ks = some m ∧ s' = { s with F := s.F.put ks n } ∧ n.name = m.name)
def SetT (w : World) (B : Nat) (M : MB) (s : TSt) (ks ns : List ByteArray) (d : ByteArray) (t : Int) (e : Ending) (w' : World) : Prop :=
  ∃ s' n, e = .returned (ptr n.b) ∧ MemT w' B M s' ∧ (s'.f = s.f ∧ s'.now = s.now) ∧ s'.F ks = some n ∧ (n.dir = false ∧ n.data = d ∧ n.time = t ∧ n.mt = .slice none 0 0) ∧ Kp (fun i => i = M.b ∨ s.F.own i) w w' ∧ (∀ i, s'.F.own i → s.F.own i ∨ w.heap.size ≤ i) ∧ SetS s s' ks ns n
theorem setT_any (w0 w : World) (M : MB) (s : TSt) (p d : ByteArray) (t : Int) (hb0 : Below w0.heap.size w0 w) (hM : MemT w w0.heap.size M s) (hE : Env w0) (hT : EnvT w0) (hs : p.size ≤ 1024) (h0 : p.toList.isEmpty = false)
    (hc : 0 ≤ s.cnt ∧ s.cnt ≤ 5000) (hmd : 0 ≤ s.made ∧ s.made ≤ 1000000) (hd : ∀ i n, WayIs s.F (kysOf s.f p) i n → n.dir = true) (hfile : ∀ m, s.F (kysOf s.f p) = some m → m.dir = false) (hv : hasB s.f 1024 = false) (hm : hasB s.f 256 = false) :
    Calls Tryz.prog 62 #[ptr M.b, .string p, .string d, .int .i64 t, .slice none 0 0] w (SetT w w0.heap.size M s (kysOf s.f p) (Wh.namesOf p) d t) := by
  cases hF : s.F (kysOf s.f p) with
  | none =>
    refine (setFileT_new w0 w M s p d t [] none 0 hb0 hM hE hT hs h0 hF hc hmd hd (by decide) (.inl rfl) (fun ad h => by cases h)).mono ?_
    rintro e w' ⟨c, F, n, i0, n0, r1, r2, r3, r4, r5, ⟨r6, r7, r8, r9⟩, r10, r11, r12, r13, r14⟩
    exact ⟨_, n, r1, r2, ⟨rfl, rfl⟩, r5, ⟨r6, r7, r8, r9 hm⟩, r10, r11, .inl ⟨hF, rfl, r12, ⟨i0, n0, r3, r4⟩, r13, r14⟩⟩
  | some m =>
    refine (setFileT_old w w0.heap.size M s p d t none 0 0 m hM (hE.below hb0 (Nat.le_refl _)) hs hF hv hm).mono ?_
    rintro e w' ⟨r1, r2, r3⟩
    refine ⟨_, { m with data := d, time := t, mt := .slice none 0 0 }, r1, r2, ⟨rfl, rfl⟩, Tr.put_same _ _ _, ⟨hfile m hF, rfl, rfl, rfl⟩, r3.mono (fun i e => .inr (by rw [e]; exact ⟨_, m, hF, .inl rfl⟩)), fun i hi => ?_, .inr ⟨m, hF, rfl, rfl⟩⟩
    obtain ⟨ls, m', hm', e'⟩ := hi
    dsimp only at hm'
    by_cases hl : ls = kysOf s.f p
    · rw [hl, Tr.put_same] at hm'
      injection hm' with hm'
      subst hm'
      rcases e' with e' | ⟨e', _⟩
      · exact .inl ⟨_, m, hF, .inl e'⟩
      · exact absurd (e'.symm.trans (hfile m hF)) (by decide)
    · rw [Tr.put_other _ _ hl] at hm'
      exact .inl ⟨ls, m', hm', e'⟩
/-- What put has done. -/
def PutT (w : World) (B : Nat) (M : MB) (s : TSt) (ks ns : List ByteArray) (d : ByteArray) (t : Int) (e : Ending) (w' : World) : Prop :=
  ∃ s' n, e = .returned (.tuple #[.agg (infoArr (pathR s'.F ks.reverse) false d.size t (.slice none 0 0) ⟨#[]⟩), .int .i64 0]) ∧ MemT w' B M s' ∧ (s'.f = s.f ∧ s'.now = s.now) ∧ s'.F ks = some n ∧ (n.dir = false ∧ n.data = d ∧ n.time = t ∧ n.mt = .slice none 0 0) ∧ Kp (fun i => i = M.b ∨ s.F.own i) w w' ∧ (∀ i, s'.F.own i → s.F.own i ∨ w.heap.size ≤ i) ∧ SetS s s' ks ns n
def set7 (w : World) (b : Nat) (A : ByteArray) (d : Bool) (n t : Int) (v : Value) (id : ByteArray) : World :=
  ((((((w.setCell ⟨b, 0, none⟩ (.string A)).setCell ⟨b, 1, none⟩ (.bool d)).setCell ⟨b, 2, none⟩ (.int .i64 n)).setCell ⟨b, 3, none⟩ (.int .i64 t)).setCell ⟨b, 4, none⟩ v).setCell ⟨b, 5, none⟩ (.slice none 0 0)).setCell ⟨b, 6, none⟩ (.string id)
theorem set7_kp {F : Nat → Prop} {w0 w : World} (h : Kp F w0 w) {b : Nat} (hb : F b ∨ w0.heap.size ≤ b) (A : ByteArray) (d : Bool) (n t : Int) (v : Value) (id : ByteArray) : Kp F w0 (set7 w b A d n t v id) :=
  ((((((h.set hb 0 (.string A)).set hb 1 (.bool d)).set hb 2 (.int .i64 n)).set hb 3 (.int .i64 t)).set hb 4 v).set hb 5 (.slice none 0 0)).set hb 6 (.string id)
set_option maxHeartbeats 4000000 in
set_option maxRecDepth 100000 in
theorem putT_any (w0 w : World) (M : MB) (s : TSt) (p d : ByteArray) (t : Int) (hb0 : Below w0.heap.size w0 w) (hM : MemT w w0.heap.size M s) (hE : Env w0) (hT : EnvT w0) (hs : p.size ≤ 1024) (h0 : p.toList.isEmpty = false)
    (hc : 0 ≤ s.cnt ∧ s.cnt ≤ 5000) (hmd : 0 ≤ s.made ∧ s.made ≤ 1000000) (hd : ∀ i n, WayIs s.F (kysOf s.f p) i n → n.dir = true) (hfile : ∀ m, s.F (kysOf s.f p) = some m → m.dir = false) (hv : hasB s.f 1024 = false) (hm : hasB s.f 256 = false) (hid : hasB s.f 512 = false) (hsum : s.f.sums = 0)
    (hz : ∀ z, PutZ s.f s.F (kysOf s.f p) s.cnt d.size [] z → z = 0) (hkl : klen (kysOf s.f p).reverse ≤ 4096) (hds : d.size ≤ maxLen)
    (ht : -9223372036854775808 ≤ t ∧ t ≤ 9223372036854775807) (hn : -9223372036854775808 ≤ s.now ∧ s.now ≤ 9223372036854775807) (hp : 1 ≤ s.f.prec ∧ s.f.prec ≤ 9223372036854775807) :
    Calls Tryz.prog 31 #[ptr M.b, .string p, .string d, .int .i64 t, .slice none 0 0] w (PutT w w0.heap.size M s (kysOf s.f p) (Wh.namesOf p) d (tOfT s t)) := by
  have hb0' : ∀ W, Below w.heap.size w W → Below w0.heap.size w0 W := fun W hb => hb0.trans (Below.mono hb hb0.size)
  have HPF : Hid (∀ W, Below w.heap.size w W → Calls Tryz.prog 33 #[ptr M.b, .string p, .int .i64 d.size, .slice none 0 0] W fun e w' => e = .returned (.int .i64 0) ∧ Below W.heap.size W w') := Lib.hid (fun W hb => by
    refine (putFaultT_any d.size [] none 0 W w0.heap.size M s p (hM.below hb) (hE.below (hb0' W hb) (Nat.le_refl _)) hs h0 hc (by decide) (.inl rfl)).mono ?_
    rintro e w' ⟨z, r1, r2, r3⟩
    rw [hz z r2] at r1
    exact ⟨r1, r3⟩)
  have HTo := Lib.hid (fun W (hb : Below w.heap.size w W) => timeOfT_any t W w0.heap.size M s (hM.below hb) ht hn hp)
  have HSf := Lib.hid (fun W (hb : Below w.heap.size w W) => setT_any w0 W M s p d (tOfT s t) (hb0' W hb) (hM.below hb) hE hT hs h0 hc hmd hd hfile hv hm)
  unfold SetT at HSf
  obtain ⟨ks, hks⟩ : ∃ ks, kysOf s.f p = ks := ⟨_, rfl⟩
  rw [hks] at HSf hkl ⊢
  have HIn := Lib.hid (fun W s' n (h : MemT W w0.heap.size M s') (hf : s'.f = s.f) (hn : s'.F ks = some n) (hd : n.dir = false) (hda : n.data = d) (hmt : n.mt = .slice none 0 0) => infoT_file W w0.heap.size M s' ks.reverse n h (by rw [List.reverse_reverse]; exact hn) hkl hd hmt (by rw [hf]; exact hsum) (by rw [hf]; exact hid) (by rw [hda]; exact hds))
  unfold InfoF at HIn
  have HM := Lib.hid hM
  have HB0 := Lib.hid hb0'
  have HLt := Lib.hid (fun i (h : i = M.b ∨ s.F.own i) => hM.lt (i := i) (.inl (h.elim .inl (fun h => .inr (.inr (.inr h))))))
  have hx1 : BoxIs (w.alloc (.cells info0 43)) w.heap.size info0 43 := heap_alloc_new _ _
  have hb1 : Below w.heap.size w (w.alloc (.cells info0 43)) := bAlloc (Below.refl _ _) _
  generalize Wh.namesOf p = ns at *
  clear hM hE hT hs h0 hc hmd hd hfile hv hm hid hsum hz hkl hds ht hn hp hb0 hb0' hks
  obtain ⟨tt, htt⟩ : ∃ tt, tOfT s t = tt := ⟨_, rfl⟩
  rw [htt] at HTo HSf ⊢
  clear htt
  go_enter Tryz.func31, Tryz.ntmps31
  go_upto_region 1 with fail
  obtain ⟨rz, hrz⟩ : ∃ rz, rz = w.heap.size := ⟨_, rfl⟩
  rw [← hrz] at hx1 ⊢
  have HRz := Lib.hid hrz
  have HX1 := Lib.hid hx1
  have HB1 := Lib.hid hb1
  clear hrz hx1 hb1
  generalize w.alloc _ = w1 at *
  go_upto_region 4 with (go_at_call 33; refine (HPF.out _ HB1.out).mono ?_; rintro e w2 ⟨rfl, hb2⟩)
  have HB2 := Lib.hid (bTrans HB1.out hb2)
  have HX2 := Lib.hid (HX1.out.under hb2)
  clear hb2 HX1 HB1 HPF
  have HTo2 := Lib.hid (HTo.out w2 HB2.out)
  have HSf2 := Lib.hid (HSf.out w2 HB2.out)
  clear HTo HSf
  go_wp2_with (first
    | (go_at_call 63; refine HTo2.out.mono ?_; rintro e w' ⟨rfl, hw⟩; (have hw2 := hw.symm; clear hw; subst hw2))
    | (go_at_call 62; refine HSf2.out.mono ?_; rintro e w3 ⟨s', n, rfl, hm3, hf3, hn3, hd3, hk3, ho3, hs3⟩; have HM3 := Lib.hid hm3; have HF3 := Lib.hid (And.intro hf3 (And.intro hn3 (And.intro hd3 (And.intro ho3 hs3)))); have HK3 := Lib.hid hk3; have HX3 := Lib.hid (HX2.out.kp hk3 (fun e => by have h1 := HLt.out _ e; rw [← HRz.out] at h1; omega)); have HIn3 := Lib.hid (HIn.out w3 s' n hm3 hf3.1 hn3 hd3.1 hd3.2.1 hd3.2.2.2); rw [hd3.2.1, hd3.2.2.1] at HIn3; clear hm3 hf3 hn3 hd3 hk3 ho3 hs3)
    | (go_at_call 61; refine HIn3.out.mono ?_; rintro e w4 ⟨rfl, hb4⟩; have HX4 := Lib.hid (HX3.out.under hb4); have HB4 := Lib.hid hb4; clear hb4; obtain ⟨⟨p0, p1, p2, p3, p4, p5, p6⟩, f0, f1, f2, f3, f4, f5, f6⟩ := info_room HX4.out))
  have hkk : Kp (fun i => i = M.b ∨ s.F.own i) w w4 := (Kp.of HB2.out).trans (HK3.out.trans (Kp.of HB4.out))
  have hend : PutT w w0.heap.size M s ks ns d tt (.returned (.tuple #[.agg (infoArr (pathR s'.F ks.reverse) false d.size tt (.slice none 0 0) ⟨#[]⟩), .int .i64 0])) (set7 w4 rz (pathR s'.F ks.reverse) false d.size tt (.slice none 0 0) ⟨#[]⟩) := by
    obtain ⟨g1, g2, g3, g4, g5⟩ := HF3.out
    have hown : ∀ i, s'.F.own i → s.F.own i ∨ w2.heap.size ≤ i := g4
    refine ⟨s', n, rfl, ?_, g1, g2, g3, set7_kp hkk (.inr (Nat.le_of_eq HRz.out.symm)) _ _ _ _ _ _, fun i hi => (g4 i hi).imp (fun h => h) (fun h => Nat.le_trans HB2.out.size h), g5⟩
    refine (HM3.out.below HB4.out).kp (G := fun i => i = rz) (set7_kp (Kp.refl (fun i => i = rz) w4) (.inl rfl) _ _ _ _ _ _) (fun i hi e => ?_)
    have hz2 := HX2.out.lt
    have hr := HRz.out
    have hlt : i < w.heap.size ∨ w2.heap.size ≤ i := by
      rcases hi with (h | h | h | h) | h
      · exact .inl (HM.out.lt (.inl (.inl h)))
      · exact .inl (HM.out.lt (.inl (.inr (.inl h))))
      · exact .inl (HM.out.lt (.inl (.inr (.inr (.inl h)))))
      · exact (hown i h).imp (fun h => HM.out.lt (.inl (.inr (.inr (.inr h))))) (fun h => h)
      · exact .inl (HM.out.lt (.inr h))
    omega
  unfold set7 at hend
  clear hkk
  try simp only [Exit.inBlock, Exit.then]
  refine bodyPost_ret (v := .tuple #[.agg (infoArr (pathR s'.F ks.reverse) false d.size tt (.slice none 0 0) ⟨#[]⟩), .int .i64 0]) ?_ rfl hend
  clear hend
  simp [results, Tryz.f31]
  go_simp
end Go.Proofs.YtikegddlbelfaaaGreatDoor
namespace Go.Proofs.YtikegddlbelfaaaGreatDoor
open Go.RowKit

/-- What Put has done. -/
def PutC (w : World) (B : Nat) (M : MB) (s : TSt) (ks ns : List ByteArray) (d : ByteArray) (t : Int) (e : Ending) (w' : World) : Prop :=
  ∃ s' n, e = .returned (.tuple #[.agg (infoArr (pathR s'.F ks.reverse) false d.size t (.slice none 0 0) ⟨#[]⟩), .int .i64 0]) ∧ MemT w' B M s' ∧ (s'.f = s.f ∧ s'.now = s.now) ∧ s'.F ks = some n ∧ (n.dir = false ∧ n.data = d ∧ n.time = t ∧ n.mt = .slice none 0 0) ∧ Kp (MTf M s.F) w w' ∧ (∀ i, s'.F.own i → s.F.own i ∨ w.heap.size ≤ i) ∧ SetS s s' ks ns n
set_option maxHeartbeats 4000000 in
set_option maxRecDepth 100000 in
theorem putCT_any (w0 w : World) (M : MB) (s : TSt) (p d : ByteArray) (t : Int) (hb0 : Below w0.heap.size w0 w) (hM : MemT w w0.heap.size M s) (hE : Env w0) (hT : EnvT w0) (hs : p.size ≤ 1024) (h0 : p.toList.isEmpty = false)
    (hNw : ∀ W, Below w0.heap.size w0 W → FeatBox W M.b s.f → Calls Tryz.prog 30 #[ptr M.b, .string p] W fun e w' => e = .returned (.int .i64 0) ∧ Below W.heap.size W w')
    (hc : 0 ≤ s.cnt ∧ s.cnt ≤ 5000) (hmd : 0 ≤ s.made ∧ s.made ≤ 1000000) (hd : ∀ i n, WayIs s.F (kysOf s.f p) i n → n.dir = true) (hfile : ∀ m, s.F (kysOf s.f p) = some m → m.dir = false) (hv : hasB s.f 1024 = false) (hm : hasB s.f 256 = false) (hid : hasB s.f 512 = false) (hsum : s.f.sums = 0)
    (hz : ∀ z, PutZ s.f s.F (kysOf s.f p) s.cnt d.size [] z → z = 0) (hkl : klen (kysOf s.f p).reverse ≤ 4096) (hds : d.size ≤ maxLen)
    (ht : -9223372036854775808 ≤ t ∧ t ≤ 9223372036854775807) (hn : -9223372036854775808 ≤ s.now ∧ s.now ≤ 9223372036854775807) (hp : 1 ≤ s.f.prec ∧ s.f.prec ≤ 9223372036854775807) :
    Calls Tryz.prog 11 #[ptr M.b, .string p, .string d, .int .i64 t, .slice none 0 0] w (PutC w w0.heap.size M s (kysOf s.f p) (Wh.namesOf p) d (tOfT s t)) := by
  have HCa := Lib.hid (fun W (hb : Below w.heap.size w W) => callT_any 3 (by decide) W w0.heap.size M s (hM.below hb))
  have HNw := Lib.hid hNw
  have HPu := Lib.hid (fun W (hb : Below w0.heap.size w0 W) (h : MemT W w0.heap.size M s) => putT_any w0 W M s p d t hb h hE hT hs h0 hc hmd hd hfile hv hm hid hsum hz hkl hds ht hn hp)
  unfold PutT at HPu
  have HM := Lib.hid hM
  have HLt := Lib.hid (fun i (h : MTf M s.F i) => hM.lt (i := i) (.inl h))
  have HLo := Lib.hid (fun i (h : MTf M s.F i) => hM.mf h)
  have HB0 := Lib.hid hb0
  have hx1 : BoxIs (w.alloc (.cells info0 43)) w.heap.size info0 43 := heap_alloc_new _ _
  have hb1 : Below w.heap.size w (w.alloc (.cells info0 43)) := bAlloc (Below.refl _ _) _
  generalize Wh.namesOf p = ns at *
  generalize kysOf s.f p = ks at *
  generalize tOfT s t = tt at *
  clear hM hE hT hs h0 hNw hc hmd hd hfile hv hm hid hsum hz hkl hds ht hn hp hb0
  go_enter Tryz.func11, Tryz.ntmps11
  go_upto_region 1 with fail
  obtain ⟨rz, hrz⟩ : ∃ rz, rz = w.heap.size := ⟨_, rfl⟩
  rw [← hrz] at hx1 ⊢
  have HRz := Lib.hid hrz
  have HX1 := Lib.hid hx1
  have HB1 := Lib.hid hb1
  clear hrz hx1 hb1
  generalize w.alloc _ = w1 at *
  go_upto_region 2 with (go_at_call 29; refine (HCa.out _ HB1.out).mono ?_; rintro e w2 ⟨rfl, hm2, hk2, hz2⟩)
  have hkm : ∀ i, (i = M.ca ∨ i = M.si) → MTf M s.F i := fun i e => e.elim (fun e => .inr (.inl e)) (fun e => .inr (.inr (.inl e)))
  have HK2 : Hid (Kp (MTf M s.F) w w2) := Lib.hid ((Kp.of HB1.out).trans (hk2.mono hkm))
  have HX2 := Lib.hid (HX1.out.kp hk2 (fun e => by have h1 := HLt.out _ (hkm _ e); rw [← HRz.out] at h1; omega))
  have HM2 := Lib.hid hm2
  have HB2 := Lib.hid (HB0.out.trans (HK2.out.below HLo.out HB0.out.size))
  clear hm2 hk2 hz2 HB1 HCa hkm
  go_upto_region 6 with (go_at_call 30; refine (HNw.out _ HB2.out HM2.out.feats).mono ?_; rintro e w3 ⟨rfl, hb3⟩)
  have HK3 : Hid (Kp (MTf M s.F) w w3) := Lib.hid (HK2.out.trans (Kp.of hb3))
  have HX3 := Lib.hid (HX2.out.under hb3)
  have HM3 := Lib.hid (HM2.out.below hb3)
  have HB3 := Lib.hid (HB2.out.trans (Below.mono hb3 HB2.out.size))
  have HPu3 := Lib.hid (HPu.out w3 HB3.out HM3.out)
  clear hb3 HPu HNw HX2 HM2 HB2
  go_wp2_with (go_at_call 31; refine HPu3.out.mono ?_; rintro e w4 ⟨s', n, rfl, hm4, hf4, hn4, hd4, hk4, ho4, hs4⟩; have HX4 := Lib.hid (HX3.out.kp hk4 (fun e => by have h1 := HLt.out _ (e.elim .inl (fun h => .inr (.inr (.inr h)))); rw [← HRz.out] at h1; omega)); have HM4 := Lib.hid hm4; have HK4 := Lib.hid hk4; have HF4 := Lib.hid (And.intro hf4 (And.intro hn4 (And.intro hd4 (And.intro ho4 hs4)))); clear hm4 hf4 hn4 hd4 hk4 ho4 hs4; obtain ⟨⟨p0, p1, p2, p3, p4, p5, p6⟩, f0, f1, f2, f3, f4, f5, f6⟩ := info_room HX4.out)
  have hkk : Kp (MTf M s.F) w w4 := HK3.out.trans (HK4.out.mono (fun i e => e.elim .inl (fun h => .inr (.inr (.inr h)))))
  have hend : PutC w w0.heap.size M s ks ns d tt (.returned (.tuple #[.agg (infoArr (pathR s'.F ks.reverse) false d.size tt (.slice none 0 0) ⟨#[]⟩), .int .i64 0])) (set7 w4 rz (pathR s'.F ks.reverse) false d.size tt (.slice none 0 0) ⟨#[]⟩) := by
    obtain ⟨g1, g2, g3, g4, g5⟩ := HF4.out
    refine ⟨s', n, rfl, ?_, g1, g2, g3, set7_kp hkk (.inr (Nat.le_of_eq HRz.out.symm)) _ _ _ _ _ _, fun i hi => (g4 i hi).imp (fun h => h) (fun h => Nat.le_trans HK3.out.size h), g5⟩
    refine HM4.out.kp (G := fun i => i = rz) (set7_kp (Kp.refl (fun i => i = rz) w4) (.inl rfl) _ _ _ _ _ _) (fun i hi e => ?_)
    have hz2 := HX3.out.lt
    have hr := HRz.out
    have hlt : i < w.heap.size ∨ w3.heap.size ≤ i := by
      rcases hi with (h | h | h | h) | h
      · exact .inl (HM.out.lt (.inl (.inl h)))
      · exact .inl (HM.out.lt (.inl (.inr (.inl h))))
      · exact .inl (HM.out.lt (.inl (.inr (.inr (.inl h)))))
      · exact (g4 i h).imp (fun h => HM.out.lt (.inl (.inr (.inr (.inr h))))) (fun h => h)
      · exact .inl (HM.out.lt (.inr h))
    omega
  unfold set7 at hend
  clear hkk
  try simp only [Exit.inBlock, Exit.then]
  refine bodyPost_ret (v := .tuple #[.agg (infoArr (pathR s'.F ks.reverse) false d.size tt (.slice none 0 0) ⟨#[]⟩), .int .i64 0]) ?_ rfl hend
  clear hend
  simp [results, Tryz.f11]
  go_simp
end Go.Proofs.YtikegddlbelfaaaGreatDoor
namespace Go.Proofs.YtikegddlbelfaaaGreatDoor
open Go.RowKit

theorem fileT_any (w : World) (B : Nat) (M : MB) (s : TSt) (p : ByteArray) (c : Nd) (hM : MemT w B M s) (hE : Env w) (hs : p.size ≤ 1024) (hF : s.F (kysOf s.f p) = some c) (hd : c.dir = false) :
    Calls Tryz.prog 152 #[ptr M.b, .string p] w fun e w' => e = .returned (.tuple #[ptr c.b, .int .i64 0]) ∧ Below w.heap.size w w' := by
  have HF := Lib.hid (findT_any w B M s p hM hE hs)
  rw [hF] at HF
  simp only [Option.map_some, adr] at HF
  have HC := Lib.hid (fun W (hb : Below w.heap.size w W) => (nd_cells ((hM.tree.under hb).box _ _ hF).1).2.1)
  rw [hd] at HC
  clear hM hE hs hF hd
  go_enter Tryz.func152, Tryz.ntmps152
  go_upto_region 2 with (go_at_call 86; refine HF.out.mono ?_; rintro e w1 ⟨rfl, hb1⟩)
  have c1 := HC.out _ hb1
  go_wp2_with fail
  go_ret2
  exact ⟨rfl, hb1⟩
def GetT (w : World) (B : Nat) (M : MB) (s : TSt) (r : ByteArray) (e : Ending) (w' : World) : Prop := e = .returned (.tuple #[.string r, .int .i64 0]) ∧ MemT w' B M s ∧ Kp (MTf M s.F) w w' ∧ (∃ w1, Kp (fun i => i = M.ca ∨ i = M.si) w w1 ∧ w1.heap.size = w.heap.size ∧ Below w1.heap.size w1 w')
set_option maxHeartbeats 2000000 in
set_option maxRecDepth 100000 in
theorem getT_any (w0 w : World) (M : MB) (s : TSt) (p : ByteArray) (c : Nd) (frm m : Nat) (hm : m = min 65536 (c.data.size - frm)) (hfr : frm ≤ c.data.size) (hz : c.data.size ≤ 1048576) (hE : Env w0) (hb0 : Below w0.heap.size w0 w) (hM : MemT w w0.heap.size M s) (hs : p.size ≤ 1024) (hF : s.F (kysOf s.f p) = some c) (hd : c.dir = false)
    (hIs : ∀ W, Below w0.heap.size w0 W → Calls Tryz.prog 59 #[.string p] W fun e w' => e = .returned (.int .i64 0) ∧ Below W.heap.size W w') :
    Calls Tryz.prog 149 #[ptr M.b, .string p, .int .i64 frm, .int .i64 65536] w (GetT w w0.heap.size M s (c.data.extract frm (frm + m))) := by
  have HBe := Lib.hid (beginT_any 2 (by decide) w w0.heap.size M s hM)
  have HIs := Lib.hid hIs
  have HFi := Lib.hid (fun W (hb : Below w0.heap.size w0 W) (h : MemT W w0.heap.size M s) => fileT_any W w0.heap.size M s p c h (hE.below hb (Nat.le_refl _)) hs hF hd)
  have HM := Lib.hid hM
  have HB0 := Lib.hid hb0
  clear hIs hE hs hd
  have h0 : ¬ ((frm : Int) < 0) := by omega
  have hmin1 : min (frm : Int) (c.data.size : Int) = (frm : Int) := by omega
  obtain ⟨r, hr⟩ : ∃ r, r = c.data.size - frm := ⟨_, rfl⟩
  have e1 : IntKind.i64.wrap ((c.data.size : Int) - (frm : Int)) = (r : Int) := by rw [IntWalk.i64_in _ (by omega)]; omega
  have hmin2 : min (65536 : Int) (r : Int) = (m : Int) := by omega
  have hle : frm + m ≤ c.data.size := by omega
  obtain ⟨fm, hfm⟩ : ∃ fm, frm + m = fm := ⟨_, rfl⟩
  rw [hfm] at hle
  have e3 : IntKind.i64.wrap ((frm : Int) + (m : Int)) = (fm : Int) := by rw [IntWalk.i64_in _ (by omega)]; omega
  have hle2 : (fm : Int) ≤ (c.data.size : Int) := by omega
  have hle3 : (frm : Int) ≤ (fm : Int) := by omega
  have HFm := Lib.hid hfm
  have HC := Lib.hid hF
  clear hM hb0 hm hfm hF hr
  go_enter Tryz.func149, Tryz.ntmps149
  go_upto_region 4 with (go_at_call 151; refine HBe.out.mono ?_; rintro e w1 ⟨rfl, hm1, hk1, hz1⟩)
  have HG1 : Hid (Kp (MTf M s.F) w w1) := Lib.hid (hk1.mono (fun i e => e.elim (fun e => .inr (.inl e)) (fun e => .inr (.inr (.inl e)))))
  have HM1 := Lib.hid hm1
  have HK1 := Lib.hid (And.intro hk1 hz1)
  have HB1 : Hid (Below w0.heap.size w0 w1) := Lib.hid (HB0.out.trans (HG1.out.below (fun i h => HM.out.mf h) HB0.out.size))
  clear hm1 hk1 hz1 HBe
  go_upto_region 7 with (go_at_call 59; refine (HIs.out _ HB1.out).mono ?_; rintro e w2 ⟨rfl, hb2⟩)
  have HB2 : Hid (Below w0.heap.size w0 w2) := Lib.hid (HB1.out.trans (Below.mono hb2 HB1.out.size))
  have HM2 := Lib.hid (HM1.out.below hb2)
  have HBl2 := Lib.hid hb2
  clear hb2 HIs
  go_upto_region 10 with (go_at_call 152; refine (HFi.out _ HB2.out HM2.out).mono ?_; rintro e w3 ⟨rfl, hb3⟩)
  have HM3 := Lib.hid (HM2.out.below hb3)
  have HBl3 := Lib.hid (bTrans HBl2.out hb3)
  have n4 : w3.cell? ⟨c.b, 4, none⟩ = some (.string c.data) := (HM3.out.tree.box _ _ HC.out).1.cell (j := 4) rfl
  clear hb3 HFi
  go_upto_region 13 with fail
  have n4d : w3.drew.cell? ⟨c.b, 4, none⟩ = some (.string c.data) := n4
  --R13
  refine wp_region_seq (fun W => W.cell? ⟨c.b, 4, none⟩ = some (.string c.data)) [(0, true), (1, true), (2, true), (3, true), (4, true), (5, true), (6, true), (7, true), (8, true), (9, true), (10, true), (11, true), (12, true), (13, true), (14, true), (15, true), (16, true), (17, true), (18, true)] (by as_aux_lemma => kernel_rfl) (by as_aux_lemma => kernel_rfl) (by decide) (by as_aux_lemma => kernel_rfl) n4d ?_
  intro OPS HO
  refine seq_take (o := ⟨_, _, _, _, _, _⟩) (v := ?_) (by rw [HO.out]; rfl) (by rfl) ?_ ?_
  rotate_left 1
  · first | ((intro W _; go_simp) <;> with_reducible rfl) | (intro W hW; skip; (go_simp <;> with_reducible rfl))
  try simp only [Act.put, List.setIfInBounds_toArray, List.set_cons_zero, List.set_cons_succ]
  refine seq_take (o := ⟨_, _, _, _, _, _⟩) (v := ?_) (by rw [HO.out]; rfl) (by rfl) ?_ ?_
  rotate_left 1
  · first | ((intro W _; go_simp) <;> with_reducible rfl) | (intro W hW; skip; (go_simp <;> with_reducible rfl))
  try simp only [Act.put, List.setIfInBounds_toArray, List.set_cons_zero, List.set_cons_succ]
  refine seq_take (o := ⟨_, _, _, _, _, _⟩) (v := ?_) (by rw [HO.out]; rfl) (by rfl) ?_ ?_
  rotate_left 1
  · first | ((intro W _; go_simp) <;> with_reducible rfl) | (intro W hW; skip; (go_simp <;> with_reducible rfl))
  try simp only [Act.put, List.setIfInBounds_toArray, List.set_cons_zero, List.set_cons_succ]
  refine seq_take (o := ⟨_, _, _, _, _, _⟩) (v := ?_) (by rw [HO.out]; rfl) (by rfl) ?_ ?_
  rotate_left 1
  · first | ((intro W _; go_simp) <;> with_reducible rfl) | (intro W hW; skip; (go_simp <;> with_reducible rfl))
  try simp only [Act.put, List.setIfInBounds_toArray, List.set_cons_zero, List.set_cons_succ]
  refine seq_take (o := ⟨_, _, _, _, _, _⟩) (v := ?_) (by rw [HO.out]; rfl) (by rfl) ?_ ?_
  rotate_left 1
  · first | ((intro W _; go_simp) <;> with_reducible rfl) | (intro W hW; skip; (go_simp <;> with_reducible rfl))
  try simp only [Act.put, List.setIfInBounds_toArray, List.set_cons_zero, List.set_cons_succ]
  refine seq_take (o := ⟨_, _, _, _, _, _⟩) (v := ?_) (by rw [HO.out]; rfl) (by rfl) ?_ ?_
  rotate_left 1
  · first | ((intro W _; go_simp) <;> with_reducible rfl) | (intro W hW; skip; (go_simp <;> with_reducible rfl))
  try simp only [Act.put, List.setIfInBounds_toArray, List.set_cons_zero, List.set_cons_succ]
  refine seq_take (o := ⟨_, _, _, _, _, _⟩) (v := ?_) (by rw [HO.out]; rfl) (by rfl) ?_ ?_
  rotate_left 1
  · first | ((intro W _; go_simp) <;> with_reducible rfl) | (intro W hW; skip; (go_simp <;> with_reducible rfl))
  try simp only [Act.put, List.setIfInBounds_toArray, List.set_cons_zero, List.set_cons_succ]
  refine seq_take (o := ⟨_, _, _, _, _, _⟩) (v := ?_) (by rw [HO.out]; rfl) (by rfl) ?_ ?_
  rotate_left 1
  · first | ((intro W _; go_simp) <;> with_reducible rfl) | (intro W hW; skip; (go_simp <;> with_reducible rfl))
  try simp only [Act.put, List.setIfInBounds_toArray, List.set_cons_zero, List.set_cons_succ]
  refine seq_take (o := ⟨_, _, _, _, _, _⟩) (v := ?_) (by rw [HO.out]; rfl) (by rfl) ?_ ?_
  rotate_left 1
  · first | ((intro W _; go_simp) <;> with_reducible rfl) | (intro W hW; skip; (go_simp <;> with_reducible rfl))
  try simp only [Act.put, List.setIfInBounds_toArray, List.set_cons_zero, List.set_cons_succ]
  refine seq_take (o := ⟨_, _, _, _, _, _⟩) (v := ?_) (by rw [HO.out]; rfl) (by rfl) ?_ ?_
  rotate_left 1
  · first | ((intro W _; go_simp) <;> with_reducible rfl) | (intro W hW; skip; (go_simp <;> with_reducible rfl))
  try simp only [Act.put, List.setIfInBounds_toArray, List.set_cons_zero, List.set_cons_succ]
  refine seq_take (o := ⟨_, _, _, _, _, _⟩) (v := ?_) (by rw [HO.out]; rfl) (by rfl) ?_ ?_
  rotate_left 1
  · first | ((intro W _; go_simp) <;> with_reducible rfl) | (intro W hW; skip; (go_simp <;> with_reducible rfl))
  try simp only [Act.put, List.setIfInBounds_toArray, List.set_cons_zero, List.set_cons_succ]
  refine seq_take (o := ⟨_, _, _, _, _, _⟩) (v := ?_) (by rw [HO.out]; rfl) (by rfl) ?_ ?_
  rotate_left 1
  · first | ((intro W _; go_simp) <;> with_reducible rfl) | (intro W hW; skip; (go_simp <;> with_reducible rfl))
  try simp only [Act.put, List.setIfInBounds_toArray, List.set_cons_zero, List.set_cons_succ]
  refine seq_take (o := ⟨_, _, _, _, _, _⟩) (v := ?_) (by rw [HO.out]; rfl) (by rfl) ?_ ?_
  rotate_left 1
  · first | ((intro W _; go_simp) <;> with_reducible rfl) | (intro W hW; skip; (go_simp <;> with_reducible rfl))
  try simp only [Act.put, List.setIfInBounds_toArray, List.set_cons_zero, List.set_cons_succ]
  refine seq_take (o := ⟨_, _, _, _, _, _⟩) (v := ?_) (by rw [HO.out]; rfl) (by rfl) ?_ ?_
  rotate_left 1
  · first | ((intro W _; go_simp) <;> with_reducible rfl) | (intro W hW; skip; (go_simp <;> with_reducible rfl))
  try simp only [Act.put, List.setIfInBounds_toArray, List.set_cons_zero, List.set_cons_succ]
  refine seq_take (o := ⟨_, _, _, _, _, _⟩) (v := ?_) (by rw [HO.out]; rfl) (by rfl) ?_ ?_
  rotate_left 1
  · first | ((intro W _; go_simp) <;> with_reducible rfl) | (intro W hW; skip; (go_simp <;> with_reducible rfl))
  try simp only [Act.put, List.setIfInBounds_toArray, List.set_cons_zero, List.set_cons_succ]
  refine seq_take (o := ⟨_, _, _, _, _, _⟩) (v := ?_) (by rw [HO.out]; rfl) (by rfl) ?_ ?_
  rotate_left 1
  · first | ((intro W _; go_simp) <;> with_reducible rfl) | (intro W hW; skip; (go_simp <;> with_reducible rfl))
  try simp only [Act.put, List.setIfInBounds_toArray, List.set_cons_zero, List.set_cons_succ]
  refine seq_take (o := ⟨_, _, _, _, _, _⟩) (v := ?_) (by rw [HO.out]; rfl) (by rfl) ?_ ?_
  rotate_left 1
  · first | ((intro W _; go_simp) <;> with_reducible rfl) | (intro W hW; skip; (go_simp <;> with_reducible rfl))
  try simp only [Act.put, List.setIfInBounds_toArray, List.set_cons_zero, List.set_cons_succ]
  refine seq_take (o := ⟨_, _, _, _, _, _⟩) (v := ?_) (by rw [HO.out]; rfl) (by rfl) ?_ ?_
  rotate_left 1
  · first | ((intro W _; go_simp) <;> with_reducible rfl) | (intro W hW; skip; (go_simp <;> with_reducible rfl))
  try simp only [Act.put, List.setIfInBounds_toArray, List.set_cons_zero, List.set_cons_succ]
  refine seq_take (o := ⟨_, _, _, _, _, _⟩) (v := ?_) (by rw [HO.out]; rfl) (by rfl) ?_ ?_
  rotate_left 1
  · first | ((intro W _; go_simp) <;> with_reducible rfl) | (intro W hW; skip; (go_simp <;> with_reducible rfl))
  try simp only [Act.put, List.setIfInBounds_toArray, List.set_cons_zero, List.set_cons_succ]
  refine seq_done ?_
  --ENDR13
  go_wp2_with fail
  go_ret2
  refine ⟨?_, HM3.out.drew, HG1.out.trans (Kp.of (below_drewn HBl3.out)), w1, HK1.out.1, HK1.out.2, below_drewn HBl3.out⟩
  rw [HFm.out]
  rfl
end Go.Proofs.YtikegddlbelfaaaGreatDoor
namespace Go.Proofs.YtikegddlbelfaaaGreatDoor
open Go.RowKit

theorem method_ptr {P : Program} {w : World} {t e : TypeId} {i : TypeInfo} {f : FuncId} {nm : String} (hi : P.info? t = some i) (hm : (i.methods.find? (·.name == nm)).map (fun m => (m.path.toList, m.func)) = some ([], some (f, true)))
    (hu : P.underlying t = some (.pointer e)) {n : Nat} (hn : 0 < n) (v : Value) : (method n t v nm).run P w = .ok (f, v) w := by
  obtain ⟨k, rfl⟩ : ∃ k, n = k + 1 := ⟨n - 1, by omega⟩
  cases h : i.methods.find? (·.name == nm) with
  | none => rw [h] at hm; cases hm
  | some m =>
    rw [h] at hm
    simp only [Option.map_some, Option.some.injEq, Prod.mk.injEq] at hm
    unfold method
    simp [typeInfo, hi, h, follow, hm.1, hm.2, receiverAt, run_underlying hu, Place.get]
theorem Below.kpw {B : Nat} {w w' : World} (h : Below B w w') : Kp (fun i => B ≤ i) w w' := ⟨h.os, h.tape, h.output, h.size, fun k _ hF => h.block k (by omega)⟩
theorem Kp.extB {F : Nat → Prop} {w w2 w3 : World} (h : Kp F w w2) (hb : Below w.heap.size w2 w3) : Kp F w w3 :=
  ⟨hb.os.trans h.os, hb.tape.trans h.tape, hb.output.trans h.output, Nat.le_trans h.size hb.size, fun k hk hF => (hb.block k hk).trans (h.block k hk hF)⟩
/-- A builder whose blocks lie from B on. -/
def BldK (B b : Nat) (out : List UInt8) (w : World) : Prop := Lib.IsBuilderF 91 5 B b (Lib.byteCells out) w ∧ B ≤ w.heap.size
theorem atF_kp {T e : TypeId} {B b : Nat} {p : Value} {bs : List Value} {F : Nat → Prop} {w w' : World} (h : Lib.BuilderAtF T e B b p bs w) (hk : Kp F w w') (hF : ∀ i, F i → i < B) : Lib.BuilderAtF T e B b p bs w' := by
  obtain ⟨hB, v, hb, hown, hne⟩ := h
  refine ⟨hB, v, ?_, ⟨hown.1, ?_⟩, hne⟩
  · rw [hk.block b (Array.getElem?_eq_some_iff.1 hb).1 (fun e => by have := hF b e; omega)]
    exact hb
  · rcases hown.2 with hn | ⟨g, c, cur, fz, hv, h1, h2, h3⟩
    · exact .inl hn
    · refine .inr ⟨g, c, cur, fz, hv, h1, ?_, h3⟩
      rw [hk.block g (Array.getElem?_eq_some_iff.1 h2).1 (fun e => by have := hF g e; omega)]
      exact h2
theorem BldK.kp {B b : Nat} {out : List UInt8} {F : Nat → Prop} {w w' : World} (h : BldK B b out w) (hk : Kp F w w') (hF : ∀ i, F i → i < B) : BldK B b out w' :=
  ⟨h.1.elim (fun x => .inl (atF_kp x hk hF)) (fun x => .inr (atF_kp x hk hF)), Nat.le_trans h.2 hk.size⟩
theorem BldK.fresh (w : World) : BldK w.heap.size w.heap.size [] (w.alloc (.cells #[.pointer none, .slice none 0 0] 91)) :=
  ⟨.inl ⟨Nat.le_refl _, .slice none 0 0, heap_alloc_new w _, ⟨rfl, .inl ⟨rfl, rfl⟩⟩, by simp [Value.ownBlock]⟩, (bAlloc (Below.refl w.heap.size w) _).size⟩
theorem lenK {B b : Nat} {out : List UInt8} {w : World} (h : BldK B b out w) (n : Nat) (hn : out.length = n) : Calls Tryz.prog 42 #[.pointer (some ⟨b, 0, none⟩)] w fun e w' => e = .returned (.int .i64 n) ∧ w' = w := by
  have h2 := Tryz.Builder_Len_f B b (Lib.byteCells out) w h.1
  rw [show (Lib.byteCells out).length = n by rw [← hn]; simp [Lib.byteCells]] at h2
  exact h2
theorem writeK {B b : Nat} {out : List UInt8} {w : World} (h : BldK B b out w) (s : ByteArray) (hl : out.length + s.size ≤ 140737488355328) :
    Calls Tryz.prog 43 #[.pointer (some ⟨b, 0, none⟩), .string s] w fun e w' => e = .returned (.tuple #[.int .i64 s.size, .nilIface]) ∧ BldK B b (out ++ s.data.toList) w' ∧ Below B w w' := by
  refine (Any.Builder_WriteString_k { Tryz.lays156 with } Tryz.Builder_Extra_156 B b (Lib.byteCells out) s w h.1 (by simpa [Lib.byteCells] using hl) h.2).mono ?_
  rintro e w' ⟨rfl, h1, h2, h3⟩
  refine ⟨rfl, ⟨.inr ?_, Nat.le_trans h.2 h2.size⟩, h2⟩
  have : Lib.byteCells (out ++ s.data.toList) = Lib.byteCells out ++ Lib.strCells s := by
    simp [Lib.byteCells, Lib.strCells]
  rw [this]
  exact h1
theorem stringK {B b : Nat} {out : List UInt8} {w : World} (h : BldK B b out w) :
    Calls Tryz.prog 44 #[.pointer (some ⟨b, 0, none⟩)] w fun e w' => e = .returned (.string ⟨out.toArray⟩) ∧ Below B w w' := by
  refine (Any.Builder_String_any_k { Tryz.lays156 with } Tryz.Builder_Extra_156 B b out w h.1 h.2).mono ?_
  rintro e w' ⟨rfl, h1, h2, _⟩
  exact ⟨rfl, h2⟩
theorem memM_get (w : World) (n : Nat) (v : Value) (hn : 0 < n) : (method n 28 v "Get").run Tryz.prog w = .ok (149, v) w := by
  obtain ⟨i, hi, hm⟩ := Option.map_eq_some_iff.1 (show (Tryz.prog.info? 28).map (fun i => (i.methods.find? (·.name == "Get")).map (fun m => (m.path.toList, m.func))) = some (some ([], some (149, true))) by kernel_rfl)
  exact method_ptr hi hm Tryz.underlying28 hn v

theorem memA_get (w : World) (n : Nat) (v : Value) (hn : 0 < n) : (nilAhead n 28 v "Get").run Tryz.prog w = .ok (some false) w := by
  obtain ⟨i, hi, hm⟩ := Option.map_eq_some_iff.1 (show (Tryz.prog.info? 28).map (fun i => (i.methods.find? (·.name == "Get")).map (fun m => (m.path.toList, m.func))) = some (some ([], some (149, true))) by kernel_rfl)
  obtain ⟨k, rfl⟩ : ∃ k, n = k + 1 := ⟨n - 1, by omega⟩
  cases h : i.methods.find? (·.name == "Get") with
  | none => rw [h] at hm; cases hm
  | some m =>
    rw [h] at hm
    simp only [Option.map_some, Option.some.injEq, Prod.mk.injEq] at hm
    unfold nilAhead
    simp [typeInfo, hi, h, followBlind, hm.1, hm.2]

def WholeT (w : World) (B : Nat) (M : MB) (s : TSt) (r : ByteArray) (e : Ending) (w' : World) : Prop := e = .returned (.tuple #[.string r, .int .i64 0]) ∧ MemT w' B M s ∧ Kp (MTf M s.F) w w'
set_option maxHeartbeats 2000000 in
set_option maxRecDepth 100000 in
theorem wholeT_any (w0 w : World) (M : MB) (s : TSt) (p : ByteArray) (c : Nd) (hz : c.data.size ≤ 1048576) (hE : Env w0) (hb0 : Below w0.heap.size w0 w) (hM : MemT w w0.heap.size M s) (hs : p.size ≤ 1024) (hF : s.F (kysOf s.f p) = some c) (hd : c.dir = false)
    (hIs : ∀ W, Below w0.heap.size w0 W → Calls Tryz.prog 59 #[.string p] W fun e w' => e = .returned (.int .i64 0) ∧ Below W.heap.size W w') :
    Calls Tryz.prog 14 #[.iface 28 (ptr M.b), .string p] w (WholeT w w0.heap.size M s c.data) := by
  have HGt := Lib.hid (fun W (hb : Below w0.heap.size w0 W) (h : MemT W w0.heap.size M s) frm m (hm : m = min 65536 (c.data.size - frm)) (hfr : frm ≤ c.data.size) => getT_any w0 W M s p c frm m hm hfr hz hE hb h hs hF hd hIs)
  unfold GetT at HGt
  have HM := Lib.hid hM
  have HMl := Lib.hid (fun i (hi : MTf M s.F i ∨ i = M.cb) => hM.lt hi)
  have HB0 := Lib.hid hb0
  have hmt := memM_get
  have hma := memA_get
  have hBl := BldK.fresh w
  have hb1 : Below w.heap.size w (w.alloc (.cells #[.pointer none, .slice none 0 0] 91)) := bAlloc (Below.refl _ _) _
  clear hM hb0 hE hs hF hd hIs
  go_enter Tryz.func14, Tryz.ntmps14
  go_upto_region 2 with fail
  obtain ⟨B, hB⟩ : ∃ B, w.heap.size = B := ⟨_, rfl⟩
  have HBz := Lib.hid hB
  rw [hB] at hBl ⊢
  have HBl := Lib.hid hBl
  have HG1 : Hid (Kp (MTf M s.F) w (w.alloc (.cells #[.pointer none, .slice none 0 0] 91))) := Lib.hid (Kp.of hb1)
  have HM1 := Lib.hid (HM.out.below hb1)
  clear hB hBl hb1
  generalize w.alloc _ = w1 at *
  obtain ⟨dl, hdl⟩ : ∃ dl, c.data.data.toList = dl := ⟨_, rfl⟩
  have HDl := Lib.hid hdl
  have hds : dl.length = c.data.size := by rw [← hdl, Lib.size_eq]
  have HDs := Lib.hid hds
  clear hdl hds
  go_loopg [7] c.data.size (fun gk s7 wx => ∃ k : Nat, k ≤ c.data.size ∧ c.data.size - k ≤ gk ∧ Hid (BldK B B (dl.take k) wx) ∧ Hid (MemT wx w0.heap.size M s) ∧ Hid (Kp (MTf M s.F) w wx))
  case atStart => exact ⟨0, Nat.zero_le _, by omega, HBl, HM1, HG1⟩
  case round =>
    clear HBl HM1 HG1
    obtain ⟨k, hk, hgk, HBx, HMx, HGx⟩ := hrel
    obtain ⟨m, hm⟩ : ∃ m, m = min 65536 (c.data.size - k) := ⟨_, rfl⟩
    have hbw : Below w0.heap.size w0 wr.drew := below_drewn (HB0.out.trans (HGx.out.below (fun i h => HM.out.mf h) HB0.out.size))
    have HGm := Lib.hid (HGt.out wr.drew hbw HMx.out.drew k m hm hk)
    obtain ⟨pc, hpc⟩ : ∃ pc, c.data.extract k (k + m) = pc := ⟨_, rfl⟩
    rw [hpc] at HGm
    have hpl : pc.data.toList = (dl.drop k).take m := by
      rw [← hpc, ByteArray.data_extract, Array.toList_extract, List.extract_eq_take_drop, HDl.out]
      congr 1
      omega
    have hps : pc.size = m := by
      rw [Lib.size_eq, hpl, List.length_take, List.length_drop, HDs.out, hm]
      omega
    have HBd : Hid (BldK B B (dl.take k) wr.drew) := Lib.hid (HBx.out.kp ((Kp.refl (fun _ => False) wr).drew 1) (fun _ e => e.elim))
    have hkl : (dl.take k).length = k := by rw [List.length_take, HDs.out]; omega
    have HKl := Lib.hid hkl
    have HPl := Lib.hid hpl
    have HPs := Lib.hid hps
    have HMm := Lib.hid hm
    clear hpc hpl hps hbw hm hkl
    go_upto_region 2 with fail
    --R2
    refine wp_region_seqQ (BldK B B (dl.take k)) 1000 [(0, true), (1, true), (2, true), (3, true), (4, true), (5, true), (6, false), (7, true), (8, true), (9, true), (10, true), (11, true)] (by as_aux_lemma => kernel_rfl) (by as_aux_lemma => kernel_rfl) (by as_aux_lemma => kernel_rfl) (by decide) (by as_aux_lemma => kernel_rfl) (by decide) HBd.out ?_
    intro OPS HO
    refine seqQ_take (o := ⟨_, _, _, _, _, _⟩) (v := ?_) (by rw [HO.out]; rfl) (by rfl) ?_ ?_
    rotate_left 1
    · first | ((intro W _; go_simp) <;> with_reducible rfl) | (intro W hW; skip; (go_simp <;> with_reducible rfl))
    try simp only [Act.put, List.setIfInBounds_toArray, List.set_cons_zero, List.set_cons_succ]
    refine seqQ_take (o := ⟨_, _, _, _, _, _⟩) (v := ?_) (by rw [HO.out]; rfl) (by rfl) ?_ ?_
    rotate_left 1
    · first | ((intro W _; go_simp) <;> with_reducible rfl) | (intro W hW; skip; (go_simp <;> with_reducible rfl))
    try simp only [Act.put, List.setIfInBounds_toArray, List.set_cons_zero, List.set_cons_succ]
    refine seqQ_quiet (o := ⟨_, _, _, _, _, _⟩) (by rw [HO.out]; rfl) (by rfl) 42 _ (fun W hW => ?_) _ (fun W hW => lenK hW k HKl.out) ?_
    · skip; (go_simp <;> with_reducible rfl)
    try simp only [Act.put, List.setIfInBounds_toArray, List.set_cons_zero, List.set_cons_succ]
    refine seqQ_take (o := ⟨_, _, _, _, _, _⟩) (v := ?_) (by rw [HO.out]; rfl) (by rfl) ?_ ?_
    rotate_left 1
    · first | ((intro W _; go_simp) <;> with_reducible rfl) | (intro W hW; skip; (go_simp <;> with_reducible rfl))
    try simp only [Act.put, List.setIfInBounds_toArray, List.set_cons_zero, List.set_cons_succ]
    refine seqQ_take (o := ⟨_, _, _, _, _, _⟩) (v := ?_) (by rw [HO.out]; rfl) (by rfl) ?_ ?_
    rotate_left 1
    · first | ((intro W _; go_simp) <;> with_reducible rfl) | (intro W hW; skip; (go_simp <;> with_reducible rfl))
    try simp only [Act.put, List.setIfInBounds_toArray, List.set_cons_zero, List.set_cons_succ]
    refine seqQ_take (o := ⟨_, _, _, _, _, _⟩) (v := ?_) (by rw [HO.out]; rfl) (by rfl) ?_ ?_
    rotate_left 1
    · first | ((intro W _; go_simp) <;> with_reducible rfl) | (intro W hW; skip; (go_simp <;> with_reducible rfl))
    try simp only [Act.put, List.setIfInBounds_toArray, List.set_cons_zero, List.set_cons_succ]
    refine seqQ_do (o := ⟨_, _, _, _, _, _⟩) (by rw [HO.out]; rfl) (by rfl) (fun K hK => ?_)
    go_wp2_with fail
    refine HGm.out.mono ?_
    rintro e w2 ⟨rfl, hm2, hg2, wm, hk2, hz2, hb2⟩
    have hS : BldK B B (dl.take k) w2 := (HBd.out.kp hk2 (fun i hi => by
      have hl : MTf M s.F i := hi.elim (fun e => .inr (.inl e)) (fun e => .inr (.inr (.inl e)))
      have := HMl.out i (.inl hl)
      rw [HBz.out] at this
      exact this)).kp (Kp.of (F := fun _ => False) hb2) (fun _ e => e.elim)
    refine hK.out _ _ (fun _ => hS) ?_
    clear hK K
    try simp only [Act.put, List.setIfInBounds_toArray, List.set_cons_zero, List.set_cons_succ]
    refine seqQ_take (o := ⟨_, _, _, _, _, _⟩) (v := ?_) (by rw [HO.out]; rfl) (by rfl) ?_ ?_
    rotate_left 1
    · first | ((intro W _; go_simp) <;> with_reducible rfl) | (intro W hW; skip; (go_simp <;> with_reducible rfl))
    try simp only [Act.put, List.setIfInBounds_toArray, List.set_cons_zero, List.set_cons_succ]
    refine seqQ_take (o := ⟨_, _, _, _, _, _⟩) (v := ?_) (by rw [HO.out]; rfl) (by rfl) ?_ ?_
    rotate_left 1
    · first | ((intro W _; go_simp) <;> with_reducible rfl) | (intro W hW; skip; (go_simp <;> with_reducible rfl))
    try simp only [Act.put, List.setIfInBounds_toArray, List.set_cons_zero, List.set_cons_succ]
    refine seqQ_take (o := ⟨_, _, _, _, _, _⟩) (v := ?_) (by rw [HO.out]; rfl) (by rfl) ?_ ?_
    rotate_left 1
    · first | ((intro W _; go_simp) <;> with_reducible rfl) | (intro W hW; skip; (go_simp <;> with_reducible rfl))
    try simp only [Act.put, List.setIfInBounds_toArray, List.set_cons_zero, List.set_cons_succ]
    refine seqQ_take (o := ⟨_, _, _, _, _, _⟩) (v := ?_) (by rw [HO.out]; rfl) (by rfl) ?_ ?_
    rotate_left 1
    · first | ((intro W _; go_simp) <;> with_reducible rfl) | (intro W hW; skip; (go_simp <;> with_reducible rfl))
    try simp only [Act.put, List.setIfInBounds_toArray, List.set_cons_zero, List.set_cons_succ]
    refine seqQ_take (o := ⟨_, _, _, _, _, _⟩) (v := ?_) (by rw [HO.out]; rfl) (by rfl) ?_ ?_
    rotate_left 1
    · first | ((intro W _; go_simp) <;> with_reducible rfl) | (intro W hW; skip; (go_simp <;> with_reducible rfl))
    try simp only [Act.put, List.setIfInBounds_toArray, List.set_cons_zero, List.set_cons_succ]
    refine seqQ_done ?_
    --ENDR2
    have HM2 := Lib.hid hm2
    have HG2 : Hid (Kp (MTf M s.F) w w2) := Lib.hid (HGx.out.trans (((Kp.refl _ wr).drew 1).trans hg2))
    have HW2 := Lib.hid (writeK hS pc (by rw [HKl.out, HPs.out]; have := HMm.out; omega))
    have hout : dl.take k ++ pc.data.toList = dl.take (k + m) := by rw [HPl.out, ← List.take_add]
    have hsp : (pc.size : Int) = (m : Int) := by rw [HPs.out]
    rw [hout] at HW2
    clear hout hm2 hg2 hk2 hz2 hb2 hS
    go_upto_region 6 with (go_at_call 43; refine HW2.out.mono ?_; rintro e w3 ⟨rfl, hw3a, hw3b⟩)
    have HB3 := Lib.hid hw3a
    have HG3 : Hid (Kp (MTf M s.F) w w3) := Lib.hid (HG2.out.extB (by rw [HBz.out]; exact hw3b))
    have HM3 : Hid (MemT w3 w0.heap.size M s) := Lib.hid (HM2.out.kp (Below.kpw hw3b) (fun i hi e => by
      have := HMl.out i hi
      rw [HBz.out] at this
      omega))
    clear hw3a hw3b HW2
    by_cases hlast : m < 65536
    · have hl2 : (m : Int) < 65536 := by omega
      have HSt := Lib.hid (stringK HB3.out)
      have hfull : dl.take (k + m) = dl := List.take_of_length_le (by rw [HDs.out]; have := HMm.out; omega)
      rw [hfull] at HSt
      have HBy : Hid ((⟨dl.toArray⟩ : ByteArray) = c.data) := Lib.hid (by rw [← HDl.out])
      rw [HBy.out] at HSt
      clear hfull
      go_wp2_with (go_at_call 44; refine HSt.out.mono ?_; rintro e w4 ⟨rfl, hb4⟩)
      go_ret2
      refine ⟨rfl, HM3.out.kp (Below.kpw hb4) (fun i hi e => by
        have := HMl.out i hi
        rw [HBz.out] at this
        omega), HG3.out.extB (by rw [HBz.out]; exact hb4)⟩
    · have hl2 : ¬ ((m : Int) < 65536) := by omega
      obtain ⟨g, rfl⟩ : ∃ g, gk = g + 1 := ⟨gk - 1, by have := HMm.out; omega⟩
      go_wp2_with fail
      go_roundg g
      case measure => omega
      case rel => exact ⟨k + m, by have := HMm.out; omega, by have := HMm.out; omega, HB3, HM3, HG3⟩
end Go.Proofs.YtikegddlbelfaaaGreatDoor
namespace Go.Proofs.YtikegddlbelfaaaGreatDoor
open Go.RowKit

theorem isFileT_ok (f : Wh.Feat) (p : ByteArray) (w : World) (hE : Env w) (hp : PathOk f p) :
    Calls Tryz.prog 59 #[.string p] w fun e w' => e = .returned (.int .i64 0) ∧ Below w.heap.size w w' := by
  have HC := Lib.hid (check_any p w hE (Nat.le_trans hp.size (by decide)))
  have h0 := hp.ne
  rw [hp.err] at HC
  clear hE hp
  go_enter Tryz.func59, Tryz.ntmps59
  go_wp2_with (go_at_call 15; refine HC.out.mono ?_; rintro e w1 ⟨rfl, hb1⟩)
  go_ret
  exact ⟨rfl, hb1⟩
set_option maxHeartbeats 2000000 in
set_option maxRecDepth 100000 in
theorem isNewT_ok (b : Nat) (f : Wh.Feat) (p : ByteArray) (w : World) (hE : Env w) (hp : PathOk f p) (hB : FeatBox w b f) (hfl : f.forbid.size < 4294967281) (hfa : ∀ b ∈ f.forbid.data.toList, b.toNat < 128) :
    Calls Tryz.prog 30 #[ptr b, .string p] w fun e w' => e = .returned (.int .i64 0) ∧ Below w.heap.size w w' := by
  have HC := Lib.hid (isFileT_ok f p w hE hp)
  have HF := Lib.hid (fun W (hb : Below w.heap.size w W) => storefits_any f p W (hE.under hb) hp.err hfl hfa)
  rw [hp.fits] at HF
  have HB := Lib.hid hB
  clear hE hB hp
  go_enter Tryz.func30, Tryz.ntmps30
  go_upto_region 2 with (go_at_call 59; refine HC.out.mono ?_; rintro e w1 ⟨rfl, hb1⟩)
  have HFp := Lib.hid (HF.out w1 hb1)
  go_upto_region 4 with fail
  obtain ⟨k0, k1, k2, k3, k4, k5, k6, k7, k8, k9⟩ := HB.out.under hb1
  unfold featVal at HFp
  go_wp2_with (go_at_call 60; refine HFp.out.mono ?_; rintro e w2 ⟨rfl, hb2⟩)
  go_ret
  exact ⟨rfl, bTrans hb1 hb2⟩
end Go.Proofs.YtikegddlbelfaaaGreatDoor
