/-
  Parts of the proof: TpL.
-/
import Derived.Deep.RegionHeld3
import Derived.Shelf.Strings.BuilderK
import Derived.ShutString
import Derived.Test.YtchfhojighopkaaGreatDoorGuAL
import Derived.Test.YtchfhojighopkaaGreatDoorGuAA
import Derived.Test.YtchfhojighopkaaGreatDoorGuAR
namespace Go.Proofs.YtchfhojighopkaaGreatDoor
open Go.RowKit
theorem MemT.now {w : World} {B : Nat} {M : MB} {s : TSt} (h : MemT w B M s) : w.cell? ⟨M.cb, 0, none⟩ = some (.int .i64 s.now) := h.clk.cell (j := 0) rfl
/-- Only the counts of calls have changed. -/
theorem MemT.counted {w w' : World} {B : Nat} {M : MB} {s : TSt} (h : MemT w B M s) (hk : Kp (fun i => i = M.ca ∨ i = M.si) w w') (hc : Ints14 w' M.ca) (hs : Ints14 w' M.si) : MemT w' B M s := by
 obtain ⟨b1, b2, b3, b4⟩ := h.b_ne
 exact ⟨h.box.kp hk (fun e => e.elim b1 b2), h.clk.kp hk (fun e => e.elim (fun e => h.ca_ne.1 e.symm) (fun e => h.si_ne.1 e.symm)), hc, hs, h.ne1, h.tree.kp hk (fun i hi e => e.elim (fun e => h.ca_ne.2 (e ▸ hi)) (fun e => h.si_ne.2 (e ▸ hi))), h.lo⟩
set_option maxHeartbeats 2000000 in
set_option maxRecDepth 100000 in
theorem callT_any (k : Nat) (hk : k < 14) (w : World) (B : Nat) (M : MB) (s : TSt) (hM : MemT w B M s) :
  Calls Tryz.prog 19 #[ptr M.b, .int .i64 k] w fun e w' => e = .returned (.pointer none) ∧ MemT w' B M s ∧ Kp (fun i => i = M.ca ∨ i = M.si) w w' ∧ w'.heap.size = w.heap.size := by
 have HM := Lib.hid hM
 have c13 := hM.calls
 obtain ⟨⟨z1, d1⟩, f1⟩ := hM.ca.at hk
 have hk2 : (k : Int) < 14 := by omega
 clear hM
 go_enter Tryz.func19, Tryz.ntmps19
 go_upto_region 2 with fail
 generalize wrap64 (z1 + 1) = y1 at *
 have HK1 : Hid (Kp (fun i => i = M.ca ∨ i = M.si) w (w.setCell ⟨M.ca, k, none⟩ (.int .i64 y1))) := Lib.hid ((Kp.refl _ _).set (.inl (.inl rfl)) k _)
 have HM1 : Hid (MemT (w.setCell ⟨M.ca, k, none⟩ (.int .i64 y1)) B M s) := Lib.hid (HM.out.counted HK1.out (HM.out.ca.set k y1) (HM.out.si.kp ((Kp.refl (fun i => i = M.ca) w).set (b := M.ca) (.inl rfl) k _) (fun e => HM.out.ne1 e.symm)))
 have HS1 : Hid ((w.setCell ⟨M.ca, k, none⟩ (.int .i64 y1)).heap.size = w.heap.size) := Lib.hid (by simp [World.setCell])
 clear c13 d1 f1
 generalize w.setCell _ _ = w1 at *
 have c14 := HM1.out.since
 obtain ⟨⟨z2, d2⟩, f2⟩ := HM1.out.si.at hk
 go_upto_region 3 with fail
 generalize wrap64 (z2 + 1) = y2 at *
 have HK2 : Hid (Kp (fun i => i = M.ca ∨ i = M.si) w (w1.setCell ⟨M.si, k, none⟩ (.int .i64 y2))) := Lib.hid (HK1.out.set (.inl (.inr rfl)) k _)
 have HM2 : Hid (MemT (w1.setCell ⟨M.si, k, none⟩ (.int .i64 y2)) B M s) := Lib.hid (HM1.out.counted ((Kp.refl _ _).set (.inl (.inr rfl)) k _) (HM1.out.ca.kp ((Kp.refl (fun i => i = M.si) w1).set (b := M.si) (.inl rfl) k _) HM1.out.ne1) (HM1.out.si.set k y2))
 have HS2 : Hid ((w1.setCell ⟨M.si, k, none⟩ (.int .i64 y2)).heap.size = w.heap.size) := Lib.hid (by rw [← HS1.out]; simp [World.setCell])
 clear c14 d2 f2 HK1 HM1 HS1
 generalize w1.setCell _ _ = w2 at *
 have c15 := HM2.out.faults
 go_wp2_with fail
 go_loopg [30] 0 (fun g i wx => i = .int .i64 0 ∧ wx = w2)
 case atStart => exact ⟨rfl, rfl⟩
 case round =>
  obtain ⟨rfl, rfl⟩ := hrel
  go_wp2_with fail
  go_ret
  exact ⟨rfl, HM2.out, HK2.out, HS2.out⟩
set_option maxHeartbeats 2000000 in
theorem beginT_any (k : Nat) (hk : k < 14) (w : World) (B : Nat) (M : MB) (s : TSt) (hM : MemT w B M s) :
  Calls Tryz.prog 163 #[ptr M.b, .int .i64 k] w fun e w' => e = .returned (.int .i64 0) ∧ MemT w' B M s ∧ Kp (fun i => i = M.ca ∨ i = M.si) w w' ∧ w'.heap.size = w.heap.size := by
 have HC := Lib.hid (callT_any k hk w B M s hM)
 clear hM
 go_enter Tryz.func163, Tryz.ntmps163
 go_wp2_with (go_at_call 19; refine HC.out.mono ?_; rintro e w1 ⟨rfl, h1, h2, h3⟩)
 go_ret
 exact ⟨rfl, h1, h2, h3⟩
/-- The time that a file gets. -/
def tOfT (s : TSt) (t : Int) : Int := max (if hasB s.f 4 then t else s.now) 0 - max (if hasB s.f 4 then t else s.now) 0 % s.f.prec
set_option maxHeartbeats 2000000 in
set_option maxRecDepth 100000 in
theorem timeOfT_any (t : Int) (w : World) (B : Nat) (M : MB) (s : TSt) (hM : MemT w B M s) (ht : -9223372036854775808 ≤ t ∧ t ≤ 9223372036854775807) (hn : -9223372036854775808 ≤ s.now ∧ s.now ≤ 9223372036854775807) (hp : 1 ≤ s.f.prec ∧ s.f.prec ≤ 9223372036854775807) :
  Calls Tryz.prog 44 #[ptr M.b, .int .i64 t] w fun e w' => e = .returned (.int .i64 (tOfT s t)) ∧ w' = w := by
 have HH := Lib.hid (has_any M.b s.f 4 w hM.has)
 have HN := Lib.hid (nowM_any M.cb s.now w hM.now)
 have hd : ∀ b, tOfT s t = if b = hasB s.f 4 then max (if b then t else s.now) 0 - max (if b then t else s.now) 0 % s.f.prec else tOfT s t := fun b => by
  split
  ·rename_i h; rw [h]; rfl
  ·rfl
 have HD := Lib.hid hd
 have c9 := hM.clock
 have c2 := hM.prec
 generalize hasB s.f 4 = b at *
 clear hM hd
 cases b
 ·obtain ⟨m, hm⟩ : ∃ m, max s.now 0 = m := ⟨_, rfl⟩
  have HT := Lib.hid (truncate_any m s.f.prec w (by omega) (by omega))
  have HR : Hid (tOfT s t = m - m % s.f.prec) := Lib.hid (by rw [HD.out false, if_pos rfl, ← hm]; rfl)
  have hm0 : 0 ≤ m := by omega
  go_enter Tryz.func44, Tryz.ntmps44
  go_wp2_with (first | (go_at_call 22; refine HH.out.mono ?_; rintro e w' ⟨rfl, rfl⟩) | (go_at_call 81; refine HN.out.mono ?_; rintro e w' ⟨rfl, rfl⟩) | (go_at_call 82; refine HT.out.mono ?_; rintro e w' ⟨r, rfl, rfl, hr1, hr2⟩))
  go_ret
  exact ⟨ret_int (by rw [HR.out, hr2 hp.1 (by omega)]), rfl⟩
 ·obtain ⟨m, hm⟩ : ∃ m, max t 0 = m := ⟨_, rfl⟩
  have HT := Lib.hid (truncate_any m s.f.prec w (by omega) (by omega))
  have HR : Hid (tOfT s t = m - m % s.f.prec) := Lib.hid (by rw [HD.out true, if_pos rfl, ← hm]; rfl)
  have hm0 : 0 ≤ m := by omega
  go_enter Tryz.func44, Tryz.ntmps44
  go_wp2_with (first | (go_at_call 22; refine HH.out.mono ?_; rintro e w' ⟨rfl, rfl⟩) | (go_at_call 81; refine HN.out.mono ?_; rintro e w' ⟨rfl, rfl⟩) | (go_at_call 82; refine HT.out.mono ?_; rintro e w' ⟨r, rfl, rfl, hr1, hr2⟩))
  go_ret
  exact ⟨ret_int (by rw [HR.out, hr2 hp.1 (by omega)]), rfl⟩
end Go.Proofs.YtchfhojighopkaaGreatDoor
namespace Go.Proofs.YtchfhojighopkaaGreatDoor
open Go.RowKit
section
variable {P : Program} {ops : Array Oper} {Q : Exit → Act → World → Prop} {md : Region.Mode}
/-- How many have not come up. -/
def unl (listed : Array Bool) : Nat := listed.toList.countP (!·)
theorem unl_set {listed : Array Bool} {i : Nat} (h : listed.getD i true = false) : unl (listed.setIfInBounds i true) + 1 = unl listed := by
 have hlt : i < listed.size := by
  rcases Nat.lt_or_ge i listed.size with h' | h'
  ·exact h'
  ·simp [Array.getElem?_eq_none h'] at h
 have hv : listed.toList[i]'(by simpa using hlt) = false := by
  simp [hlt] at h
  simpa using h
 unfold unl
 rw [Array.toList_setIfInBounds, List.countP_set (h := by simpa using hlt), hv]
 have : 0 < listed.toList.countP (!·) := List.countP_pos_iff.2 ⟨false, by rw [← hv]; exact List.getElem_mem _, rfl⟩
 simp only [Bool.not_false, Bool.not_true, if_true, Bool.false_eq_true, if_false]
 omega
theorem unl_none {listed : Array Bool} (h : unl listed = 0) (i : Nat) : listed.getD i true = true := by
 rcases Nat.lt_or_ge i listed.size with h' | h'
 ·have hx := List.countP_eq_zero.1 h (listed[i]'h') (by simp)
  simp at hx
  simp [h', hx]
 ·simp [Array.getElem?_eq_none h']
/-- Each operation waits for earlier ones alone. -/
def topoOk (ops : Array Oper) : Bool := (List.range ops.size).all fun i => match ops[i]? with | some o => o.after.all (fun e => decide (e.on < i)) | none => true
theorem topoOk_spec (h : topoOk ops = true) {i : Nat} {o : Oper} (ho : ops[i]? = some o) : ∀ e ∈ o.after, e.on < i := by
 intro e he
 have hi := (Array.getElem?_eq_some_iff.1 ho).1
 have h1 := List.all_eq_true.1 h i (List.mem_range.2 hi)
 rw [ho] at h1
 have h2 := Array.all_eq_true_iff_forall_mem.1 h1 e he
 exact of_decide_eq_true h2
theorem all_listed (ht : topoOk ops = true) {listed : Array Bool} (hs : listed.size = ops.size) (hr : Region.ready md ops listed = []) : ∀ i, i < ops.size → listed.getD i false = true := by
 intro i
 induction i using Nat.strongRecOn with
 | _ i ih =>
  intro hi
  have ho : ops[i]? = some ops[i] := Array.getElem?_eq_getElem hi
  cases hl : listed.getD i false with
  | true => rfl
  | false =>
   have hl2 : listed.getD i true = false := by
    have hlt : i < listed.size := by omega
    simp [hlt] at hl ⊢
    exact hl
   have : i ∈ Region.ready md ops listed := mem_ready.2 ⟨hl2, _, ho, fun e he _ => ih e.on (topoOk_spec ht ho e he) (Nat.lt_trans (topoOk_spec ht ho e he) hi)⟩
   rw [hr] at this
   cases this
theorem wpAny_inv {Inv : (Nat → Prop) → Act → World → Prop} (ht : topoOk ops = true)
  (hstep : ∀ i o, ops[i]? = some o → ∀ (L : Nat → Prop) a w, Inv L a w → (∀ e ∈ o.after, Region.binds md e = true → L e.on) →
   ∀ K : Act → World → Prop, Shut (∀ a w, (∀ L' : Nat → Prop, (∀ j, L' j → j = i ∨ L j) → Inv L' a w) → K a w) → if Region.wanted o (yielded ops a.tmps) = true then Oper.wp P o a w K Q else K (a.put o.dst undef) w)
  (hdone : ∀ L a w, Inv L a w → (∀ i, i < ops.size → L i) → Q .normal a w) :
  ∀ (fuel : Nat) (listed : Array Bool) (a : Act) (w : World), listed.size = ops.size → unl listed ≤ fuel → Inv (fun j => listed.getD j false = true) a w → wpAny P md ops Q fuel listed a w := by
 intro fuel
 induction fuel with
 | zero =>
  intro listed a w hs hu hI
  have hr : Region.ready md ops listed = [] := by
   rw [List.eq_nil_iff_forall_not_mem]
   intro i hi
   have := (mem_ready.1 hi).1
   rw [unl_none (by omega) i] at this
   cases this
  exact ⟨hr, hdone _ a w hI (all_listed ht hs hr)⟩
 | succ fuel ih =>
  intro listed a w hs hu hI
  refine ⟨fun hr => hdone _ a w hI (all_listed ht hs hr), fun i hi => ?_⟩
  obtain ⟨hun, o, ho, hall⟩ := mem_ready.1 hi
  refine wpOp_step ho fun K hK => hstep i o ho _ a w hI hall K (fun a' w' h => hK a' w' ?_)
  refine ih _ a' w' (by simpa using hs) (by have := unl_set hun; omega) (h _ fun j hj => ?_)
  by_cases hji : j = i
  ·exact .inl hji
  ·rw [getD_set_ne false (Ne.symm hji)] at hj
   exact .inr hj
/-- The beginning. -/
theorem wp_region_inv (Inv : (Nat → Prop) → Act → World → Prop) {id : Nat} {a : Act} {w : World} (hm : P.follows .mixedOrders = true) (ht : topoOk ops = true) (h0 : Inv (fun _ => False) a w.drew)
  (hstep : ∀ i o, ops[i]? = some o → ∀ (L : Nat → Prop) a w, Inv L a w → (∀ e ∈ o.after, Region.binds .any e = true → L e.on) →
   ∀ K : Act → World → Prop, Shut (∀ a w, (∀ L' : Nat → Prop, (∀ j, L' j → j = i ∨ L j) → Inv L' a w) → K a w) → if Region.wanted o (yielded ops a.tmps) = true then Oper.wp P o a w K Q else K (a.put o.dst undef) w)
  (hdone : ∀ L a w, Inv L a w → (∀ i, i < ops.size → L i) → Q .normal a w) : (Code.region id ops true).wp P Q a w := by
 refine wp_region_any hm (wpAny_inv ht hstep hdone _ _ _ _ (by simp) (by unfold unl; exact Nat.le_trans List.countP_le_length (by simp)) ?_)
 have e : (fun j => (Array.replicate ops.size false).getD j false = true) = fun _ : Nat => False := by
  funext j
  simp [Array.getElem?_replicate]
  split <;> simp
 rw [e]
 exact h0
end
end Go.Proofs.YtchfhojighopkaaGreatDoor
namespace Go.Proofs.YtchfhojighopkaaGreatDoor
open Go.RowKit
section
variable {P : Program} {ops : Array Oper} {Q : Exit → Act → World → Prop} {md : Region.Mode}
theorem listed_set {listed : Array Bool} {i : Nat} (h : listed.getD i true = false) : (fun j => (listed.setIfInBounds i true).getD j false = true) = fun j => j = i ∨ listed.getD j false = true := by
 have hlt : i < listed.size := by
  rcases Nat.lt_or_ge i listed.size with h' | h'
  ·exact h'
  ·simp [Array.getElem?_eq_none h'] at h
 funext j
 apply propext
 by_cases hji : j = i
 ·subst hji
  simp [hlt]
 ·rw [getD_set_ne false (Ne.symm hji)]
  simp [hji]
theorem wpAny_inv2 {Inv : (Nat → Prop) → Act → World → Prop} (ht : topoOk ops = true)
  (hstep : ∀ i o, ops[i]? = some o → ∀ (L : Nat → Prop) a w, Inv L a w → ¬ L i → (∀ e ∈ o.after, Region.binds md e = true → L e.on) →
   ∀ K : Act → World → Prop, Shut (∀ a w, Inv (fun j => j = i ∨ L j) a w → K a w) → if Region.wanted o (yielded ops a.tmps) = true then Oper.wp P o a w K Q else K (a.put o.dst undef) w)
  (hdone : ∀ L a w, Inv L a w → (∀ i, i < ops.size → L i) → Q .normal a w) :
  ∀ (fuel : Nat) (listed : Array Bool) (a : Act) (w : World), listed.size = ops.size → unl listed ≤ fuel → Inv (fun j => listed.getD j false = true) a w → wpAny P md ops Q fuel listed a w := by
 intro fuel
 induction fuel with
 | zero =>
  intro listed a w hs hu hI
  have hr : Region.ready md ops listed = [] := by
   rw [List.eq_nil_iff_forall_not_mem]
   intro i hi
   have := (mem_ready.1 hi).1
   rw [unl_none (by omega) i] at this
   cases this
  exact ⟨hr, hdone _ a w hI (all_listed ht hs hr)⟩
 | succ fuel ih =>
  intro listed a w hs hu hI
  refine ⟨fun hr => hdone _ a w hI (all_listed ht hs hr), fun i hi => ?_⟩
  obtain ⟨hun, o, ho, hall⟩ := mem_ready.1 hi
  have hnot : ¬ listed.getD i false = true := by
   intro h
   rcases Nat.lt_or_ge i listed.size with h' | h'
   ·simp [h'] at hun h
    rw [hun] at h
    cases h
   ·simp [Array.getElem?_eq_none h'] at h
  refine wpOp_step ho fun K hK => hstep i o ho _ a w hI hnot hall K (fun a' w' h => hK a' w' ?_)
  refine ih _ a' w' (by simpa using hs) (by have := unl_set hun; omega) ?_
  rw [listed_set hun]
  exact h
/-- The beginning. -/
theorem wp_region_inv2 (Inv : (Nat → Prop) → Act → World → Prop) {id : Nat} {a : Act} {w : World} (hm : P.follows .mixedOrders = true) (ht : topoOk ops = true) (h0 : Inv (fun _ => False) a w.drew)
  (hstep : ∀ i o, ops[i]? = some o → ∀ (L : Nat → Prop) a w, Inv L a w → ¬ L i → (∀ e ∈ o.after, Region.binds .any e = true → L e.on) →
   ∀ K : Act → World → Prop, Shut (∀ a w, Inv (fun j => j = i ∨ L j) a w → K a w) → if Region.wanted o (yielded ops a.tmps) = true then Oper.wp P o a w K Q else K (a.put o.dst undef) w)
  (hdone : ∀ L a w, Inv L a w → (∀ i, i < ops.size → L i) → Q .normal a w) : (Code.region id ops true).wp P Q a w := by
 refine wp_region_any hm (wpAny_inv2 ht hstep hdone _ _ _ _ (by simp) (by unfold unl; exact Nat.le_trans List.countP_le_length (by simp)) ?_)
 have e : (fun j => (Array.replicate ops.size false).getD j false = true) = fun _ : Nat => False := by
  funext j
  simp [Array.getElem?_replicate]
  split <;> simp
 rw [e]
 exact h0
end
end Go.Proofs.YtchfhojighopkaaGreatDoor
namespace Go.Proofs.YtchfhojighopkaaGreatDoor
open Go.RowKit
abbrev infoArr (A : ByteArray) (dir : Bool) (size time : Int) (sums : Value) (id : ByteArray) : Array Value := #[.string A, .bool dir, .int .i64 size, .int .i64 time, sums, .slice none 0 0, .string id]
abbrev info0 : Array Value := infoArr ⟨#[]⟩ false 0 0 (.slice none 0 0) ⟨#[]⟩
abbrev info1 (A : ByteArray) (d : Bool) : Array Value := infoArr A d 0 0 (.slice none 0 0) ⟨#[]⟩
theorem info_cells {w : World} {b : Nat} {A id : ByteArray} {d : Bool} {n t : Int} {v : Value} (h : BoxIs w b (infoArr A d n t v id) 37) : w.cell? ⟨b, 0, none⟩ = some (.string A) ∧ w.cell? ⟨b, 1, none⟩ = some (.bool d) ∧ w.cell? ⟨b, 2, none⟩ = some (.int .i64 n) ∧ w.cell? ⟨b, 3, none⟩ = some (.int .i64 t) ∧ w.cell? ⟨b, 4, none⟩ = some v ∧ w.cell? ⟨b, 5, none⟩ = some (.slice none 0 0) ∧ w.cell? ⟨b, 6, none⟩ = some (.string id) :=
 ⟨h.cell (j := 0) rfl, h.cell (j := 1) rfl, h.cell (j := 2) rfl, h.cell (j := 3) rfl, h.cell (j := 4) rfl, h.cell (j := 5) rfl, h.cell (j := 6) rfl⟩
theorem info_room {w : World} {b : Nat} {A id : ByteArray} {d : Bool} {n t : Int} {v : Value} (h : BoxIs w b (infoArr A d n t v id) 37) : (w.cell? ⟨b, 0, none⟩ = some (.string A) ∧ w.cell? ⟨b, 1, none⟩ = some (.bool d) ∧ w.cell? ⟨b, 2, none⟩ = some (.int .i64 n) ∧ w.cell? ⟨b, 3, none⟩ = some (.int .i64 t) ∧ w.cell? ⟨b, 4, none⟩ = some v ∧ w.cell? ⟨b, 5, none⟩ = some (.slice none 0 0) ∧ w.cell? ⟨b, 6, none⟩ = some (.string id)) ∧
  w.frozen? ⟨b, 0, none⟩ = false ∧ w.frozen? ⟨b, 1, none⟩ = false ∧ w.frozen? ⟨b, 2, none⟩ = false ∧ w.frozen? ⟨b, 3, none⟩ = false ∧ w.frozen? ⟨b, 4, none⟩ = false ∧ w.frozen? ⟨b, 5, none⟩ = false ∧ w.frozen? ⟨b, 6, none⟩ = false :=
 ⟨info_cells h, Lib.frozen_of_heap h 0, Lib.frozen_of_heap h 1, Lib.frozen_of_heap h 2, Lib.frozen_of_heap h 3, Lib.frozen_of_heap h 4, Lib.frozen_of_heap h 5, Lib.frozen_of_heap h 6⟩
/-- What the first region of info has done: L tells which operations have been carried out. -/
structure IJ (w : World) (b nb rz : Nat) (A : ByteArray) (d : Bool) (L : Nat → Prop) (w' : World) (v5 v10 v11 v12 v13 v14 v15 v16 : Value) : Prop where
 bel : Below w.heap.size w w'
 box : BoxIs w' rz info0 37
 q0 : L 0 → v10 = ptr nb
 q1 : L 1 → v11 = .string A
 q2 : L 2 → v12 = ptr nb
 q3 : L 3 → v13 = .pointer (some ⟨nb, 0, none⟩)
 q4 : L 4 → v14 = .pointer (some ⟨nb, 1, none⟩)
 q5 : L 5 → v15 = .bool d
 q6 : L 6 → v16 = .agg (info1 A d)
 q7 : L 7 → ∃ (x : Nat) (arr : Array Value), v5 = ptr x ∧ w.heap.size ≤ x ∧ rz ≠ x ∧ BoxIs w' x arr 37 ∧ arr.size = 7 ∧ (L 8 → arr = info1 A d)
 q8 : L 8 → L 7
def IJa (w : World) (b nb rz : Nat) (A : ByteArray) (d : Bool) (L : Nat → Prop) (a' : Act) (w' : World) : Prop :=
 ∃ v5 v10 v11 v12 v13 v14 v15 v16, a' = ⟨#[ptr b, ptr nb, undef, undef, ptr rz, v5, undef, undef, undef, undef, v10, v11, v12, v13, v14, v15, v16, undef, undef, undef, undef, undef, undef, undef, undef, undef, undef, undef, undef, undef, undef, undef, undef, undef, undef, undef, undef, undef, undef, undef, undef, undef, undef, undef, undef, undef, undef, undef, undef, undef, undef, undef, undef, undef, undef, undef, undef, undef, undef, undef, undef, undef, undef, undef, undef, undef, undef, undef, undef, undef, undef, undef, undef, undef, undef, undef, undef, undef, undef, undef], []⟩ ∧ IJ w b nb rz A d L w' v5 v10 v11 v12 v13 v14 v15 v16
theorem seven_cells {arr : Array Value} (h : arr.size = 7) : ∃ u0 u1 u2 u3 u4 u5 u6, arr = #[u0, u1, u2, u3, u4, u5, u6] := by
 obtain ⟨l⟩ := arr
 match l, h with
 | [a, b, c, d, e, f, g], _ => exact ⟨a, b, c, d, e, f, g, rfl⟩
theorem BoxIs.put7 {w : World} {x : Nat} {t : TypeId} {u0 u1 u2 u3 u4 u5 u6 a0 a1 a2 a3 a4 a5 a6 : Value} (h : BoxIs w x #[u0, u1, u2, u3, u4, u5, u6] t) :
  BoxIs (((((((w.setCell ⟨x, 0, none⟩ a0).setCell ⟨x, 1, none⟩ a1).setCell ⟨x, 2, none⟩ a2).setCell ⟨x, 3, none⟩ a3).setCell ⟨x, 4, none⟩ a4).setCell ⟨x, 5, none⟩ a5).setCell ⟨x, 6, none⟩ a6) x #[a0, a1, a2, a3, a4, a5, a6] t := by
 have h0 : BoxIs _ x #[a0, u1, u2, u3, u4, u5, u6] t := h.putAt 0 a0
 have h1 : BoxIs _ x #[a0, a1, u2, u3, u4, u5, u6] t := h0.putAt 1 a1
 have h2 : BoxIs _ x #[a0, a1, a2, u3, u4, u5, u6] t := h1.putAt 2 a2
 have h3 : BoxIs _ x #[a0, a1, a2, a3, u4, u5, u6] t := h2.putAt 3 a3
 have h4 : BoxIs _ x #[a0, a1, a2, a3, a4, u5, u6] t := h3.putAt 4 a4
 have h5 : BoxIs _ x #[a0, a1, a2, a3, a4, a5, u6] t := h4.putAt 5 a5
 exact h5.putAt 6 a6
section
variable {w w' w'' : World} {b nb rz : Nat} {A : ByteArray} {d : Bool} {L : Nat → Prop} {v5 v10 v11 v12 v13 v14 v15 v16 : Value}
theorem IJ.up (h : IJ w b nb rz A d L w' v5 v10 v11 v12 v13 v14 v15 v16) (hb : Below w'.heap.size w' w'') : IJ w b nb rz A d L w'' v5 v10 v11 v12 v13 v14 v15 v16 := by
 refine ⟨bTrans h.bel hb, h.box.under hb, h.q0, h.q1, h.q2, h.q3, h.q4, h.q5, h.q6, fun l => ?_, h.q8⟩
 obtain ⟨x, arr, h1, h2, h3, h4, h5⟩ := h.q7 l
 exact ⟨x, arr, h1, h2, h3, h4.under hb, h5⟩
theorem IJ.start (h1 : Below w.heap.size w w') (h2 : BoxIs w' rz info0 37) : IJ w b nb rz A d (fun _ => False) w'.drew undef undef undef undef undef undef undef undef :=
 ⟨⟨h1.os, h1.tape, h1.output, h1.size, h1.block⟩, h2, fun h => h.elim, fun h => h.elim, fun h => h.elim, fun h => h.elim, fun h => h.elim, fun h => h.elim, fun h => h.elim, fun h => h.elim, fun h => h.elim⟩
theorem IJ.s0 (h : IJ w b nb rz A d L w' v5 v10 v11 v12 v13 v14 v15 v16)  : IJ w b nb rz A d (fun j => j = 0 ∨ L j) w' v5 (ptr nb) v11 v12 v13 v14 v15 v16 := by
 refine ⟨h.bel, h.box, fun _ => rfl, fun l => h.q1 (l.resolve_left (by decide)), fun l => h.q2 (l.resolve_left (by decide)), fun l => h.q3 (l.resolve_left (by decide)), fun l => h.q4 (l.resolve_left (by decide)), fun l => h.q5 (l.resolve_left (by decide)), fun l => h.q6 (l.resolve_left (by decide)), fun l => by
  obtain ⟨x, arr, h1, h2, h3, h4, h5, h6⟩ := h.q7 (l.resolve_left (by decide))
  exact ⟨x, arr, h1, h2, h3, h4, h5, fun l8 => h6 (l8.resolve_left (by decide))⟩, fun l => .inr (h.q8 (l.resolve_left (by decide)))⟩
theorem IJ.s1 (h : IJ w b nb rz A d L w' v5 v10 v11 v12 v13 v14 v15 v16)  : IJ w b nb rz A d (fun j => j = 1 ∨ L j) w' v5 v10 (.string A) v12 v13 v14 v15 v16 := by
 refine ⟨h.bel, h.box, fun l => h.q0 (l.resolve_left (by decide)), fun _ => rfl, fun l => h.q2 (l.resolve_left (by decide)), fun l => h.q3 (l.resolve_left (by decide)), fun l => h.q4 (l.resolve_left (by decide)), fun l => h.q5 (l.resolve_left (by decide)), fun l => h.q6 (l.resolve_left (by decide)), fun l => by
  obtain ⟨x, arr, h1, h2, h3, h4, h5, h6⟩ := h.q7 (l.resolve_left (by decide))
  exact ⟨x, arr, h1, h2, h3, h4, h5, fun l8 => h6 (l8.resolve_left (by decide))⟩, fun l => .inr (h.q8 (l.resolve_left (by decide)))⟩
theorem IJ.s2 (h : IJ w b nb rz A d L w' v5 v10 v11 v12 v13 v14 v15 v16)  : IJ w b nb rz A d (fun j => j = 2 ∨ L j) w' v5 v10 v11 (ptr nb) v13 v14 v15 v16 := by
 refine ⟨h.bel, h.box, fun l => h.q0 (l.resolve_left (by decide)), fun l => h.q1 (l.resolve_left (by decide)), fun _ => rfl, fun l => h.q3 (l.resolve_left (by decide)), fun l => h.q4 (l.resolve_left (by decide)), fun l => h.q5 (l.resolve_left (by decide)), fun l => h.q6 (l.resolve_left (by decide)), fun l => by
  obtain ⟨x, arr, h1, h2, h3, h4, h5, h6⟩ := h.q7 (l.resolve_left (by decide))
  exact ⟨x, arr, h1, h2, h3, h4, h5, fun l8 => h6 (l8.resolve_left (by decide))⟩, fun l => .inr (h.q8 (l.resolve_left (by decide)))⟩
theorem IJ.s3 (h : IJ w b nb rz A d L w' v5 v10 v11 v12 v13 v14 v15 v16)  : IJ w b nb rz A d (fun j => j = 3 ∨ L j) w' v5 v10 v11 v12 (.pointer (some ⟨nb, 0, none⟩)) v14 v15 v16 := by
 refine ⟨h.bel, h.box, fun l => h.q0 (l.resolve_left (by decide)), fun l => h.q1 (l.resolve_left (by decide)), fun l => h.q2 (l.resolve_left (by decide)), fun _ => rfl, fun l => h.q4 (l.resolve_left (by decide)), fun l => h.q5 (l.resolve_left (by decide)), fun l => h.q6 (l.resolve_left (by decide)), fun l => by
  obtain ⟨x, arr, h1, h2, h3, h4, h5, h6⟩ := h.q7 (l.resolve_left (by decide))
  exact ⟨x, arr, h1, h2, h3, h4, h5, fun l8 => h6 (l8.resolve_left (by decide))⟩, fun l => .inr (h.q8 (l.resolve_left (by decide)))⟩
theorem IJ.s4 (h : IJ w b nb rz A d L w' v5 v10 v11 v12 v13 v14 v15 v16)  : IJ w b nb rz A d (fun j => j = 4 ∨ L j) w' v5 v10 v11 v12 v13 (.pointer (some ⟨nb, 1, none⟩)) v15 v16 := by
 refine ⟨h.bel, h.box, fun l => h.q0 (l.resolve_left (by decide)), fun l => h.q1 (l.resolve_left (by decide)), fun l => h.q2 (l.resolve_left (by decide)), fun l => h.q3 (l.resolve_left (by decide)), fun _ => rfl, fun l => h.q5 (l.resolve_left (by decide)), fun l => h.q6 (l.resolve_left (by decide)), fun l => by
  obtain ⟨x, arr, h1, h2, h3, h4, h5, h6⟩ := h.q7 (l.resolve_left (by decide))
  exact ⟨x, arr, h1, h2, h3, h4, h5, fun l8 => h6 (l8.resolve_left (by decide))⟩, fun l => .inr (h.q8 (l.resolve_left (by decide)))⟩
theorem IJ.s5 (h : IJ w b nb rz A d L w' v5 v10 v11 v12 v13 v14 v15 v16)  : IJ w b nb rz A d (fun j => j = 5 ∨ L j) w' v5 v10 v11 v12 v13 v14 (.bool d) v16 := by
 refine ⟨h.bel, h.box, fun l => h.q0 (l.resolve_left (by decide)), fun l => h.q1 (l.resolve_left (by decide)), fun l => h.q2 (l.resolve_left (by decide)), fun l => h.q3 (l.resolve_left (by decide)), fun l => h.q4 (l.resolve_left (by decide)), fun _ => rfl, fun l => h.q6 (l.resolve_left (by decide)), fun l => by
  obtain ⟨x, arr, h1, h2, h3, h4, h5, h6⟩ := h.q7 (l.resolve_left (by decide))
  exact ⟨x, arr, h1, h2, h3, h4, h5, fun l8 => h6 (l8.resolve_left (by decide))⟩, fun l => .inr (h.q8 (l.resolve_left (by decide)))⟩
theorem IJ.s6 (h : IJ w b nb rz A d L w' v5 v10 v11 v12 v13 v14 v15 v16)  : IJ w b nb rz A d (fun j => j = 6 ∨ L j) w' v5 v10 v11 v12 v13 v14 v15 (.agg (info1 A d)) := by
 refine ⟨h.bel, h.box, fun l => h.q0 (l.resolve_left (by decide)), fun l => h.q1 (l.resolve_left (by decide)), fun l => h.q2 (l.resolve_left (by decide)), fun l => h.q3 (l.resolve_left (by decide)), fun l => h.q4 (l.resolve_left (by decide)), fun l => h.q5 (l.resolve_left (by decide)), fun _ => rfl, fun l => by
  obtain ⟨x, arr, h1, h2, h3, h4, h5, h6⟩ := h.q7 (l.resolve_left (by decide))
  exact ⟨x, arr, h1, h2, h3, h4, h5, fun l8 => h6 (l8.resolve_left (by decide))⟩, fun l => .inr (h.q8 (l.resolve_left (by decide)))⟩
theorem IJ.s7 (h : IJ w b nb rz A d L w' v5 v10 v11 v12 v13 v14 v15 v16) (h7 : ¬ L 7) : IJ w b nb rz A d (fun j => j = 7 ∨ L j) (w'.alloc (.cells info0 37)) (ptr w'.heap.size) v10 v11 v12 v13 v14 v15 v16 := by
 have hb := bAlloc (Below.refl w'.heap.size w') (.cells info0 37)
 refine ⟨bTrans h.bel hb, h.box.under hb, fun l => h.q0 (l.resolve_left (by decide)), fun l => h.q1 (l.resolve_left (by decide)), fun l => h.q2 (l.resolve_left (by decide)), fun l => h.q3 (l.resolve_left (by decide)), fun l => h.q4 (l.resolve_left (by decide)), fun l => h.q5 (l.resolve_left (by decide)), fun l => h.q6 (l.resolve_left (by decide)), fun _ => ⟨w'.heap.size, info0, rfl, h.bel.size, by have := h.box.lt; omega, BoxIs.new _ _ _, rfl, fun l8 => absurd (h.q8 (l8.resolve_left (by decide))) h7⟩, fun _ => .inl rfl⟩
theorem IJ.s8 (h : IJ w b nb rz A d L w' v5 v10 v11 v12 v13 v14 v15 v16) (d7 : L 7) {x : Nat} {arr : Array Value} (h1 : v5 = ptr x) (h2 : w.heap.size ≤ x) (h3 : rz ≠ x) (h4 : BoxIs w' x arr 37) (h5 : arr.size = 7) :
  IJ w b nb rz A d (fun j => j = 8 ∨ L j) (((((((w'.setCell ⟨x, 0, none⟩ (.string A)).setCell ⟨x, 1, none⟩ (.bool d)).setCell ⟨x, 2, none⟩ (.int .i64 0)).setCell ⟨x, 3, none⟩ (.int .i64 0)).setCell ⟨x, 4, none⟩ (.slice none 0 0)).setCell ⟨x, 5, none⟩ (.slice none 0 0)).setCell ⟨x, 6, none⟩ (.string ⟨#[]⟩)) v5 v10 v11 v12 v13 v14 v15 v16 := by
 have hk : Kp (fun i => i = x) w' (((((((w'.setCell ⟨x, 0, none⟩ (.string A)).setCell ⟨x, 1, none⟩ (.bool d)).setCell ⟨x, 2, none⟩ (.int .i64 0)).setCell ⟨x, 3, none⟩ (.int .i64 0)).setCell ⟨x, 4, none⟩ (.slice none 0 0)).setCell ⟨x, 5, none⟩ (.slice none 0 0)).setCell ⟨x, 6, none⟩ (.string ⟨#[]⟩)) :=
  (((((((Kp.refl (fun i => i = x) w').set (b := x) (.inl rfl) 0 _).set (b := x) (.inl rfl) 1 _).set (b := x) (.inl rfl) 2 _).set (b := x) (.inl rfl) 3 _).set (b := x) (.inl rfl) 4 _).set (b := x) (.inl rfl) 5 _).set (b := x) (.inl rfl) 6 _
 obtain ⟨u0, u1, u2, u3, u4, u5, u6, rfl⟩ := seven_cells h5
 refine ⟨h.bel.trans (hk.below (fun i e => by rw [e]; exact h2) h.bel.size), h.box.kp hk h3, fun l => h.q0 (l.resolve_left (by decide)), fun l => h.q1 (l.resolve_left (by decide)), fun l => h.q2 (l.resolve_left (by decide)), fun l => h.q3 (l.resolve_left (by decide)), fun l => h.q4 (l.resolve_left (by decide)), fun l => h.q5 (l.resolve_left (by decide)), fun l => h.q6 (l.resolve_left (by decide)), fun _ => ⟨x, info1 A d, h1, h2, h3, h4.put7, rfl, fun _ => rfl⟩, fun _ => .inr d7⟩
end
end Go.Proofs.YtchfhojighopkaaGreatDoor
namespace Go.Proofs.YtchfhojighopkaaGreatDoor
open Go.RowKit
theorem kinds_any (w : World) : Calls Tryz.prog 68 #[] w fun e w' => e = .returned (.slice (some ⟨w.heap.size, 0, none⟩) 5 5) ∧ w' = w.alloc (.cells #[.int .i64 1, .int .i64 2, .int .i64 3, .int .i64 4, .int .i64 5] 3) := by
 go_enter Tryz.func68, Tryz.ntmps68
 go_wp2_with fail
 go_ret
 exact ⟨rfl, rfl⟩
theorem below_drewn {z : Nat} {w w' : World} (h : Below z w w') : Below z w w'.drew := ⟨h.os, h.tape, h.output, h.size, h.block⟩
end Go.Proofs.YtchfhojighopkaaGreatDoor
namespace Go.Proofs.YtchfhojighopkaaGreatDoor
open Go.RowKit
/-- keep, where the store keeps no versions. -/
theorem keepT_off (b nb : Nat) (f : Wh.Feat) (w : World) (hc : w.cell? ⟨b, 0, none⟩ = some (.int .i64 f.has)) (hv : hasB f 1024 = false) :
  Calls Tryz.prog 80 #[ptr b, ptr nb] w fun e w' => e = .returned (.tuple #[]) ∧ w' = w := by
 have HH := Lib.hid (has_any b f 1024 w hc)
 rw [hv] at HH
 clear hc hv
 go_enter Tryz.func80, Tryz.ntmps80
 go_wp2_with (go_at_call 22; refine HH.out.mono ?_; rintro e w' ⟨rfl, hw⟩; (have hw2 := hw.symm; clear hw; subst hw2))
 exact bodyPost_ret (results_none rfl _ _ _) rfl ⟨rfl, rfl⟩
end Go.Proofs.YtchfhojighopkaaGreatDoor
namespace Go.Proofs.YtchfhojighopkaaGreatDoor
open Go.RowKit
theorem fileT_any (w : World) (B : Nat) (M : MB) (s : TSt) (p : ByteArray) (c : Nd) (hM : MemT w B M s) (hE : Env w) (hs : p.size ≤ 1024) (hF : s.F (kysOf s.f p) = some c) (hd : c.dir = false) :
  Calls Tryz.prog 164 #[ptr M.b, .string p] w fun e w' => e = .returned (.tuple #[ptr c.b, .int .i64 0]) ∧ Below w.heap.size w w' := by
 have HF := Lib.hid (findT_any w B M s p hM hE hs)
 rw [hF] at HF
 simp only [Option.map_some, adr] at HF
 have HC := Lib.hid (fun W (hb : Below w.heap.size w W) => (nd_cells ((hM.tree.under hb).box _ _ hF).1).2.1)
 rw [hd] at HC
 clear hM hE hs hF hd
 go_enter Tryz.func164, Tryz.ntmps164
 go_upto_region 2 with (go_at_call 76; refine HF.out.mono ?_; rintro e w1 ⟨rfl, hb1⟩)
 have c1 := HC.out _ hb1
 go_wp2_with fail
 go_ret2
 exact ⟨rfl, hb1⟩
def GetT (w : World) (B : Nat) (M : MB) (s : TSt) (r : ByteArray) (e : Ending) (w' : World) : Prop := e = .returned (.tuple #[.string r, .int .i64 0]) ∧ MemT w' B M s ∧ Kp (MTf M s.F) w w' ∧ (∃ w1, Kp (fun i => i = M.ca ∨ i = M.si) w w1 ∧ w1.heap.size = w.heap.size ∧ Below w1.heap.size w1 w')
set_option maxHeartbeats 2000000 in
set_option maxRecDepth 100000 in
theorem getT_any (w0 w : World) (M : MB) (s : TSt) (p : ByteArray) (c : Nd) (frm m : Nat) (hm : m = min 65536 (c.data.size - frm)) (hfr : frm ≤ c.data.size) (hz : c.data.size ≤ 1048576) (hE : Env w0) (hb0 : Below w0.heap.size w0 w) (hM : MemT w w0.heap.size M s) (hs : p.size ≤ 1024) (hF : s.F (kysOf s.f p) = some c) (hd : c.dir = false)
  (hIs : ∀ W, Below w0.heap.size w0 W → Calls Tryz.prog 40 #[.string p] W fun e w' => e = .returned (.int .i64 0) ∧ Below W.heap.size W w') :
  Calls Tryz.prog 160 #[ptr M.b, .string p, .int .i64 frm, .int .i64 65536] w (GetT w w0.heap.size M s (c.data.extract frm (frm + m))) := by
 have HBe := Lib.hid (beginT_any 2 (by decide) w w0.heap.size M s hM)
 have HIs := Lib.hid hIs
 have HFi := Lib.hid (fun W (hb : Below w0.heap.size w0 W) (h : MemT W w0.heap.size M s) => fileT_any W w0.heap.size M s p c h (hE.below hb (Nat.le_refl _)) hs hF hd)
 have HM := Lib.hid hM
 have HB0 := Lib.hid hb0
 clear hIs hE hs hd
 have h0 : ¬ ((frm : Int) < 0) := by omega
 have hmin1 : min (frm : Int) (c.data.size : Int) = (frm : Int) := by omega
 obtain ⟨r, hr⟩ : ∃ r, r = c.data.size - frm := ⟨_, rfl⟩
 have e1 : IntKind.i64.wrap ((c.data.size : Int) - (frm : Int)) = (r : Int) := by rw [IntWalk.i64_in _ (by omega)]; omega
 have hmin2 : min (65536 : Int) (r : Int) = (m : Int) := by omega
 have hle : frm + m ≤ c.data.size := by omega
 obtain ⟨fm, hfm⟩ : ∃ fm, frm + m = fm := ⟨_, rfl⟩
 rw [hfm] at hle
 have e3 : IntKind.i64.wrap ((frm : Int) + (m : Int)) = (fm : Int) := by rw [IntWalk.i64_in _ (by omega)]; omega
 have hle2 : (fm : Int) ≤ (c.data.size : Int) := by omega
 have hle3 : (frm : Int) ≤ (fm : Int) := by omega
 have HFm := Lib.hid hfm
 have HC := Lib.hid hF
 clear hM hb0 hm hfm hF hr
 go_enter Tryz.func160, Tryz.ntmps160
 go_upto_region 4 with (go_at_call 163; refine HBe.out.mono ?_; rintro e w1 ⟨rfl, hm1, hk1, hz1⟩)
 have HG1 : Hid (Kp (MTf M s.F) w w1) := Lib.hid (hk1.mono (fun i e => e.elim (fun e => .inr (.inl e)) (fun e => .inr (.inr (.inl e)))))
 have HM1 := Lib.hid hm1
 have HK1 := Lib.hid (And.intro hk1 hz1)
 have HB1 : Hid (Below w0.heap.size w0 w1) := Lib.hid (HB0.out.trans (HG1.out.below (fun i h => HM.out.mf h) HB0.out.size))
 clear hm1 hk1 hz1 HBe
 go_upto_region 7 with (go_at_call 40; refine (HIs.out _ HB1.out).mono ?_; rintro e w2 ⟨rfl, hb2⟩)
 have HB2 : Hid (Below w0.heap.size w0 w2) := Lib.hid (HB1.out.trans (Below.mono hb2 HB1.out.size))
 have HM2 := Lib.hid (HM1.out.below hb2)
 have HBl2 := Lib.hid hb2
 clear hb2 HIs
 go_upto_region 10 with (go_at_call 164; refine (HFi.out _ HB2.out HM2.out).mono ?_; rintro e w3 ⟨rfl, hb3⟩)
 have HM3 := Lib.hid (HM2.out.below hb3)
 have HBl3 := Lib.hid (bTrans HBl2.out hb3)
 have n4 : w3.cell? ⟨c.b, 4, none⟩ = some (.string c.data) := (HM3.out.tree.box _ _ HC.out).1.cell (j := 4) rfl
 clear hb3 HFi
 go_upto_region 13 with fail
 have n4d : w3.drew.cell? ⟨c.b, 4, none⟩ = some (.string c.data) := n4
 --R13
 refine wp_region_seq (fun W => W.cell? ⟨c.b, 4, none⟩ = some (.string c.data)) [(0, true), (1, true), (2, true), (3, true), (4, true), (5, true), (6, true), (7, true), (8, true), (9, true), (10, true), (11, true), (12, true), (13, true), (14, true), (15, true), (16, true), (17, true), (18, true)] (by as_aux_lemma => kernel_rfl) (by as_aux_lemma => kernel_rfl) (by decide) (by as_aux_lemma => kernel_rfl) n4d ?_
 intro OPS HO
 iterate 19
  refine seq_take (o := ⟨_, _, _, _, _, _⟩) (v := ?_) (by rw [HO.out]; rfl) (by rfl) ?_ ?_
  rotate_left 1
  ·first | ((intro W _; go_simp) <;> with_reducible rfl) | (intro W hW; skip; (go_simp <;> with_reducible rfl))
  try simp only [Act.put, List.setIfInBounds_toArray, List.set_cons_zero, List.set_cons_succ]
 refine seq_done ?_
 --ENDR13
 go_wp2_with fail
 go_ret2
 refine ⟨?_, HM3.out.drew, HG1.out.trans (Kp.of (below_drewn HBl3.out)), w1, HK1.out.1, HK1.out.2, below_drewn HBl3.out⟩
 rw [HFm.out]
 rfl
end Go.Proofs.YtchfhojighopkaaGreatDoor
namespace Go.Proofs.YtchfhojighopkaaGreatDoor
open Go.RowKit
theorem Kp.extB {F : Nat → Prop} {w w2 w3 : World} (h : Kp F w w2) (hb : Below w.heap.size w2 w3) : Kp F w w3 :=
 ⟨hb.os.trans h.os, hb.tape.trans h.tape, hb.output.trans h.output, Nat.le_trans h.size hb.size, fun k hk hF => (hb.block k hk).trans (h.block k hk hF)⟩
/-- A builder whose blocks lie from B on. -/
def BldK (B b : Nat) (out : List UInt8) (w : World) : Prop := Lib.IsBuilderF 127 5 B b (Lib.byteCells out) w ∧ B ≤ w.heap.size
theorem atF_kp {T e : TypeId} {B b : Nat} {p : Value} {bs : List Value} {F : Nat → Prop} {w w' : World} (h : Lib.BuilderAtF T e B b p bs w) (hk : Kp F w w') (hF : ∀ i, F i → i < B) : Lib.BuilderAtF T e B b p bs w' := by
 obtain ⟨hB, v, hb, hown, hne⟩ := h
 refine ⟨hB, v, ?_, ⟨hown.1, ?_⟩, hne⟩
 ·rw [hk.block b (Array.getElem?_eq_some_iff.1 hb).1 (fun e => by have := hF b e; omega)]
  exact hb
 ·rcases hown.2 with hn | ⟨g, c, cur, fz, hv, h1, h2, h3⟩
  ·exact .inl hn
  ·refine .inr ⟨g, c, cur, fz, hv, h1, ?_, h3⟩
   rw [hk.block g (Array.getElem?_eq_some_iff.1 h2).1 (fun e => by have := hF g e; omega)]
   exact h2
theorem BldK.kp {B b : Nat} {out : List UInt8} {F : Nat → Prop} {w w' : World} (h : BldK B b out w) (hk : Kp F w w') (hF : ∀ i, F i → i < B) : BldK B b out w' :=
 ⟨h.1.elim (fun x => .inl (atF_kp x hk hF)) (fun x => .inr (atF_kp x hk hF)), Nat.le_trans h.2 hk.size⟩
theorem BldK.fresh (w : World) : BldK w.heap.size w.heap.size [] (w.alloc (.cells #[.pointer none, .slice none 0 0] 127)) :=
 ⟨.inl ⟨Nat.le_refl _, .slice none 0 0, heap_alloc_new w _, ⟨rfl, .inl ⟨rfl, rfl⟩⟩, by simp [Value.ownBlock]⟩, (bAlloc (Below.refl w.heap.size w) _).size⟩
theorem lenK {B b : Nat} {out : List UInt8} {w : World} (h : BldK B b out w) (n : Nat) (hn : out.length = n) : Calls Tryz.prog 52 #[.pointer (some ⟨b, 0, none⟩)] w fun e w' => e = .returned (.int .i64 n) ∧ w' = w := by
 have h2 := Tryz.Builder_Len_f B b (Lib.byteCells out) w h.1
 rw [show (Lib.byteCells out).length = n by rw [← hn]; simp [Lib.byteCells]] at h2
 exact h2
theorem writeK {B b : Nat} {out : List UInt8} {w : World} (h : BldK B b out w) (s : ByteArray) (hl : out.length + s.size ≤ 140737488355328) :
  Calls Tryz.prog 51 #[.pointer (some ⟨b, 0, none⟩), .string s] w fun e w' => e = .returned (.tuple #[.int .i64 s.size, .nilIface]) ∧ BldK B b (out ++ s.data.toList) w' ∧ Below B w w' := by
 refine (Any.Builder_WriteString_k { Tryz.lays156 with } Tryz.Builder_Extra_156 B b (Lib.byteCells out) s w h.1 (by simpa [Lib.byteCells] using hl) h.2).mono ?_
 rintro e w' ⟨rfl, h1, h2, h3⟩
 refine ⟨rfl, ⟨.inr ?_, Nat.le_trans h.2 h2.size⟩, h2⟩
 have : Lib.byteCells (out ++ s.data.toList) = Lib.byteCells out ++ Lib.strCells s := by
  simp [Lib.byteCells, Lib.strCells]
 rw [this]
 exact h1
theorem stringK {B b : Nat} {out : List UInt8} {w : World} (h : BldK B b out w) :
  Calls Tryz.prog 53 #[.pointer (some ⟨b, 0, none⟩)] w fun e w' => e = .returned (.string ⟨out.toArray⟩) ∧ Below B w w' := by
 refine (Any.Builder_String_any_k { Tryz.lays156 with } Tryz.Builder_Extra_156 B b out w h.1 h.2).mono ?_
 rintro e w' ⟨rfl, h1, h2, _⟩
 exact ⟨rfl, h2⟩
theorem memM_get (w : World) (n : Nat) (v : Value) (hn : 0 < n) : (method n 28 v "Get").run Tryz.prog w = .ok (160, v) w := by
 obtain ⟨i, hi, hm⟩ := Option.map_eq_some_iff.1 (show (Tryz.prog.info? 28).map (fun i => (i.methods.find? (·.name == "Get")).map (fun m => (m.path.toList, m.func))) = some (some ([], some (160, true))) by kernel_rfl)
 exact method_ptr hi hm Tryz.underlying28 hn v
theorem memA_get (w : World) (n : Nat) (v : Value) (hn : 0 < n) : (nilAhead n 28 v "Get").run Tryz.prog w = .ok (some false) w := by
 obtain ⟨i, hi, hm⟩ := Option.map_eq_some_iff.1 (show (Tryz.prog.info? 28).map (fun i => (i.methods.find? (·.name == "Get")).map (fun m => (m.path.toList, m.func))) = some (some ([], some (160, true))) by kernel_rfl)
 obtain ⟨k, rfl⟩ : ∃ k, n = k + 1 := ⟨n - 1, by omega⟩
 cases h : i.methods.find? (·.name == "Get") with
 | none => rw [h] at hm; cases hm
 | some m =>
  rw [h] at hm
  simp only [Option.map_some, Option.some.injEq, Prod.mk.injEq] at hm
  unfold nilAhead
  simp [typeInfo, hi, h, followBlind, hm.1, hm.2]
end Go.Proofs.YtchfhojighopkaaGreatDoor
namespace Go.Proofs.YtchfhojighopkaaGreatDoor
open Go.RowKit
theorem isFileT_ok (f : Wh.Feat) (p : ByteArray) (w : World) (hE : Env w) (hp : PathOk f p) :
  Calls Tryz.prog 40 #[.string p] w fun e w' => e = .returned (.int .i64 0) ∧ Below w.heap.size w w' := by
 have HC := Lib.hid (check_any p w hE (Nat.le_trans hp.size (by decide)))
 have h0 := hp.ne
 rw [hp.err] at HC
 clear hE hp
 go_enter Tryz.func40, Tryz.ntmps40
 go_wp2_with (go_at_call 15; refine HC.out.mono ?_; rintro e w1 ⟨rfl, hb1⟩)
 go_ret
 exact ⟨rfl, hb1⟩
set_option maxHeartbeats 2000000 in
set_option maxRecDepth 100000 in
theorem isNewT_ok (b : Nat) (f : Wh.Feat) (p : ByteArray) (w : World) (hE : Env w) (hp : PathOk f p) (hB : FeatBox w b f) (hfl : f.forbid.size < 4294967281) (hfa : ∀ b ∈ f.forbid.data.toList, b.toNat < 128) :
  Calls Tryz.prog 20 #[ptr b, .string p] w fun e w' => e = .returned (.int .i64 0) ∧ Below w.heap.size w w' := by
 have HC := Lib.hid (isFileT_ok f p w hE hp)
 have HF := Lib.hid (fun W (hb : Below w.heap.size w W) => storefits_any f p W (hE.under hb) hp.err hfl hfa)
 rw [hp.fits] at HF
 have HB := Lib.hid hB
 clear hE hB hp
 go_enter Tryz.func20, Tryz.ntmps20
 go_upto_region 2 with (go_at_call 40; refine HC.out.mono ?_; rintro e w1 ⟨rfl, hb1⟩)
 have HFp := Lib.hid (HF.out w1 hb1)
 go_upto_region 4 with fail
 obtain ⟨k0, k1, k2, k3, k4, k5, k6, k7, k8, k9⟩ := HB.out.under hb1
 unfold featVal at HFp
 go_wp2_with (go_at_call 41; refine HFp.out.mono ?_; rintro e w2 ⟨rfl, hb2⟩)
 go_ret
 exact ⟨rfl, bTrans hb1 hb2⟩
end Go.Proofs.YtchfhojighopkaaGreatDoor
