/-
  The texts Me1, Me2, Me3, in one.
-/
import Derived.Test.YtmafnjapailliaaGreatDoorMeZ
import Derived.Test.YtmafnjapailliaaGreatDoorSmlG
import Derived.Test.YtmafnjapailliaaGreatDoorSeqG
import Derived.Test.YtmafnjapailliaaGreatDoorSw8
namespace Go.Proofs.YtmafnjapailliaaGreatDoor
open Go.RowKit

/-- The path "a". -/
structure PathA (A : ByteArray) : Prop where
  eq : A = ⟨#[97]⟩
theorem PathA.size {A : ByteArray} (h : PathA A) : A.size = 1 := by rw [h.eq]; rfl
theorem PathA.data {A : ByteArray} (h : PathA A) : A.data.toList = [97] := by rw [h.eq]
theorem PathA.ne {A : ByteArray} (h : PathA A) : A.toList.isEmpty = false := by rw [h.eq, Lib.toList_data]; rfl
theorem PathA.err {A : ByteArray} (h : PathA A) : Wh.pathErr A.data.toList = 0 := by rw [h.eq]; decide +kernel
theorem PathA.pieces {A : ByteArray} (h : PathA A) : Wh.pieces 47 A = [A] := by rw [h.eq]; decide +kernel
theorem PathA.lower {A : ByteArray} (h : PathA A) : (⟨(Wh.lower A.data.toList).toArray⟩ : ByteArray) = A := by rw [h.eq]; decide +kernel
theorem PathA.max {A : ByteArray} (h : PathA A) : A.size ≤ maxLen := by rw [h.size]; unfold maxLen; omega

/-- A bit of the features. -/
def hasB (f : Wh.Feat) (k : Int) : Bool := !(bits BinOp.and IntKind.i64 f.has k == 0)

section
variable {w : World} {B : Nat} {A : ByteArray} {M : MB} {s : MSt}
theorem MemAt.has (h : MemAt w B A M s) : w.cell? ⟨M.b, 0, none⟩ = some (.int .i64 s.f.has) := h.box.cell (j := 0) rfl
theorem MemAt.prec (h : MemAt w B A M s) : w.cell? ⟨M.b, 2, none⟩ = some (.int .i64 s.f.prec) := h.box.cell (j := 2) rfl
theorem MemAt.msize (h : MemAt w B A M s) : w.cell? ⟨M.b, 5, none⟩ = some (.int .i64 s.f.maxSize) := h.box.cell (j := 5) rfl
theorem MemAt.clock (h : MemAt w B A M s) : w.cell? ⟨M.b, 9, none⟩ = some (ptr M.cb) := h.box.cell (j := 9) rfl
theorem MemAt.rootp (h : MemAt w B A M s) : w.cell? ⟨M.b, 10, none⟩ = some (ptr M.rb) := h.box.cell (j := 10) rfl
theorem MemAt.count (h : MemAt w B A M s) : w.cell? ⟨M.b, 11, none⟩ = some (.int .i64 s.cnt) := h.box.cell (j := 11) rfl
theorem MemAt.madec (h : MemAt w B A M s) : w.cell? ⟨M.b, 12, none⟩ = some (.int .i64 s.made) := h.box.cell (j := 12) rfl
theorem MemAt.calls (h : MemAt w B A M s) : w.cell? ⟨M.b, 13, none⟩ = some (.slice (some ⟨M.ca, 0, none⟩) 14 14) := h.box.cell (j := 13) rfl
theorem MemAt.since (h : MemAt w B A M s) : w.cell? ⟨M.b, 14, none⟩ = some (.slice (some ⟨M.si, 0, none⟩) 14 14) := h.box.cell (j := 14) rfl
theorem MemAt.faults (h : MemAt w B A M s) : w.cell? ⟨M.b, 15, none⟩ = some (.slice none 0 0) := h.box.cell (j := 15) rfl
theorem MemAt.versm (h : MemAt w B A M s) : w.cell? ⟨M.b, 18, none⟩ = some (.map (some M.vb)) := h.box.cell (j := 18) rfl
theorem MemAt.numm (h : MemAt w B A M s) : w.cell? ⟨M.b, 19, none⟩ = some (.map (some M.mb)) := h.box.cell (j := 19) rfl
theorem MemAt.rdir (h : MemAt w B A M s) : w.cell? ⟨M.rb, 1, none⟩ = some (.bool true) := h.root.cell (j := 1) rfl
theorem MemAt.rup (h : MemAt w B A M s) : w.cell? ⟨M.rb, 2, none⟩ = some (.pointer none) := h.root.cell (j := 2) rfl
theorem MemAt.rkids (h : MemAt w B A M s) : w.cell? ⟨M.rb, 3, none⟩ = some (.map (some M.kb)) := h.root.cell (j := 3) rfl
theorem MemAt.now (h : MemAt w B A M s) : w.cell? ⟨M.cb, 0, none⟩ = some (.int .i64 s.now) := h.clk.cell (j := 0) rfl
theorem MemAt.feats (h : MemAt w B A M s) : FeatBox w M.b s.f := ⟨h.box.lt, h.box.cell (j := 0) rfl, h.box.cell (j := 1) rfl, h.box.cell (j := 2) rfl, h.box.cell (j := 3) rfl, h.box.cell (j := 4) rfl, h.box.cell (j := 5) rfl, h.box.cell (j := 6) rfl, h.box.cell (j := 7) rfl, h.box.cell (j := 8) rfl⟩
end

theorem has_any (b : Nat) (f : Wh.Feat) (k : Int) (w : World) (hc : w.cell? ⟨b, 0, none⟩ = some (.int .i64 f.has)) :
    Calls Tryz.prog 36 #[ptr b, .int .i64 k] w fun e w' => e = .returned (.bool (hasB f k)) ∧ w' = w := by
  go_enter Tryz.func36, Tryz.ntmps36
  go_wp2_with fail
  go_ret
  exact ⟨ret_bool (by simp [hasB, bne]), rfl⟩

theorem key_any (b : Nat) (f : Wh.Feat) (A : ByteArray) (w : World) (hA : PathA A) (hc : w.cell? ⟨b, 0, none⟩ = some (.int .i64 f.has)) :
    Calls Tryz.prog 83 #[ptr b, .string A] w fun e w' => e = .returned (.string A) ∧ Below w.heap.size w w' := by
  have HH := Lib.hid (has_any b f 2 w hc)
  have HF := Lib.hid (fold_any A w (by rw [hA.size]; omega))
  rw [hA.lower] at HF
  generalize hasB f 2 = t at HH
  clear hc
  cases t
  · go_enter Tryz.func83, Tryz.ntmps83
    go_wp2_with (first | (go_at_call 36; refine HH.out.mono ?_; rintro e w' ⟨rfl, rfl⟩) | (go_at_call 133; refine HF.out.mono ?_; rintro e w1 ⟨rfl, hb1⟩))
    go_ret
    exact ⟨rfl, hb1⟩
  · go_enter Tryz.func83, Tryz.ntmps83
    go_wp2_with (go_at_call 36; refine HH.out.mono ?_; rintro e w' ⟨rfl, rfl⟩)
    go_ret
    exact ⟨rfl, Below.refl _ _⟩
theorem pathKey_any (b : Nat) (f : Wh.Feat) (A : ByteArray) (w : World) (hA : PathA A) (hc : w.cell? ⟨b, 0, none⟩ = some (.int .i64 f.has)) :
    Calls Tryz.prog 39 #[ptr b, .string A] w fun e w' => e = .returned (.string A) ∧ Below w.heap.size w w' := by
  have HH := Lib.hid (key_any b f A w hA hc)
  clear hc
  go_enter Tryz.func39, Tryz.ntmps39
  go_wp2_with (go_at_call 83; refine HH.out.mono ?_; rintro e w1 ⟨rfl, hb1⟩)
  go_ret
  exact ⟨rfl, hb1⟩

theorem nowM_any (b : Nat) (t : Int) (w : World) (hc : w.cell? ⟨b, 0, none⟩ = some (.int .i64 t)) :
    Calls Tryz.prog 26 #[ptr b] w fun e w' => e = .returned (.int .i64 t) ∧ w' = w := by
  go_enter Tryz.func26, Tryz.ntmps26
  go_wp2_with fail
  go_ret
  exact ⟨rfl, rfl⟩

theorem Ints14.set {w : World} {b : Nat} (h : Ints14 w b) (i : Nat) (z : Int) : Ints14 (w.setCell ⟨b, i, none⟩ (.int .i64 z)) b := by
  obtain ⟨arr, h1, h2, h3⟩ := h
  refine ⟨arr.setIfInBounds i (.int .i64 z), BoxIs.putAt h1 i _, by simp [h2], fun j hj => ?_⟩
  rw [Array.getElem?_setIfInBounds]
  by_cases e : i = j
  · subst e
    rw [if_pos rfl, if_pos (by omega)]
    exact ⟨z, rfl⟩
  · rw [if_neg e]
    exact h3 j hj
theorem Ints14.at {w : World} {b : Nat} (h : Ints14 w b) {i : Nat} (hi : i < 14) : (∃ z, w.cell? ⟨b, i, none⟩ = some (.int .i64 z)) ∧ w.frozen? ⟨b, i, none⟩ = false := by
  obtain ⟨arr, h1, h2, h3⟩ := h
  obtain ⟨z, hz⟩ := h3 i hi
  exact ⟨⟨z, h1.cell hz⟩, Lib.frozen_of_heap h1 i⟩
/-- Only the counts of calls have changed. -/
theorem MemAt.counted {w w' : World} {B : Nat} {A : ByteArray} {M : MB} {s : MSt} (h : MemAt w B A M s) (hk : Kp (fun i => i = M.ca ∨ i = M.si) w w') (hc : Ints14 w' M.ca) (hs : Ints14 w' M.si) : MemAt w' B A M s := by
  have hap := h.apart
  refine ⟨h.box.kp hk (fun e => e.elim hap.b.2.2.2.1 hap.b.2.2.2.2.1), h.clk.kp hk (fun e => e.elim hap.cb.2.2.1 hap.cb.2.2.2.1), h.root.kp hk (fun e => e.elim hap.rb.2.1 hap.rb.2.2.1), h.kids.kp hk (fun e => e.elim hap.kb.1 hap.kb.2.1), hc, hs, fun c hcu => ?_, h.nums.kp hk (fun e => e.elim (fun e => hap.ca.2.2.1 e.symm) (fun e => hap.si.2.1 e.symm)), h.vers.kp hk (fun e => e.elim (fun e => hap.ca.2.1 e.symm) (fun e => hap.si.1 e.symm)), h.row.kp hk (fun i hi e => e.elim (fun e => hap.ca.2.2.2 (e ▸ hi)) (fun e => hap.si.2.2 (e ▸ hi))), h.lo, h.ne1, h.ne2⟩
  have hn := hap.nb (by rw [hcu]; simp)
  exact (h.file c hcu).kp hk (fun e => e.elim (fun e => hn.2.2.2.2.1 e.symm) (fun e => hn.2.2.2.2.2.1 e.symm))

set_option maxHeartbeats 2000000 in
set_option maxRecDepth 100000 in
theorem call_any (k : Nat) (hk : k < 14) (w : World) (B : Nat) (A : ByteArray) (M : MB) (s : MSt) (hM : MemAt w B A M s) :
    Calls Tryz.prog 33 #[ptr M.b, .int .i64 k] w fun e w' => e = .returned (.pointer none) ∧ MemAt w' B A M s ∧ Kp (fun i => i = M.ca ∨ i = M.si) w w' ∧ w'.heap.size = w.heap.size := by
  have HM := Lib.hid hM
  have c13 := hM.calls
  obtain ⟨⟨z1, d1⟩, f1⟩ := hM.ca.at hk
  have hk2 : (k : Int) < 14 := by omega
  clear hM
  go_enter Tryz.func33, Tryz.ntmps33
  go_upto_region 2 with fail
  generalize wrap64 (z1 + 1) = y1 at *
  have HK1 : Hid (Kp (fun i => i = M.ca ∨ i = M.si) w (w.setCell ⟨M.ca, k, none⟩ (.int .i64 y1))) := Lib.hid ((Kp.refl _ _).set (.inl (.inl rfl)) k _)
  have HM1 : Hid (MemAt (w.setCell ⟨M.ca, k, none⟩ (.int .i64 y1)) B A M s) := Lib.hid (HM.out.counted HK1.out (HM.out.ca.set k y1) (HM.out.si.kp ((Kp.refl (fun i => i = M.ca) w).set (b := M.ca) (.inl rfl) k _) (fun e => HM.out.ne1 e.symm)))
  have HS1 : Hid ((w.setCell ⟨M.ca, k, none⟩ (.int .i64 y1)).heap.size = w.heap.size) := Lib.hid (by simp [World.setCell])
  clear c13 d1 f1
  generalize w.setCell _ _ = w1 at *
  have c14 := HM1.out.since
  obtain ⟨⟨z2, d2⟩, f2⟩ := HM1.out.si.at hk
  go_upto_region 3 with fail
  generalize wrap64 (z2 + 1) = y2 at *
  have HK2 : Hid (Kp (fun i => i = M.ca ∨ i = M.si) w (w1.setCell ⟨M.si, k, none⟩ (.int .i64 y2))) := Lib.hid (HK1.out.set (.inl (.inr rfl)) k _)
  have HM2 : Hid (MemAt (w1.setCell ⟨M.si, k, none⟩ (.int .i64 y2)) B A M s) := Lib.hid (HM1.out.counted ((Kp.refl _ _).set (.inl (.inr rfl)) k _) (HM1.out.ca.kp ((Kp.refl (fun i => i = M.si) w1).set (b := M.si) (.inl rfl) k _) HM1.out.ne1) (HM1.out.si.set k y2))
  have HS2 : Hid ((w1.setCell ⟨M.si, k, none⟩ (.int .i64 y2)).heap.size = w.heap.size) := Lib.hid (by rw [← HS1.out]; simp [World.setCell])
  clear c14 d2 f2 HK1 HM1 HS1
  generalize w1.setCell _ _ = w2 at *
  have c15 := HM2.out.faults
  go_wp2_with fail
  go_loopg [30] 0 (fun g i wx => i = .int .i64 0 ∧ wx = w2)
  case atStart => exact ⟨rfl, rfl⟩
  case round =>
    obtain ⟨rfl, rfl⟩ := hrel
    go_wp2_with fail
    go_ret
    exact ⟨rfl, HM2.out, HK2.out, HS2.out⟩

set_option maxHeartbeats 2000000 in
theorem begin_any (k : Nat) (hk : k < 14) (w : World) (B : Nat) (A : ByteArray) (M : MB) (s : MSt) (hM : MemAt w B A M s) :
    Calls Tryz.prog 28 #[ptr M.b, .int .i64 k] w fun e w' => e = .returned (.int .i64 0) ∧ MemAt w' B A M s ∧ Kp (fun i => i = M.ca ∨ i = M.si) w w' ∧ w'.heap.size = w.heap.size := by
  have HC := Lib.hid (call_any k hk w B A M s hM)
  clear hM
  go_enter Tryz.func28, Tryz.ntmps28
  go_wp2_with (go_at_call 33; refine HC.out.mono ?_; rintro e w1 ⟨rfl, h1, h2, h3⟩)
  go_ret
  exact ⟨rfl, h1, h2, h3⟩

set_option maxHeartbeats 2000000 in
theorem isFile_any (A : ByteArray) (w : World) (hA : PathA A) (hE : Env w) :
    Calls Tryz.prog 29 #[.string A] w fun e w' => e = .returned (.int .i64 0) ∧ Below w.heap.size w w' := by
  have HC := Lib.hid (check_any A w hE (by rw [hA.size]; omega))
  rw [hA.err] at HC
  have h0 := hA.ne
  go_enter Tryz.func29, Tryz.ntmps29
  go_wp2_with (go_at_call 20; refine HC.out.mono ?_; rintro e w1 ⟨rfl, hb1⟩)
  go_ret
  exact ⟨rfl, hb1⟩

/-- Features that a store has, at which "a" may be made. -/
structure FeatA (f : Wh.Feat) (A : ByteArray) : Prop where
  fl : f.forbid.size < 4294967281
  fa : ∀ b ∈ f.forbid.data.toList, b.toNat < 128
  fits : fitsB f A = true
set_option maxHeartbeats 2000000 in
set_option maxRecDepth 100000 in
theorem isNew_any (b : Nat) (f : Wh.Feat) (A : ByteArray) (w : World) (hA : PathA A) (hE : Env w) (hf : FeatA f A) (hB : FeatBox w b f) :
    Calls Tryz.prog 34 #[ptr b, .string A] w fun e w' => e = .returned (.int .i64 0) ∧ Below w.heap.size w w' := by
  have HC := Lib.hid (isFile_any A w hA hE)
  have HF := Lib.hid (fun W (hb : Below w.heap.size w W) => storefits_any f A W (hE.under hb) hA.err hf.fl hf.fa)
  rw [hf.fits] at HF
  have HB := Lib.hid hB
  clear hE hf hB
  go_enter Tryz.func34, Tryz.ntmps34
  go_upto_region 4 with (go_at_call 29; refine HC.out.mono ?_; rintro e w1 ⟨rfl, hb1⟩)
  obtain ⟨k0, k1, k2, k3, k4, k5, k6, k7, k8, k9⟩ := HB.out.under hb1
  unfold featVal at HF
  go_wp2_with (go_at_call 84; refine (HF.out _ hb1).mono ?_; rintro e w2 ⟨rfl, hb2⟩)
  go_ret
  exact ⟨rfl, bTrans hb1 hb2⟩

set_option maxHeartbeats 2000000 in
theorem parts_any (A : ByteArray) (w : World) (hA : PathA A) (hE : Env w) :
    Calls Tryz.prog 132 #[.string A] w fun e w' => e = .returned (.slice (some ⟨w.heap.size, 0, none⟩) 1 1) ∧ w' = w.alloc (.cells #[.string A] 9) := by
  have HC := Lib.hid (split_one 47 A w hE (by rw [hA.size]; omega))
  rw [hA.pieces] at HC
  have h0 := hA.ne
  go_enter Tryz.func132, Tryz.ntmps132
  go_wp2_with (go_at_call 69; refine HC.out.mono ?_; rintro e w1 ⟨rfl, rfl⟩)
  go_ret
  exact ⟨rfl, rfl⟩
end Go.Proofs.YtmafnjapailliaaGreatDoor
namespace Go.Proofs.YtmafnjapailliaaGreatDoor
open Go.RowKit

theorem zeroNode (w : World) : (zeroValue 74).run Tryz.prog w = .ok (.pointer none) w := by kernel_rfl
/-- Where a file's node is, if there is a file. -/
def nodeP (M : MB) (s : MSt) : Option Addr := s.cur.map fun _ => ⟨M.nb, 0, none⟩
theorem nodeP_val (M : MB) (s : MSt) : (s.cur.map fun _ => ptr M.nb).getD (.pointer none) = .pointer (nodeP M s) := by
  unfold nodeP
  cases s.cur <;> rfl
theorem part_cell (w : World) (A : ByteArray) (t : TypeId) : (w.alloc (.cells #[.string A] t)).cell? ⟨w.heap.size, 0, none⟩ = some (.string A) := by
  rw [World.cell?_alloc_at _ _ _ _ rfl]; rfl

set_option maxHeartbeats 2000000 in
set_option maxRecDepth 100000 in
theorem find_any (w : World) (B : Nat) (A : ByteArray) (M : MB) (s : MSt) (hM : MemAt w B A M s) (hA : PathA A) (hE : Env w) :
    Calls Tryz.prog 82 #[ptr M.b, .string A] w fun e w' => e = .returned (.pointer (nodeP M s)) ∧ Below w.heap.size w w' := by
  have HM := Lib.hid hM
  have HP := Lib.hid (parts_any A w hA hE)
  have HA := Lib.hid hA
  have c10 := hM.rootp
  clear hM hE hA
  go_enter Tryz.func82, Tryz.ntmps82
  go_wp2_with (go_at_call 132; refine HP.out.mono ?_; rintro e w' ⟨rfl, rfl⟩)
  have hb1 := bAlloc (Below.refl w.heap.size w) (.cells #[.string A] 9)
  have d1 := part_cell w A 9
  have hl1 : w.heap.size < (w.alloc (.cells #[.string A] 9)).heap.size := by simp
  obtain ⟨z, hz⟩ : ∃ z, w.heap.size = z := ⟨_, rfl⟩
  rw [hz] at d1 hl1 ⊢
  have HZ := Lib.hid hz
  have HB1 := Lib.hid hb1
  clear hb1 hz
  generalize w.alloc (.cells #[.string A] 9) = w1 at *
  go_loopg [5, 15] 1 (fun g s5 s15 wx => ∃ k : Nat, k + g = 1 ∧ s15 = .int .i64 k ∧ Hid (Below w.heap.size w wx) ∧ Hid (Below w1.heap.size w1 wx) ∧ (k = 0 → s5 = ptr M.rb) ∧ (k = 1 → s5 = .pointer (nodeP M s)))
  case atStart => exact ⟨0, rfl, rfl, HB1, Lib.hid (Below.refl _ _), fun _ => rfl, fun h => by omega⟩
  case round =>
    obtain ⟨k, hk, rfl, HBx, HB1x, h0, h1⟩ := hrel
    by_cases hlt : k < 1
    · obtain rfl : k = 0 := by omega
      obtain rfl := h0 rfl
      obtain rfl : gk = 1 := by omega
      have HMx : Hid (MemAt wr B A M s) := Lib.hid (HM.out.below HBx.out)
      have d0 : wr.cell? ⟨z, 0, none⟩ = some (.string A) := by rw [HB1x.out.cell (p := ⟨z, 0, none⟩) hl1]; exact d1
      have c3 := HMx.out.rkids
      clear h1 hk hlt c10 d1
      go_upto_region 5 with fail
      have c3d : wr.drew.cell? ⟨M.rb, 3, none⟩ = some (.map (some M.kb)) := c3
      have HKy : Hid (Calls Tryz.prog 83 #[ptr M.b, .string A] wr.drew fun e w' => e = .returned (.string A) ∧ Below wr.drew.heap.size wr.drew w') := Lib.hid (key_any M.b s.f A wr.drew HA.out HMx.out.has)
      --R5
      refine wp_region_seq (fun W => W.cell? ⟨M.rb, 3, none⟩ = some (.map (some M.kb))) [(0, true), (1, true), (2, true), (3, true), (4, true), (5, true), (6, false), (7, false), (8, true)] (by as_aux_lemma => kernel_rfl) (by as_aux_lemma => kernel_rfl) (by decide) (by as_aux_lemma => kernel_rfl) c3d ?_
      intro OPS HO
      refine seq_take (o := ⟨_, _, _, _, _, _⟩) (v := ?_) (by rw [HO.out]; rfl) (by rfl) ?_ ?_
      rotate_left 1
      · first | ((intro W _; go_simp) <;> with_reducible rfl) | (intro W hW; skip; (go_simp <;> with_reducible rfl))
      try simp only [Act.put, List.setIfInBounds_toArray, List.set_cons_zero, List.set_cons_succ]
      refine seq_take (o := ⟨_, _, _, _, _, _⟩) (v := ?_) (by rw [HO.out]; rfl) (by rfl) ?_ ?_
      rotate_left 1
      · first | ((intro W _; go_simp) <;> with_reducible rfl) | (intro W hW; skip; (go_simp <;> with_reducible rfl))
      try simp only [Act.put, List.setIfInBounds_toArray, List.set_cons_zero, List.set_cons_succ]
      refine seq_take (o := ⟨_, _, _, _, _, _⟩) (v := ?_) (by rw [HO.out]; rfl) (by rfl) ?_ ?_
      rotate_left 1
      · first | ((intro W _; go_simp) <;> with_reducible rfl) | (intro W hW; skip; (go_simp <;> with_reducible rfl))
      try simp only [Act.put, List.setIfInBounds_toArray, List.set_cons_zero, List.set_cons_succ]
      refine seq_take (o := ⟨_, _, _, _, _, _⟩) (v := ?_) (by rw [HO.out]; rfl) (by rfl) ?_ ?_
      rotate_left 1
      · first | ((intro W _; go_simp) <;> with_reducible rfl) | (intro W hW; skip; (go_simp <;> with_reducible rfl))
      try simp only [Act.put, List.setIfInBounds_toArray, List.set_cons_zero, List.set_cons_succ]
      refine seq_take (o := ⟨_, _, _, _, _, _⟩) (v := ?_) (by rw [HO.out]; rfl) (by rfl) ?_ ?_
      rotate_left 1
      · first | ((intro W _; go_simp) <;> with_reducible rfl) | (intro W hW; skip; (go_simp <;> with_reducible rfl))
      try simp only [Act.put, List.setIfInBounds_toArray, List.set_cons_zero, List.set_cons_succ]
      refine seq_take (o := ⟨_, _, _, _, _, _⟩) (v := ?_) (by rw [HO.out]; rfl) (by rfl) ?_ ?_
      rotate_left 1
      · first | ((intro W _; go_simp) <;> with_reducible rfl) | (intro W hW; skip; (go_simp <;> with_reducible rfl))
      try simp only [Act.put, List.setIfInBounds_toArray, List.set_cons_zero, List.set_cons_succ]
      refine seq_do (o := ⟨_, _, _, _, _, _⟩) (by rw [HO.out]; rfl) (by rfl) (fun K hK => ?_)
      go_wp2_with (go_at_call 83; refine HKy.out.mono ?_; rintro e w5 ⟨rfl, hb5⟩)
      have hS : w5.cell? ⟨M.rb, 3, none⟩ = some (.map (some M.kb)) := cell_kp (Kp.of (F := fun _ => False) hb5) c3d (fun e => e)
      refine hK.out _ _ hS (fun _ => ?_)
      clear hK K
      try simp only [Act.put, List.setIfInBounds_toArray, List.set_cons_zero, List.set_cons_succ]
      refine seq_do (o := ⟨_, _, _, _, _, _⟩) (by rw [HO.out]; rfl) (by rfl) (fun K hK => ?_)
      have hlk : (Instr.lookup 172 (.map (some M.kb)) (.string A) false).run Tryz.prog w5 = .ok (.pointer (nodeP M s)) w5 := by
        rw [← nodeP_val]
        exact ((show MapOn wr.drew M.kb A _ from HMx.out.kids).kp (Kp.of (F := fun _ => False) hb5) (fun e => e)).look Tryz.underlying9 HA.out.max Tryz.underlying172 (zeroNode w5)
      go_wp2_with fail
      refine hK.out _ _ hS (fun _ => ?_)
      clear hK K
      try simp only [Act.put, List.setIfInBounds_toArray, List.set_cons_zero, List.set_cons_succ]
      refine seq_take (o := ⟨_, _, _, _, _, _⟩) (v := ?_) (by rw [HO.out]; rfl) (by rfl) ?_ ?_
      rotate_left 1
      · first | ((intro W _; go_simp) <;> with_reducible rfl) | (intro W hW; skip; (go_simp <;> with_reducible rfl))
      try simp only [Act.put, List.setIfInBounds_toArray, List.set_cons_zero, List.set_cons_succ]
      refine seq_done ?_
      --ENDR5
      have hb9 : Below wr.heap.size wr w5 := ⟨hb5.os, hb5.tape, hb5.output, hb5.size, hb5.block⟩
      clear hb5 hlk c3 c3d d0
      cases hcu : nodeP M s with
      | none =>
        go_wp2_with fail
        go_ret
        exact ⟨by rw [hcu]; rfl, bTrans HBx.out hb9⟩
      | some ad =>
        go_wp2_with fail
        go_roundg 0
        case measure => omega
        case rel => exact ⟨1, by omega, rfl, Lib.hid (bTrans HBx.out hb9), Lib.hid (bTrans HB1x.out hb9), fun h => by omega, fun _ => by rw [hcu]⟩
    · obtain rfl : k = 1 := by omega
      obtain rfl := h1 rfl
      clear h0 h1 hk hlt
      go_wp2_with fail
      go_ret
      exact ⟨rfl, HBx.out⟩

set_option maxHeartbeats 2000000 in
set_option maxRecDepth 100000 in
theorem way_any (w : World) (B : Nat) (A : ByteArray) (M : MB) (s : MSt) (hM : MemAt w B A M s) (hA : PathA A) (hE : Env w) :
    Calls Tryz.prog 141 #[ptr M.b, .string A] w fun e w' => e = .returned (.tuple #[ptr M.rb, .int .i64 0]) ∧ Below w.heap.size w w' := by
  have HP := Lib.hid (parts_any A w hA hE)
  have c10 := hM.rootp
  clear hM hE hA
  go_enter Tryz.func141, Tryz.ntmps141
  go_wp2_with (go_at_call 132; refine HP.out.mono ?_; rintro e w' ⟨rfl, rfl⟩)
  have hb1 := bAlloc (Below.refl w.heap.size w) (.cells #[.string A] 9)
  generalize w.alloc (.cells #[.string A] 9) = w1 at *
  go_loopg [6, 23] 0 (fun g s6 s23 wx => s6 = ptr M.rb ∧ s23 = .int .i64 0 ∧ wx = w1)
  case atStart => exact ⟨rfl, rfl, rfl⟩
  case round =>
    obtain ⟨rfl, rfl, rfl⟩ := hrel
    go_wp2_with fail
    go_ret2
    exact ⟨rfl, hb1⟩

set_option maxHeartbeats 2000000 in
set_option maxRecDepth 100000 in
theorem file_any (w : World) (B : Nat) (A : ByteArray) (M : MB) (s : MSt) (c : FileSt) (hc : s.cur = some c) (hM : MemAt w B A M s) (hA : PathA A) (hE : Env w) :
    Calls Tryz.prog 30 #[ptr M.b, .string A] w fun e w' => e = .returned (.tuple #[ptr M.nb, .int .i64 0]) ∧ Below w.heap.size w w' := by
  have HF := Lib.hid (find_any w B A M s hM hA hE)
  rw [show nodeP M s = some ⟨M.nb, 0, none⟩ by unfold nodeP; rw [hc]; rfl] at HF
  have HM := Lib.hid hM
  clear hM hA hE
  go_enter Tryz.func30, Tryz.ntmps30
  go_upto_region 2 with (go_at_call 82; refine HF.out.mono ?_; rintro e w1 ⟨rfl, hb1⟩)
  have c1 : w1.cell? ⟨M.nb, 1, none⟩ = some (.bool false) := ((HM.out.file c hc).under hb1).cell (j := 1) rfl
  go_wp2_with fail
  go_ret2
  exact ⟨rfl, hb1⟩

set_option maxHeartbeats 2000000 in
set_option maxRecDepth 100000 in
theorem place_any (w : World) (B : Nat) (A : ByteArray) (M : MB) (s : MSt) (hM : MemAt w B A M s) (hA : PathA A) (hE : Env w) :
    Calls Tryz.prog 88 #[ptr M.b, .string A] w fun e w' => e = .returned (.int .i64 0) ∧ Below w.heap.size w w' := by
  have HW := Lib.hid (way_any w B A M s hM hA hE)
  have HF := Lib.hid (fun W (hb : Below w.heap.size w W) => find_any W B A M s (hM.below hb) hA (hE.under hb))
  have HP := Lib.hid (fun W (hb : Below w.heap.size w W) => parts_any A W hA (hE.under hb))
  have HH := Lib.hid (fun W (hb : Below w.heap.size w W) => has_any M.b s.f 1 W (hM.below hb).has)
  generalize hasB s.f 1 = t at HH
  have HM := Lib.hid hM
  clear hM hA hE
  go_enter Tryz.func88, Tryz.ntmps88
  go_upto_region 2 with (go_at_call 141; refine HW.out.mono ?_; rintro e w1 ⟨rfl, hb1⟩)
  have c1 := (HM.out.below hb1).rdir
  go_upto_region 5 with (go_at_call 82; refine (HF.out _ hb1).mono ?_; rintro e w2 ⟨rfl, hb2⟩)
  have hb12 := bTrans hb1 hb2
  have HM2 := Lib.hid (HM.out.below hb12)
  have HFi : Hid (∀ ad, nodeP M s = some ad → w2.cell? ⟨ad.block, 1, none⟩ = some (.bool false) ∧ ad = ⟨M.nb, 0, none⟩) := Lib.hid (fun ad h => by
    unfold nodeP at h
    cases hcu : s.cur with
    | none => rw [hcu] at h; cases h
    | some c =>
      rw [hcu] at h
      injection h with h
      subst h
      exact ⟨(HM2.out.file c hcu).cell (j := 1) rfl, rfl⟩)
  clear hb1 hb2 c1
  cases hno : nodeP M s with
  | none =>
    cases t
    · go_wp2_with (first | (go_at_call 36; refine (HH.out _ hb12).mono ?_; rintro e w' ⟨rfl, rfl⟩) | (go_at_call 132; refine (HP.out _ hb12).mono ?_; rintro e w' ⟨rfl, rfl⟩))
      go_ret
      exact ⟨rfl, hb12⟩
    · go_wp2_with (first | (go_at_call 36; refine (HH.out _ hb12).mono ?_; rintro e w' ⟨rfl, rfl⟩) | (go_at_call 132; refine (HP.out _ hb12).mono ?_; rintro e w' ⟨rfl, rfl⟩))
      go_ret
      exact ⟨rfl, bTrans hb12 (bAlloc (Below.refl _ _) _)⟩
  | some ad =>
    obtain ⟨c2, had⟩ := HFi.out ad hno
    subst had
    cases t
    · go_wp2_with (first | (go_at_call 36; refine (HH.out _ hb12).mono ?_; rintro e w' ⟨rfl, rfl⟩) | (go_at_call 132; refine (HP.out _ hb12).mono ?_; rintro e w' ⟨rfl, rfl⟩))
      go_ret
      exact ⟨rfl, hb12⟩
    · go_wp2_with (first | (go_at_call 36; refine (HH.out _ hb12).mono ?_; rintro e w' ⟨rfl, rfl⟩) | (go_at_call 132; refine (HP.out _ hb12).mono ?_; rintro e w' ⟨rfl, rfl⟩))
      go_ret
      exact ⟨rfl, bTrans hb12 (bAlloc (Below.refl _ _) _)⟩

/-- How many nodes a Put makes. -/
def MSt.add (s : MSt) : Int := if s.cur.isSome then 0 else 1
set_option maxHeartbeats 2000000 in
set_option maxRecDepth 100000 in
theorem fresh_any (w : World) (B : Nat) (A : ByteArray) (M : MB) (s : MSt) (hM : MemAt w B A M s) (hA : PathA A) (hE : Env w) :
    Calls Tryz.prog 90 #[ptr M.b, .string A] w fun e w' => e = .returned (.int .i64 s.add) ∧ Below w.heap.size w w' := by
  have HF := Lib.hid (find_any w B A M s hM hA hE)
  have HW := Lib.hid (fun W (hb : Below w.heap.size w W) => way_any W B A M s (hM.below hb) hA (hE.under hb))
  have HP := Lib.hid (fun W (hb : Below w.heap.size w W) => parts_any A W hA (hE.under hb))
  clear hM hA hE
  cases hcu : s.cur with
  | none =>
    rw [show nodeP M s = none by unfold nodeP; rw [hcu]; rfl] at HF
    rw [show s.add = 1 by unfold MSt.add; rw [hcu]; rfl]
    go_enter Tryz.func90, Tryz.ntmps90
    go_upto_region 3 with (go_at_call 82; refine HF.out.mono ?_; rintro e w1 ⟨rfl, hb1⟩)
    go_upto_region 4 with (go_at_call 141; refine (HW.out _ hb1).mono ?_; rintro e w2 ⟨rfl, hb2⟩)
    have hb12 := bTrans hb1 hb2
    go_wp2_with (go_at_call 132; refine (HP.out _ hb12).mono ?_; rintro e w' ⟨rfl, rfl⟩)
    go_ret
    exact ⟨rfl, bTrans hb12 (bAlloc (Below.refl _ _) _)⟩
  | some c =>
    rw [show nodeP M s = some ⟨M.nb, 0, none⟩ by unfold nodeP; rw [hcu]; rfl] at HF
    rw [show s.add = 0 by unfold MSt.add; rw [hcu]; rfl]
    go_enter Tryz.func90, Tryz.ntmps90
    go_wp2_with (go_at_call 82; refine HF.out.mono ?_; rintro e w1 ⟨rfl, hb1⟩)
    go_ret
    exact ⟨rfl, hb1⟩

set_option maxHeartbeats 2000000 in
theorem metaForm_nil (w : World) : Calls Tryz.prog 89 #[.slice none 0 0] w fun e w' => e = .returned (.bool true) ∧ w' = w := by
  go_enter Tryz.func89, Tryz.ntmps89
  go_wp2_with fail
  go_loopg [10] 0 (fun g i wx => i = .int .i64 0 ∧ wx = w)
  case atStart => exact ⟨rfl, rfl⟩
  case round =>
    obtain ⟨rfl, rfl⟩ := hrel
    go_wp2_with fail
    go_ret
    exact ⟨rfl, rfl⟩

set_option maxHeartbeats 2000000 in
set_option maxRecDepth 100000 in
theorem putFault_any (n : Nat) (w : World) (B : Nat) (A : ByteArray) (M : MB) (s : MSt) (hn : (n : Int) ≤ s.f.maxSize) (hM : MemAt w B A M s) (hA : PathA A) (hE : Env w) :
    Calls Tryz.prog 37 #[ptr M.b, .string A, .int .i64 n, .slice none 0 0] w fun e w' => e = .returned (.int .i64 0) ∧ Below w.heap.size w w' := by
  have HP := Lib.hid (place_any w B A M s hM hA hE)
  have HF := Lib.hid (fun W (hb : Below w.heap.size w W) => fresh_any W B A M s (hM.below hb) hA (hE.under hb))
  have HMf := Lib.hid metaForm_nil
  have HM := Lib.hid hM
  have hsum : s.cnt + s.add = 1 := by unfold MSt.cnt MSt.add; cases s.cur <;> rfl
  have hlt : ¬ (s.f.maxSize < (n : Int)) := by omega
  clear hM hA hE hn
  go_enter Tryz.func37, Tryz.ntmps37
  go_upto_region 2 with (go_at_call 88; refine HP.out.mono ?_; rintro e w1 ⟨rfl, hb1⟩)
  have HM1 := Lib.hid (HM.out.below hb1)
  have c5 := HM1.out.msize
  have c11 := HM1.out.count
  go_upto_region 8 with (go_at_call 89; refine (HMf.out _).mono ?_; rintro e w' ⟨rfl, hw⟩; (have hw2 := hw.symm; clear hw; subst hw2))
  have hb1d : Below w.heap.size w w1.drew := ⟨hb1.os, hb1.tape, hb1.output, hb1.size, hb1.block⟩
  have c11d : w1.drew.cell? ⟨M.b, 11, none⟩ = some (.int .i64 s.cnt) := c11
  clear c5 c11
  --R8
  refine wp_region_seq (fun W => W.cell? ⟨M.b, 11, none⟩ = some (.int .i64 s.cnt)) [(0, true), (1, true), (2, true), (3, true), (4, true), (5, true), (6, false), (7, true), (8, true), (9, true)] (by as_aux_lemma => kernel_rfl) (by as_aux_lemma => kernel_rfl) (by decide) (by as_aux_lemma => kernel_rfl) c11d ?_
  intro OPS HO
  refine seq_take (o := ⟨_, _, _, _, _, _⟩) (v := ?_) (by rw [HO.out]; rfl) (by rfl) ?_ ?_
  rotate_left 1
  · first | ((intro W _; go_simp) <;> with_reducible rfl) | (intro W hW; skip; (go_simp <;> with_reducible rfl))
  try simp only [Act.put, List.setIfInBounds_toArray, List.set_cons_zero, List.set_cons_succ]
  refine seq_take (o := ⟨_, _, _, _, _, _⟩) (v := ?_) (by rw [HO.out]; rfl) (by rfl) ?_ ?_
  rotate_left 1
  · first | ((intro W _; go_simp) <;> with_reducible rfl) | (intro W hW; skip; (go_simp <;> with_reducible rfl))
  try simp only [Act.put, List.setIfInBounds_toArray, List.set_cons_zero, List.set_cons_succ]
  refine seq_take (o := ⟨_, _, _, _, _, _⟩) (v := ?_) (by rw [HO.out]; rfl) (by rfl) ?_ ?_
  rotate_left 1
  · first | ((intro W _; go_simp) <;> with_reducible rfl) | (intro W hW; skip; (go_simp <;> with_reducible rfl))
  try simp only [Act.put, List.setIfInBounds_toArray, List.set_cons_zero, List.set_cons_succ]
  refine seq_take (o := ⟨_, _, _, _, _, _⟩) (v := ?_) (by rw [HO.out]; rfl) (by rfl) ?_ ?_
  rotate_left 1
  · first | ((intro W _; go_simp) <;> with_reducible rfl) | (intro W hW; skip; (go_simp <;> with_reducible rfl))
  try simp only [Act.put, List.setIfInBounds_toArray, List.set_cons_zero, List.set_cons_succ]
  refine seq_take (o := ⟨_, _, _, _, _, _⟩) (v := ?_) (by rw [HO.out]; rfl) (by rfl) ?_ ?_
  rotate_left 1
  · first | ((intro W _; go_simp) <;> with_reducible rfl) | (intro W hW; skip; (go_simp <;> with_reducible rfl))
  try simp only [Act.put, List.setIfInBounds_toArray, List.set_cons_zero, List.set_cons_succ]
  refine seq_take (o := ⟨_, _, _, _, _, _⟩) (v := ?_) (by rw [HO.out]; rfl) (by rfl) ?_ ?_
  rotate_left 1
  · first | ((intro W _; go_simp) <;> with_reducible rfl) | (intro W hW; skip; (go_simp <;> with_reducible rfl))
  try simp only [Act.put, List.setIfInBounds_toArray, List.set_cons_zero, List.set_cons_succ]
  refine seq_do (o := ⟨_, _, _, _, _, _⟩) (by rw [HO.out]; rfl) (by rfl) (fun K hK => ?_)
  go_wp2_with (go_at_call 90; refine (HF.out _ hb1d).mono ?_; rintro e w2 ⟨rfl, hb2⟩)
  have hS : w2.cell? ⟨M.b, 11, none⟩ = some (.int .i64 s.cnt) := cell_kp (Kp.of (F := fun _ => False) hb2) c11d (fun e => e)
  refine hK.out _ _ hS (fun _ => ?_)
  clear hK K
  try simp only [Act.put, List.setIfInBounds_toArray, List.set_cons_zero, List.set_cons_succ]
  refine seq_take (o := ⟨_, _, _, _, _, _⟩) (v := ?_) (by rw [HO.out]; rfl) (by rfl) ?_ ?_
  rotate_left 1
  · first | ((intro W _; go_simp) <;> with_reducible rfl) | (intro W hW; skip; (go_simp <;> with_reducible rfl))
  try simp only [Act.put, List.setIfInBounds_toArray, List.set_cons_zero, List.set_cons_succ]
  refine seq_take (o := ⟨_, _, _, _, _, _⟩) (v := ?_) (by rw [HO.out]; rfl) (by rfl) ?_ ?_
  rotate_left 1
  · first | ((intro W _; go_simp) <;> with_reducible rfl) | (intro W hW; skip; (go_simp <;> with_reducible rfl))
  try simp only [Act.put, List.setIfInBounds_toArray, List.set_cons_zero, List.set_cons_succ]
  refine seq_take (o := ⟨_, _, _, _, _, _⟩) (v := ?_) (by rw [HO.out]; rfl) (by rfl) ?_ ?_
  rotate_left 1
  · first | ((intro W _; go_simp) <;> with_reducible rfl) | (intro W hW; skip; (go_simp <;> with_reducible rfl))
  try simp only [Act.put, List.setIfInBounds_toArray, List.set_cons_zero, List.set_cons_succ]
  refine seq_done ?_
  --ENDR8
  have hb12 := bTrans hb1d hb2
  go_wp2_with fail
  go_ret
  exact ⟨rfl, hb12⟩
end Go.Proofs.YtmafnjapailliaaGreatDoor
namespace Go.Proofs.YtmafnjapailliaaGreatDoor
open Go.RowKit

set_option maxHeartbeats 2000000 in
theorem path_any (nb r : Nat) (A : ByteArray) (w : World) (c0 : w.cell? ⟨nb, 0, none⟩ = some (.string A)) (c2 : w.cell? ⟨nb, 2, none⟩ = some (ptr r)) (c3 : w.cell? ⟨r, 2, none⟩ = some (.pointer none)) :
    Calls Tryz.prog 65 #[ptr nb] w fun e w' => e = .returned (.string A) ∧ w' = w := by
  go_enter Tryz.func65, Tryz.ntmps65
  go_wp2_with fail
  go_ret
  exact ⟨rfl, rfl⟩
theorem MemAt.pathAt {w : World} {B : Nat} {A : ByteArray} {M : MB} {s : MSt} {c : FileSt} (h : MemAt w B A M s) (hc : s.cur = some c) :
    Calls Tryz.prog 65 #[ptr M.nb] w fun e w' => e = .returned (.string A) ∧ w' = w :=
  path_any M.nb M.rb A w ((h.file c hc).cell (j := 0) rfl) ((h.file c hc).cell (j := 2) rfl) h.rup

set_option maxHeartbeats 2000000 in
set_option maxRecDepth 100000 in
theorem last_any (A : ByteArray) (w : World) (hA : PathA A) :
    Calls Tryz.prog 138 #[.string A] w fun e w' => e = .returned (.string A) ∧ w' = w := by
  have HL := Lib.hid (Tryz.strings_LastIndexByte A 47 (by rw [hA.size]; omega) w)
  have hi : Lib.lastIndexByte A 47 = -1 := by rw [hA.eq]; decide +kernel
  rw [hi] at HL
  have hx : A.extract 0 A.size = A := by rw [hA.eq]; decide +kernel
  have hs : (A.size : Int) = 1 := by rw [hA.size]; rfl
  have HX := Lib.hid hx
  go_enter Tryz.func138, Tryz.ntmps138
  go_upto_region 1 with fail
  go_wp2_with (go_at_call 176; refine HL.out.mono ?_; rintro e w2 ⟨rfl, rfl⟩)
  go_ret
  exact ⟨rfl, rfl⟩

set_option maxHeartbeats 2000000 in
set_option maxRecDepth 100000 in
theorem grow_any (w : World) (B : Nat) (A : ByteArray) (M : MB) (s : MSt) (hM : MemAt w B A M s) (hA : PathA A) (hE : Env w) :
    Calls Tryz.prog 137 #[ptr M.b, .string A] w fun e w' => e = .returned (ptr M.rb) ∧ Below w.heap.size w w' := by
  have HW := Lib.hid (way_any w B A M s hM hA hE)
  have HP := Lib.hid (fun W (hb : Below w.heap.size w W) => parts_any A W hA (hE.under hb))
  clear hM hA hE
  go_enter Tryz.func137, Tryz.ntmps137
  go_upto_region 2 with (go_at_call 141; refine HW.out.mono ?_; rintro e w1 ⟨rfl, hb1⟩)
  go_wp2_with (go_at_call 132; refine (HP.out _ hb1).mono ?_; rintro e w' ⟨rfl, rfl⟩)
  have hb2 := bTrans hb1 (bAlloc (Below.refl w1.heap.size w1) (.cells #[.string A] 9))
  generalize w1.alloc (.cells #[.string A] 9) = w2 at *
  go_loopg [5, 6] 0 (fun g s5 s6 wx => s5 = ptr M.rb ∧ s6 = .int .i64 0 ∧ wx = w2)
  case atStart => exact ⟨rfl, rfl, rfl⟩
  case round =>
    obtain ⟨rfl, rfl, rfl⟩ := hrel
    go_wp2_with fail
    go_ret
    exact ⟨rfl, hb2⟩

/-- The time that a file gets. -/
def tOf (s : MSt) (t : Int) : Int := max (if hasB s.f 4 then t else s.now) 0 - max (if hasB s.f 4 then t else s.now) 0 % s.f.prec
set_option maxHeartbeats 2000000 in
set_option maxRecDepth 100000 in
theorem timeOf_any (t : Int) (w : World) (B : Nat) (A : ByteArray) (M : MB) (s : MSt) (hM : MemAt w B A M s) (ht : -9223372036854775808 ≤ t ∧ t ≤ 9223372036854775807) (hn : -9223372036854775808 ≤ s.now ∧ s.now ≤ 9223372036854775807) (hp : 1 ≤ s.f.prec ∧ s.f.prec ≤ 9223372036854775807) :
    Calls Tryz.prog 87 #[ptr M.b, .int .i64 t] w fun e w' => e = .returned (.int .i64 (tOf s t)) ∧ w' = w := by
  have HH := Lib.hid (has_any M.b s.f 4 w hM.has)
  have HN := Lib.hid (nowM_any M.cb s.now w hM.now)
  have hd : ∀ b, tOf s t = if b = hasB s.f 4 then max (if b then t else s.now) 0 - max (if b then t else s.now) 0 % s.f.prec else tOf s t := fun b => by
    split
    · rename_i h; rw [h]; rfl
    · rfl
  have HD := Lib.hid hd
  have c9 := hM.clock
  have c2 := hM.prec
  generalize hasB s.f 4 = b at *
  clear hM hd
  cases b
  · obtain ⟨m, hm⟩ : ∃ m, max s.now 0 = m := ⟨_, rfl⟩
    have HT := Lib.hid (truncate_any m s.f.prec w (by omega) (by omega))
    have HR : Hid (tOf s t = m - m % s.f.prec) := Lib.hid (by rw [HD.out false, if_pos rfl, ← hm]; rfl)
    have hm0 : 0 ≤ m := by omega
    go_enter Tryz.func87, Tryz.ntmps87
    go_wp2_with (first | (go_at_call 36; refine HH.out.mono ?_; rintro e w' ⟨rfl, rfl⟩) | (go_at_call 26; refine HN.out.mono ?_; rintro e w' ⟨rfl, rfl⟩) | (go_at_call 140; refine HT.out.mono ?_; rintro e w' ⟨r, rfl, rfl, hr1, hr2⟩))
    go_ret
    exact ⟨ret_int (by rw [HR.out, hr2 hp.1 (by omega)]), rfl⟩
  · obtain ⟨m, hm⟩ : ∃ m, max t 0 = m := ⟨_, rfl⟩
    have HT := Lib.hid (truncate_any m s.f.prec w (by omega) (by omega))
    have HR : Hid (tOf s t = m - m % s.f.prec) := Lib.hid (by rw [HD.out true, if_pos rfl, ← hm]; rfl)
    have hm0 : 0 ≤ m := by omega
    go_enter Tryz.func87, Tryz.ntmps87
    go_wp2_with (first | (go_at_call 36; refine HH.out.mono ?_; rintro e w' ⟨rfl, rfl⟩) | (go_at_call 26; refine HN.out.mono ?_; rintro e w' ⟨rfl, rfl⟩) | (go_at_call 140; refine HT.out.mono ?_; rintro e w' ⟨r, rfl, rfl, hr1, hr2⟩))
    go_ret
    exact ⟨ret_int (by rw [HR.out, hr2 hp.1 (by omega)]), rfl⟩

/-- A new file below the root. -/
theorem MemAt.added {w w' : World} {B : Nat} {A : ByteArray} {M : MB} {s : MSt} {nb : Nat} {c : FileSt} (h : MemAt w B A M s) (_hc : s.cur = none) (hnb : BoxIs w nb (nodeArr A false none none c.data c.time c.id) 174) (hB : B ≤ nb)
    (hk : Kp (fun i => i = nb ∨ i = M.kb ∨ i = M.b) w w') (h1 : BoxIs w' nb (nodeArr A false (some ⟨M.rb, 0, none⟩) none c.data c.time c.id) 174) (h2 : MapOn w' M.kb A (some (ptr nb)))
    (h3 : BoxIs w' M.b (memArr s.f M 1 s.made s.begun s.ups) 89) : MemAt w' B A { M with nb := nb } { s with cur := some c } := by
  have hap := h.apart
  obtain ⟨ac, hac, _⟩ := h.ca
  obtain ⟨asi, has, _⟩ := h.si
  obtain ⟨om, hom, _⟩ := h.nums
  obtain ⟨ov, hov, _⟩ := h.vers
  have hr : M.rb ≠ nb := fun e => by
    have h9 := h.root
    rw [e] at h9
    have := h9.symm.trans hnb
    simp at this
  refine ⟨h3, h.clk.kp hk ?_, h.root.kp hk ?_, h2, h.ca.kp hk ?_, h.si.kp hk ?_, fun c' hc' => ?_, h.nums.kp hk ?_, h.vers.kp hk ?_, h.row.kp hk ?_, ?_, h.ne1, h.ne2⟩
  · exact fun e => e.elim (h.clk.ne hnb (by decide)) (fun e => e.elim hap.cb.2.1 (fun e => hap.b.1 e.symm))
  · exact fun e => e.elim hr (fun e => e.elim hap.rb.1 (fun e => hap.b.2.1 e.symm))
  · exact fun e => e.elim (hac.ne hnb (by decide)) (fun e => e.elim (fun e => hap.kb.1 e.symm) (fun e => hap.b.2.2.2.1 e.symm))
  · exact fun e => e.elim (has.ne hnb (by decide)) (fun e => e.elim (fun e => hap.kb.2.1 e.symm) (fun e => hap.b.2.2.2.2.1 e.symm))
  · injection hc' with hc'
    subst hc'
    exact h1
  · exact fun e => e.elim (fun e => hnb.ne_map hom e.symm) (fun e => e.elim (fun e => hap.kb.2.2.2.1 e.symm) (fun e => hap.b.2.2.2.2.2.2.1 e.symm))
  · exact fun e => e.elim (fun e => hnb.ne_map hov e.symm) (fun e => e.elim (fun e => hap.kb.2.2.1 e.symm) (fun e => hap.b.2.2.2.2.2.1 e.symm))
  · exact fun i hi e => e.elim (fun e => h.row.ne hnb (by decide) (e ▸ hi)) (fun e => e.elim (fun e => hap.kb.2.2.2.2 (e ▸ hi)) (fun e => hap.b.2.2.2.2.2.2.2 (e ▸ hi)))
  · obtain ⟨l1, l2, l3, l4, l5, l6, l7, l8, l9⟩ := h.lo
    exact ⟨l1, l2, l3, l4, l5, l6, l7, l8, hB⟩

set_option maxHeartbeats 2000000 in
set_option maxRecDepth 100000 in
theorem add_any (w : World) (B : Nat) (A : ByteArray) (M : MB) (s : MSt) (nb : Nat) (c : FileSt) (hM : MemAt w B A M s) (hc : s.cur = none) (hN : BoxIs w nb (nodeArr A false none none c.data c.time c.id) 174) (hB : B ≤ nb) (hA : PathA A) :
    Calls Tryz.prog 136 #[ptr M.b, ptr M.rb, ptr nb] w fun e w' => e = .returned (ptr nb) ∧ MemAt w' B A { M with nb := nb } { s with cur := some c } ∧ Kp (fun i => i = nb ∨ i = M.kb ∨ i = M.b) w w' := by
  have HM := Lib.hid hM
  have HNb := Lib.hid hN
  have HA := Lib.hid hA
  have hap := hM.apart
  have hrn : M.rb ≠ nb := fun e => by
    have h9 := hM.root
    rw [e] at h9
    have := h9.symm.trans hN
    simp at this
  have hbn : M.b ≠ nb := hM.box.ne hN (by decide)
  have hkn : M.kb ≠ nb := (hN.ne_map hM.kids).symm
  have HAp := Lib.hid (And.intro hap (And.intro hrn (And.intro hbn hkn)))
  have c2 : w.cell? ⟨nb, 2, none⟩ = some (.pointer none) := hN.cell (j := 2) rfl
  have f2 : w.frozen? ⟨nb, 2, none⟩ = false := Lib.frozen_of_heap hN 2
  clear hM hN hA hap hrn hbn hkn
  go_enter Tryz.func136, Tryz.ntmps136
  go_upto_region 2 with fail
  have HK1 : Hid (Kp (fun i => i = nb) w (w.setCell ⟨nb, 2, none⟩ (ptr M.rb))) := Lib.hid ((Kp.refl (fun i => i = nb) w).set (b := nb) (.inl rfl) 2 _)
  have HN1 : Hid (BoxIs (w.setCell ⟨nb, 2, none⟩ (ptr M.rb)) nb (nodeArr A false (some ⟨M.rb, 0, none⟩) none c.data c.time c.id) 174) := Lib.hid (HNb.out.putAt 2 (ptr M.rb))
  clear c2 f2
  generalize w.setCell ⟨nb, 2, none⟩ (ptr M.rb) = w1 at *
  have d1 : w1.cell? ⟨nb, 1, none⟩ = some (.bool false) := HN1.out.cell (j := 1) rfl
  go_upto_region 4 with fail
  clear d1
  have e0 : w1.drew.cell? ⟨nb, 0, none⟩ = some (.string A) := HN1.out.cell (j := 0) rfl
  have e3 : w1.drew.cell? ⟨M.rb, 3, none⟩ = some (.map (some M.kb)) := (HM.out.root.kp HK1.out HAp.out.2.1).cell (j := 3) rfl
  have HKd : Hid (MapOn w1.drew M.kb A none) := Lib.hid (by
    have h := HM.out.kids.kp HK1.out HAp.out.2.2.2
    rw [hc] at h
    exact h)
  have HKy := Lib.hid (key_any M.b s.f A w1.drew HA.out ((HM.out.box.kp HK1.out HAp.out.2.2.1).cell (j := 0) rfl))
  --R4
  refine wp_region_seq (fun W => W.cell? ⟨nb, 0, none⟩ = some (.string A) ∧ W.cell? ⟨M.rb, 3, none⟩ = some (.map (some M.kb))) [(0, true), (1, true), (2, true), (3, true), (4, true), (5, true), (6, true), (7, true), (8, true), (10, true), (9, false), (11, false)] (by as_aux_lemma => kernel_rfl) (by as_aux_lemma => kernel_rfl) (by decide) (by as_aux_lemma => kernel_rfl) ⟨e0, e3⟩ ?_
  intro OPS HO
  refine seq_take (o := ⟨_, _, _, _, _, _⟩) (v := ?_) (by rw [HO.out]; rfl) (by rfl) ?_ ?_
  rotate_left 1
  · first | ((intro W _; go_simp) <;> with_reducible rfl) | (intro W hW; obtain ⟨hW0, hW1⟩ := hW; (go_simp <;> with_reducible rfl))
  try simp only [Act.put, List.setIfInBounds_toArray, List.set_cons_zero, List.set_cons_succ]
  refine seq_take (o := ⟨_, _, _, _, _, _⟩) (v := ?_) (by rw [HO.out]; rfl) (by rfl) ?_ ?_
  rotate_left 1
  · first | ((intro W _; go_simp) <;> with_reducible rfl) | (intro W hW; obtain ⟨hW0, hW1⟩ := hW; (go_simp <;> with_reducible rfl))
  try simp only [Act.put, List.setIfInBounds_toArray, List.set_cons_zero, List.set_cons_succ]
  refine seq_take (o := ⟨_, _, _, _, _, _⟩) (v := ?_) (by rw [HO.out]; rfl) (by rfl) ?_ ?_
  rotate_left 1
  · first | ((intro W _; go_simp) <;> with_reducible rfl) | (intro W hW; obtain ⟨hW0, hW1⟩ := hW; (go_simp <;> with_reducible rfl))
  try simp only [Act.put, List.setIfInBounds_toArray, List.set_cons_zero, List.set_cons_succ]
  refine seq_take (o := ⟨_, _, _, _, _, _⟩) (v := ?_) (by rw [HO.out]; rfl) (by rfl) ?_ ?_
  rotate_left 1
  · first | ((intro W _; go_simp) <;> with_reducible rfl) | (intro W hW; obtain ⟨hW0, hW1⟩ := hW; (go_simp <;> with_reducible rfl))
  try simp only [Act.put, List.setIfInBounds_toArray, List.set_cons_zero, List.set_cons_succ]
  refine seq_take (o := ⟨_, _, _, _, _, _⟩) (v := ?_) (by rw [HO.out]; rfl) (by rfl) ?_ ?_
  rotate_left 1
  · first | ((intro W _; go_simp) <;> with_reducible rfl) | (intro W hW; obtain ⟨hW0, hW1⟩ := hW; (go_simp <;> with_reducible rfl))
  try simp only [Act.put, List.setIfInBounds_toArray, List.set_cons_zero, List.set_cons_succ]
  refine seq_take (o := ⟨_, _, _, _, _, _⟩) (v := ?_) (by rw [HO.out]; rfl) (by rfl) ?_ ?_
  rotate_left 1
  · first | ((intro W _; go_simp) <;> with_reducible rfl) | (intro W hW; obtain ⟨hW0, hW1⟩ := hW; (go_simp <;> with_reducible rfl))
  try simp only [Act.put, List.setIfInBounds_toArray, List.set_cons_zero, List.set_cons_succ]
  refine seq_take (o := ⟨_, _, _, _, _, _⟩) (v := ?_) (by rw [HO.out]; rfl) (by rfl) ?_ ?_
  rotate_left 1
  · first | ((intro W _; go_simp) <;> with_reducible rfl) | (intro W hW; obtain ⟨hW0, hW1⟩ := hW; (go_simp <;> with_reducible rfl))
  try simp only [Act.put, List.setIfInBounds_toArray, List.set_cons_zero, List.set_cons_succ]
  refine seq_take (o := ⟨_, _, _, _, _, _⟩) (v := ?_) (by rw [HO.out]; rfl) (by rfl) ?_ ?_
  rotate_left 1
  · first | ((intro W _; go_simp) <;> with_reducible rfl) | (intro W hW; obtain ⟨hW0, hW1⟩ := hW; (go_simp <;> with_reducible rfl))
  try simp only [Act.put, List.setIfInBounds_toArray, List.set_cons_zero, List.set_cons_succ]
  refine seq_take (o := ⟨_, _, _, _, _, _⟩) (v := ?_) (by rw [HO.out]; rfl) (by rfl) ?_ ?_
  rotate_left 1
  · first | ((intro W _; go_simp) <;> with_reducible rfl) | (intro W hW; obtain ⟨hW0, hW1⟩ := hW; (go_simp <;> with_reducible rfl))
  try simp only [Act.put, List.setIfInBounds_toArray, List.set_cons_zero, List.set_cons_succ]
  refine seq_take (o := ⟨_, _, _, _, _, _⟩) (v := ?_) (by rw [HO.out]; rfl) (by rfl) ?_ ?_
  rotate_left 1
  · first | ((intro W _; go_simp) <;> with_reducible rfl) | (intro W hW; obtain ⟨hW0, hW1⟩ := hW; (go_simp <;> with_reducible rfl))
  try simp only [Act.put, List.setIfInBounds_toArray, List.set_cons_zero, List.set_cons_succ]
  refine seq_do (o := ⟨_, _, _, _, _, _⟩) (by rw [HO.out]; rfl) (by rfl) (fun K hK => ?_)
  go_wp2_with (go_at_call 83; refine HKy.out.mono ?_; rintro e w5 ⟨rfl, hb5⟩)
  have hS : w5.cell? ⟨nb, 0, none⟩ = some (.string A) ∧ w5.cell? ⟨M.rb, 3, none⟩ = some (.map (some M.kb)) := ⟨cell_kp (Kp.of (F := fun _ => False) hb5) e0 (fun e => e), cell_kp (Kp.of (F := fun _ => False) hb5) e3 (fun e => e)⟩
  refine hK.out _ _ hS (fun _ => ?_)
  clear hK K
  try simp only [Act.put, List.setIfInBounds_toArray, List.set_cons_zero, List.set_cons_succ]
  refine seq_do (o := ⟨_, _, _, _, _, _⟩) (by rw [HO.out]; rfl) (by rfl) (fun K hK => ?_)
  refine wp_mapUpdate_on w5 (HKd.out.kp (Kp.of (F := fun _ => False) hb5) (fun e => e)) _ _ _ _ rfl Tryz.underlying9 HA.out.max Tryz.underlying172 rfl rfl _ rfl (fun w6 hw6a hw6b => ?_)
  replace hS : w6.cell? ⟨nb, 0, none⟩ = some (.string A) ∧ w6.cell? ⟨M.rb, 3, none⟩ = some (.map (some M.kb)) := ⟨cell_kp hw6b hS.1 (fun e => HAp.out.2.2.2 e.symm), cell_kp hw6b hS.2 HAp.out.1.rb.1⟩
  refine hK.out _ _ hS (fun _ => ?_)
  clear hK K
  try simp only [Act.put]
  refine seq_done ?_
  --ENDR4
  have hb9 : Below w1.heap.size w1 w5 := Below.undrew hb5
  have HK5 : Hid (Kp (fun i => i = nb ∨ i = M.kb ∨ i = M.b) w w6) := Lib.hid (((HK1.out.mono (fun i e => .inl e)).trans (Kp.of hb9)).trans (hw6b.mono (fun i e => .inr (.inl e))))
  have HB6 : Hid (BoxIs w6 M.b (memArr s.f M 0 s.made s.begun s.ups) 89) := Lib.hid (by
    have h := HM.out.box
    rw [show s.cnt = 0 by unfold MSt.cnt; rw [hc]; rfl] at h
    exact ((h.kp (F := fun i => i = nb) HK1.out HAp.out.2.2.1).under hb9).kp (F := fun i => i = M.kb) hw6b HAp.out.1.b.2.2.1)
  have HN6 : Hid (BoxIs w6 nb (nodeArr A false (some ⟨M.rb, 0, none⟩) none c.data c.time c.id) 174) := Lib.hid ((HN1.out.under hb9).kp (F := fun i => i = M.kb) hw6b (fun e => HAp.out.2.2.2 e.symm))
  have HMp := Lib.hid hw6a
  have g3 : w6.cell? ⟨M.b, 11, none⟩ = some (.int .i64 0) := HB6.out.cell (j := 11) rfl
  have g4 : w6.frozen? ⟨M.b, 11, none⟩ = false := Lib.frozen_of_heap HB6.out 11
  clear hb5 hb9 hw6a hw6b hS
  go_wp2_with fail
  go_ret
  have hk7 : Kp (fun i => i = M.b) w6 (w6.setCell ⟨M.b, 11, none⟩ (.int .i64 1)) := (Kp.refl (fun i => i = M.b) w6).set (b := M.b) (.inl rfl) 11 _
  refine ⟨rfl, HM.out.added hc HNb.out hB (HK5.out.set (b := M.b) (.inl (.inr (.inr rfl))) 11 _) (HN6.out.kp hk7 (fun e => HAp.out.2.2.1 e.symm)) (HMp.out.kp hk7 (fun e => HAp.out.1.b.2.2.1 e.symm)) ?_, HK5.out.set (b := M.b) (.inl (.inr (.inr rfl))) 11 _⟩
  exact HB6.out.putAt 11 (.int .i64 1)

/-- The file is gone. -/
theorem MemAt.dropped {w w' : World} {B : Nat} {A : ByteArray} {M : MB} {s : MSt} (h : MemAt w B A M s) (hk : Kp (fun i => i = M.kb ∨ i = M.b) w w') (h2 : MapOn w' M.kb A none) (h3 : BoxIs w' M.b (memArr s.f M 0 s.made s.begun s.ups) 89) :
    MemAt w' B A M { s with cur := none } := by
  have hap := h.apart
  refine ⟨h3, h.clk.kp hk ?_, h.root.kp hk ?_, h2, h.ca.kp hk ?_, h.si.kp hk ?_, fun c' hc' => (by cases hc'), h.nums.kp hk ?_, h.vers.kp hk ?_, h.row.kp hk ?_, h.lo, h.ne1, h.ne2⟩
  · exact fun e => e.elim hap.cb.2.1 (fun e => hap.b.1 e.symm)
  · exact fun e => e.elim hap.rb.1 (fun e => hap.b.2.1 e.symm)
  · exact fun e => e.elim (fun e => hap.kb.1 e.symm) (fun e => hap.b.2.2.2.1 e.symm)
  · exact fun e => e.elim (fun e => hap.kb.2.1 e.symm) (fun e => hap.b.2.2.2.2.1 e.symm)
  · exact fun e => e.elim (fun e => hap.kb.2.2.2.1 e.symm) (fun e => hap.b.2.2.2.2.2.2.1 e.symm)
  · exact fun e => e.elim (fun e => hap.kb.2.2.1 e.symm) (fun e => hap.b.2.2.2.2.2.1 e.symm)
  · exact fun i hi e => e.elim (fun e => hap.kb.2.2.2.2 (e ▸ hi)) (fun e => hap.b.2.2.2.2.2.2.2 (e ▸ hi))

set_option maxHeartbeats 2000000 in
set_option maxRecDepth 100000 in
theorem drop_any (w : World) (B : Nat) (A : ByteArray) (M : MB) (s : MSt) (c : FileSt) (hM : MemAt w B A M s) (hc : s.cur = some c) (hA : PathA A) :
    Calls Tryz.prog 32 #[ptr M.b, ptr M.nb] w fun e w' => e = .returned (.tuple #[]) ∧ MemAt w' B A M { s with cur := none } ∧ Kp (fun i => i = M.kb ∨ i = M.b) w w' := by
  have HM := Lib.hid hM
  have HA := Lib.hid hA
  have hap := hM.apart
  have hn := hap.nb (by rw [hc]; simp)
  have HAp := Lib.hid (And.intro hap hn)
  have c2 : w.cell? ⟨M.nb, 2, none⟩ = some (ptr M.rb) := (hM.file c hc).cell (j := 2) rfl
  clear hM hA hap hn
  go_enter Tryz.func32, Tryz.ntmps32
  go_upto_region 1 with fail
  have e0 : w.drew.cell? ⟨M.nb, 0, none⟩ = some (.string A) := (HM.out.file c hc).cell (j := 0) rfl
  have e3 : w.drew.cell? ⟨M.rb, 3, none⟩ = some (.map (some M.kb)) := HM.out.rkids
  have HKd : Hid (MapOn w.drew M.kb A (some (ptr M.nb))) := Lib.hid (by
    have h := HM.out.kids
    rw [hc] at h
    exact h)
  have HKy := Lib.hid (key_any M.b s.f A w.drew HA.out HM.out.has)
  clear c2
  --R1
  refine wp_region_seq (fun W => W.cell? ⟨M.nb, 0, none⟩ = some (.string A) ∧ W.cell? ⟨M.rb, 3, none⟩ = some (.map (some M.kb))) [(0, true), (1, true), (2, true), (3, true), (4, true), (5, true), (6, true), (7, true), (8, true), (9, false), (10, false)] (by as_aux_lemma => kernel_rfl) (by as_aux_lemma => kernel_rfl) (by decide) (by as_aux_lemma => kernel_rfl) ⟨e0, e3⟩ ?_
  intro OPS HO
  refine seq_take (o := ⟨_, _, _, _, _, _⟩) (v := ?_) (by rw [HO.out]; rfl) (by rfl) ?_ ?_
  rotate_left 1
  · first | ((intro W _; go_simp) <;> with_reducible rfl) | (intro W hW; obtain ⟨hW0, hW1⟩ := hW; (go_simp <;> with_reducible rfl))
  try simp only [Act.put, List.setIfInBounds_toArray, List.set_cons_zero, List.set_cons_succ]
  refine seq_take (o := ⟨_, _, _, _, _, _⟩) (v := ?_) (by rw [HO.out]; rfl) (by rfl) ?_ ?_
  rotate_left 1
  · first | ((intro W _; go_simp) <;> with_reducible rfl) | (intro W hW; obtain ⟨hW0, hW1⟩ := hW; (go_simp <;> with_reducible rfl))
  try simp only [Act.put, List.setIfInBounds_toArray, List.set_cons_zero, List.set_cons_succ]
  refine seq_take (o := ⟨_, _, _, _, _, _⟩) (v := ?_) (by rw [HO.out]; rfl) (by rfl) ?_ ?_
  rotate_left 1
  · first | ((intro W _; go_simp) <;> with_reducible rfl) | (intro W hW; obtain ⟨hW0, hW1⟩ := hW; (go_simp <;> with_reducible rfl))
  try simp only [Act.put, List.setIfInBounds_toArray, List.set_cons_zero, List.set_cons_succ]
  refine seq_take (o := ⟨_, _, _, _, _, _⟩) (v := ?_) (by rw [HO.out]; rfl) (by rfl) ?_ ?_
  rotate_left 1
  · first | ((intro W _; go_simp) <;> with_reducible rfl) | (intro W hW; obtain ⟨hW0, hW1⟩ := hW; (go_simp <;> with_reducible rfl))
  try simp only [Act.put, List.setIfInBounds_toArray, List.set_cons_zero, List.set_cons_succ]
  refine seq_take (o := ⟨_, _, _, _, _, _⟩) (v := ?_) (by rw [HO.out]; rfl) (by rfl) ?_ ?_
  rotate_left 1
  · first | ((intro W _; go_simp) <;> with_reducible rfl) | (intro W hW; obtain ⟨hW0, hW1⟩ := hW; (go_simp <;> with_reducible rfl))
  try simp only [Act.put, List.setIfInBounds_toArray, List.set_cons_zero, List.set_cons_succ]
  refine seq_take (o := ⟨_, _, _, _, _, _⟩) (v := ?_) (by rw [HO.out]; rfl) (by rfl) ?_ ?_
  rotate_left 1
  · first | ((intro W _; go_simp) <;> with_reducible rfl) | (intro W hW; obtain ⟨hW0, hW1⟩ := hW; (go_simp <;> with_reducible rfl))
  try simp only [Act.put, List.setIfInBounds_toArray, List.set_cons_zero, List.set_cons_succ]
  refine seq_take (o := ⟨_, _, _, _, _, _⟩) (v := ?_) (by rw [HO.out]; rfl) (by rfl) ?_ ?_
  rotate_left 1
  · first | ((intro W _; go_simp) <;> with_reducible rfl) | (intro W hW; obtain ⟨hW0, hW1⟩ := hW; (go_simp <;> with_reducible rfl))
  try simp only [Act.put, List.setIfInBounds_toArray, List.set_cons_zero, List.set_cons_succ]
  refine seq_take (o := ⟨_, _, _, _, _, _⟩) (v := ?_) (by rw [HO.out]; rfl) (by rfl) ?_ ?_
  rotate_left 1
  · first | ((intro W _; go_simp) <;> with_reducible rfl) | (intro W hW; obtain ⟨hW0, hW1⟩ := hW; (go_simp <;> with_reducible rfl))
  try simp only [Act.put, List.setIfInBounds_toArray, List.set_cons_zero, List.set_cons_succ]
  refine seq_take (o := ⟨_, _, _, _, _, _⟩) (v := ?_) (by rw [HO.out]; rfl) (by rfl) ?_ ?_
  rotate_left 1
  · first | ((intro W _; go_simp) <;> with_reducible rfl) | (intro W hW; obtain ⟨hW0, hW1⟩ := hW; (go_simp <;> with_reducible rfl))
  try simp only [Act.put, List.setIfInBounds_toArray, List.set_cons_zero, List.set_cons_succ]
  refine seq_do (o := ⟨_, _, _, _, _, _⟩) (by rw [HO.out]; rfl) (by rfl) (fun K hK => ?_)
  go_wp2_with (go_at_call 83; refine HKy.out.mono ?_; rintro e w5 ⟨rfl, hb5⟩)
  have hS : w5.cell? ⟨M.nb, 0, none⟩ = some (.string A) ∧ w5.cell? ⟨M.rb, 3, none⟩ = some (.map (some M.kb)) := ⟨cell_kp (Kp.of (F := fun _ => False) hb5) e0 (fun e => e), cell_kp (Kp.of (F := fun _ => False) hb5) e3 (fun e => e)⟩
  refine hK.out _ _ hS (fun _ => ?_)
  clear hK K
  try simp only [Act.put, List.setIfInBounds_toArray, List.set_cons_zero, List.set_cons_succ]
  refine seq_do (o := ⟨_, _, _, _, _, _⟩) (by rw [HO.out]; rfl) (by rfl) (fun K hK => ?_)
  refine wp_delete_on w5 (HKd.out.kp (Kp.of (F := fun _ => False) hb5) (fun e => e)) _ _ _ _ rfl Tryz.underlying9 HA.out.max Tryz.underlying172 rfl rfl (fun w6 hw6a hw6b => ?_)
  replace hS : w6.cell? ⟨M.nb, 0, none⟩ = some (.string A) ∧ w6.cell? ⟨M.rb, 3, none⟩ = some (.map (some M.kb)) := ⟨cell_kp hw6b hS.1 (fun e => HAp.out.2.2.2.2.1 e.symm), cell_kp hw6b hS.2 HAp.out.1.rb.1⟩
  refine hK.out _ _ hS (fun _ => ?_)
  clear hK K
  try simp only [Act.put]
  refine seq_done ?_
  --ENDR1
  have hb9 : Below w.heap.size w w5 := Below.undrew hb5
  have HK5 : Hid (Kp (fun i => i = M.kb ∨ i = M.b) w w6) := Lib.hid ((Kp.of hb9).trans (hw6b.mono (fun i e => .inl e)))
  have HB6 : Hid (BoxIs w6 M.b (memArr s.f M 1 s.made s.begun s.ups) 89) := Lib.hid (by
    have h := HM.out.box
    rw [show s.cnt = 1 by unfold MSt.cnt; rw [hc]; rfl] at h
    exact (h.under hb9).kp (F := fun i => i = M.kb) hw6b HAp.out.1.b.2.2.1)
  have HMp := Lib.hid hw6a
  have g3 : w6.cell? ⟨M.b, 11, none⟩ = some (.int .i64 1) := HB6.out.cell (j := 11) rfl
  have g4 : w6.frozen? ⟨M.b, 11, none⟩ = false := Lib.frozen_of_heap HB6.out 11
  have HR6 : Hid (BoxIs w6 M.rb (nodeArr ByteArray.empty true none (some M.kb) ByteArray.empty 0 ByteArray.empty) 174) := Lib.hid ((HM.out.root.under hb9).kp (F := fun i => i = M.kb) hw6b HAp.out.1.rb.1)
  clear hb5 hb9 hw6a hw6b hS e0 e3
  go_upto_region 3 with fail
  have hk7 : Kp (fun i => i = M.b) w6 (w6.setCell ⟨M.b, 11, none⟩ (.int .i64 0)) := (Kp.refl (fun i => i = M.b) w6).set (b := M.b) (.inl rfl) 11 _
  have r2 : (w6.setCell ⟨M.b, 11, none⟩ (.int .i64 0)).cell? ⟨M.rb, 2, none⟩ = some (.pointer none) := (HR6.out.kp hk7 (fun e => HAp.out.1.b.2.1 e.symm)).cell (j := 2) rfl
  have HK7 := Lib.hid hk7
  have HB7 : Hid (BoxIs (w6.setCell ⟨M.b, 11, none⟩ (.int .i64 0)) M.b (memArr s.f M 0 s.made s.begun s.ups) 89) := Lib.hid (HB6.out.putAt 11 (.int .i64 0))
  clear g3 g4 hk7
  generalize w6.setCell ⟨M.b, 11, none⟩ (.int .i64 0) = w7 at *
  go_wp2_with fail
  go_end0
  refine ⟨rfl, HM.out.dropped (HK5.out.trans (HK7.out.mono (fun i e => .inr e))) (HMp.out.kp HK7.out (fun e => HAp.out.1.b.2.2.1 e.symm)) HB7.out, HK5.out.trans (HK7.out.mono (fun i e => .inr e))⟩
end Go.Proofs.YtmafnjapailliaaGreatDoor
