/-
  Parts of the proof: Sm4.
-/
import Derived.Test.YtchfhojighopkaaGreatDoorGuAP
import Derived.Test.YtchfhojighopkaaGreatDoorGuAQ
namespace Go.Proofs.YtchfhojighopkaaGreatDoor
open Go.RowKit Wh.Sha

/-- A method of an embedded pointer, found by its name. -/
theorem method_up {P : Program} {w : World} {t s ft e : TypeId} {i fi : TypeInfo} {f : FuncId} {nm : String} {fs : Array Field} {fd : Field} {pm : Nat} {v : Value} (hi : P.info? t = some i) (hm : (i.methods.find? (·.name == nm)).map (fun m => (m.path.toList, m.func)) = some ([⟨s, 0, true⟩], some (f, true)))
  (hs : P.underlying s = some (.struct fs)) (hf : fs[0]? = some fd) (hft : fd.type = ft) (ho : fd.offset = 0) (hu : P.underlying ft = some (.pointer e)) (hfi : P.info? ft = some fi) (hz : fi.size = 1) (hc : w.cell? ⟨pm, 0, none⟩ = some v) {n : Nat} (hn : 0 < n) :
  (method n t (.pointer (some ⟨pm, 0, none⟩)) nm).run P w = .ok (f, v) w := by
 obtain ⟨k, rfl⟩ : ∃ k, n = k + 1 := ⟨n - 1, by omega⟩
 subst hft
 have hadd : (⟨pm, 0, none⟩ : Addr).add 0 = ⟨pm, 0, none⟩ := rfl
 cases h : i.methods.find? (·.name == nm) with
 | none => rw [h] at hm; cases hm
 | some m =>
  rw [h] at hm
  simp only [Option.map_some, Option.some.injEq, Prod.mk.injEq] at hm
  unfold method
  simp [typeInfo, hi, h, follow, hm.1, hm.2, receiverAt, run_underlying hs, run_underlying hu, hf, Place.get, asAddr, fieldPlace, sizeOf, hfi, hz, ho, hadd, loadVar, isAgg, hc]

/-- A sum of bytes. -/
def sumOf (T : Tabs) (k : Nat) (s : List UInt8) : List UInt8 :=
 if k = 1 then wtext (~~~(crcW 4294967295#32 s)) else if k = 5 then bsum T (bw T s.length (ps0 .sha256, ps0 .sha256) s) else hexL (((ps0 (EK.of k)).wr (EK.of k) T s).sum (EK.of k) T)

set_option maxHeartbeats 2000000 in
theorem newMaker1 (w : World) : Calls Tryz.prog 101 #[.int .i64 1] w fun e w' => e = .returned (.iface 205 (.pointer (some ⟨w.heap.size, 0, none⟩))) ∧ w' = w.alloc (.cells #[vw 4294967295#32] 207) := by
 go_enter Tryz.func101, Tryz.ntmps101
 go_wp2_with fail
 go_ret
 exact ⟨rfl, rfl⟩
set_option maxHeartbeats 2000000 in
set_option maxRecDepth 100000 in
theorem newMaker5 (B : Nat) (w : World) (hB : B ≤ w.heap.size) : Calls Tryz.prog 101 #[.int .i64 5] w fun e w' => ∃ bm, e = .returned (.iface 208 (.pointer (some ⟨bm, 0, none⟩))) ∧ BMk w' B bm (ps0 .sha256, ps0 .sha256) ∧ Below w.heap.size w w' := by
 have HN1 := Lib.hid (psNew_any 4 B w hB)
 go_enter Tryz.func101, Tryz.ntmps101
 go_wp2_with (go_at_call 123; first | (refine HN1.out.mono ?_; rintro e w1 ⟨b1, F1, rfl, n1, n2, n3, n4⟩; have HN2 : Hid (PsAt w1 B b1 .sha256 (ps0 .sha256) F1) := Lib.hid n1; have HB1 := Lib.hid n2; have hB1 : B ≤ w1.heap.size := Nat.le_trans hB n2.size; clear n1 n2 n3 n4) | (refine (psNew_any 4 B _ hB1).mono ?_; rintro e w2 ⟨b2, F2, rfl, m1, m2, m3, m4⟩))
 go_ret
 refine ⟨w2.heap.size, rfl, ?_, ?_⟩
 ·obtain ⟨F1', h11, h12⟩ := (HN2.out.under (Below.refl _ _)).lo
  obtain ⟨F2', h21, h22⟩ := m1.lo
  have hb3 : Below w2.heap.size w2 (w2.alloc (.cells #[.pointer (some ⟨b1, 0, none⟩), .pointer (some ⟨b2, 0, none⟩)] 212)) := bAlloc (Below.refl _ _) _
  have hs3 : (w2.alloc (.cells #[.pointer (some ⟨b1, 0, none⟩), .pointer (some ⟨b2, 0, none⟩)] 212)).heap.size = w2.heap.size + 1 := by simp
  have hz2 := m2.size
  refine ⟨b1, b2, F1', F2', heap_alloc_new _ _, (h11.under m2).under hb3, h21.under hb3, fun i hi hj => ?_, by have := HB1.out.size; omega, fun hj => ?_, fun hj => ?_, fun i hi => ?_, fun i hi => ?_⟩
  ·have q1 := (h12 i hi).2.2
   have q2 := m4 i (h22 i hj).1
   omega
  ·have := (h12 _ hj).2.2
   omega
  ·have := (h22 _ hj).2.2
   omega
  ·have := h12 i hi
   rw [hs3]
   exact ⟨this.2.1, by omega⟩
  ·have := h22 i hi
   rw [hs3]
   exact ⟨this.2.1, by omega⟩
 ·exact bTrans HB1.out (bTrans m2 (bAlloc (Below.refl _ _) _))
set_option maxHeartbeats 2000000 in
set_option maxRecDepth 100000 in
theorem newMakerP (n : Nat) (hn : n = 2 ∨ n = 3 ∨ n = 4) (B : Nat) (w : World) (hB : B ≤ w.heap.size) : Calls Tryz.prog 101 #[.int .i64 n] w fun e w' => ∃ pm b F, e = .returned (.iface 213 (.pointer (some ⟨pm, 0, none⟩))) ∧ BoxIs w' pm #[.pointer (some ⟨b, 0, none⟩)] 215 ∧ PsAt w' B b (EK.of n) (ps0 (EK.of n)) F ∧ (∀ i, F i → w.heap.size ≤ i) ∧ (∀ i, F i → i ≠ pm) ∧ w.heap.size ≤ pm ∧ Below w.heap.size w w' := by
 have HN1 := Lib.hid (psNew_any n B w hB)
 have h1 : ¬ ((n : Int) = 1) := by omega
 have h5 : ¬ ((n : Int) = 5) := by omega
 go_enter Tryz.func101, Tryz.ntmps101
 go_wp2_with (go_at_call 123; refine HN1.out.mono ?_; rintro e w1 ⟨b1, F1, rfl, n1, n2, n3, n4⟩)
 go_ret
 obtain ⟨F1', h11, h12⟩ := n1.lo
 have hb3 : Below w1.heap.size w1 (w1.alloc (.cells #[.pointer (some ⟨b1, 0, none⟩)] 215)) := bAlloc (Below.refl _ _) _
 refine ⟨w1.heap.size, b1, F1', rfl, heap_alloc_new _ _, h11.under hb3, fun i hi => n4 i (h12 i hi).1, fun i hi => ?_, n2.size, bTrans n2 hb3⟩
 have := (h12 i hi).2.2
 omega

theorem known_any (k : Nat) (hk : 1 ≤ k ∧ k ≤ 5) (w : World) : Calls Tryz.prog 100 #[.int .i64 k] w fun e w' => e = .returned (.bool true) ∧ w' = w := by
 have h1 : (1 : Int) ≤ (k : Int) := by omega
 have h5 : (k : Int) ≤ 5 := by omega
 clear hk
 go_enter Tryz.func100, Tryz.ntmps100
 go_wp2_with fail
 go_ret
 exact ⟨rfl, rfl⟩

set_option maxHeartbeats 2000000 in
set_option maxRecDepth 100000 in
theorem plainSum_any (T : Tabs) (B pm b : Nat) (k : EK) (p : PS) (F : Nat → Prop) (w : World) (hX : BoxIs w pm #[.pointer (some ⟨b, 0, none⟩)] 215) (h : PsAt w B b k p F) (hT : TabsAt w T) (hNB : ∀ i, B ≤ i → NoTab i) (hB : B ≤ w.heap.size) (hn : p.n ≤ 1000000000) :
  Calls Tryz.prog 266 #[.pointer (some ⟨pm, 0, none⟩)] w fun e w' => e = .returned (.string ⟨(hexL (p.sum k T)).toArray⟩) ∧ Below w.heap.size w w' := by
 have HS := Lib.hid (psSum_any B b k T p F w h hT hNB hB hn)
 have hl := sum_len k T p h.len
 obtain ⟨s, hs⟩ : ∃ s : ByteArray, s = ⟨(p.sum k T).toArray⟩ := ⟨_, rfl⟩
 rw [← hs] at HS
 have hs9l : s.size ≤ 32 := by
  rw [Lib.size_eq, hs]
  show (p.sum k T).length ≤ 32
  rw [hl]
  cases k <;> decide
 have HX := Lib.hid (fun W => hexed_any s W (by omega))
 have HE : Hid (s.data.toList = p.sum k T) := Lib.hid (by rw [hs])
 have c0 : w.cell? ⟨pm, 0, none⟩ = some (.pointer (some ⟨b, 0, none⟩)) := hX.cell (j := 0) rfl
 clear hs hl hX h hT hNB hB hn
 go_enter Tryz.func266, Tryz.ntmps266
 go_wp2_with (first | (go_at_call 262; refine HS.out.mono ?_; rintro e w1 ⟨rfl, hb1⟩) | (go_at_call 256; refine (HX.out _).mono ?_; rintro e w2 ⟨rfl, hb2⟩))
 go_ret
 exact ⟨by rw [HE.out]; rfl, bTrans hb1 hb2⟩

theorem crcM_write (w : World) (n : Nat) (v : Value) (hn : 0 < n) : (method n 205 v "wherryman/sums.write").run Tryz.prog w = .ok (252, v) w := by
 obtain ⟨i, hi, hm⟩ := Option.map_eq_some_iff.1 (show (Tryz.prog.info? 205).map (fun i => (i.methods.find? (·.name == "wherryman/sums.write")).map (fun m => (m.path.toList, m.func))) = some (some ([], some (252, true))) by kernel_rfl)
 exact method_ptr hi hm Tryz.underlying205 hn v
theorem crcM_sum (w : World) (n : Nat) (v : Value) (hn : 0 < n) : (method n 205 v "wherryman/sums.sum").run Tryz.prog w = .ok (251, v) w := by
 obtain ⟨i, hi, hm⟩ := Option.map_eq_some_iff.1 (show (Tryz.prog.info? 205).map (fun i => (i.methods.find? (·.name == "wherryman/sums.sum")).map (fun m => (m.path.toList, m.func))) = some (some ([], some (251, true))) by kernel_rfl)
 exact method_ptr hi hm Tryz.underlying205 hn v
theorem blocksM_write (w : World) (n : Nat) (v : Value) (hn : 0 < n) : (method n 208 v "wherryman/sums.write").run Tryz.prog w = .ok (259, v) w := by
 obtain ⟨i, hi, hm⟩ := Option.map_eq_some_iff.1 (show (Tryz.prog.info? 208).map (fun i => (i.methods.find? (·.name == "wherryman/sums.write")).map (fun m => (m.path.toList, m.func))) = some (some ([], some (259, true))) by kernel_rfl)
 exact method_ptr hi hm Tryz.underlying208 hn v
theorem blocksM_sum (w : World) (n : Nat) (v : Value) (hn : 0 < n) : (method n 208 v "wherryman/sums.sum").run Tryz.prog w = .ok (258, v) w := by
 obtain ⟨i, hi, hm⟩ := Option.map_eq_some_iff.1 (show (Tryz.prog.info? 208).map (fun i => (i.methods.find? (·.name == "wherryman/sums.sum")).map (fun m => (m.path.toList, m.func))) = some (some ([], some (258, true))) by kernel_rfl)
 exact method_ptr hi hm Tryz.underlying208 hn v
theorem plainM_sum (w : World) (n : Nat) (v : Value) (hn : 0 < n) : (method n 213 v "wherryman/sums.sum").run Tryz.prog w = .ok (266, v) w := by
 obtain ⟨i, hi, hm⟩ := Option.map_eq_some_iff.1 (show (Tryz.prog.info? 213).map (fun i => (i.methods.find? (·.name == "wherryman/sums.sum")).map (fun m => (m.path.toList, m.func))) = some (some ([], some (266, true))) by kernel_rfl)
 exact method_ptr hi hm Tryz.underlying213 hn v
theorem plainM_write (m b : Nat) (w : World) (hc : w.cell? ⟨m, 0, none⟩ = some (.pointer (some ⟨b, 0, none⟩))) (n : Nat) (hn : 0 < n) : (method n 213 (.pointer (some ⟨m, 0, none⟩)) "wherryman/sums.write").run Tryz.prog w = .ok (261, .pointer (some ⟨b, 0, none⟩)) w := by
 obtain ⟨i, hi, hm⟩ := Option.map_eq_some_iff.1 (show (Tryz.prog.info? 213).map (fun i => (i.methods.find? (·.name == "wherryman/sums.write")).map (fun m => (m.path.toList, m.func))) = some (some ([⟨215, 0, true⟩], some (261, true))) by kernel_rfl)
 obtain ⟨fi, hfi, hz⟩ := Option.map_eq_some_iff.1 (show (Tryz.prog.info? 209).map (·.size) = some 1 by kernel_rfl)
 exact method_up hi hm Tryz.underlying215 rfl rfl rfl Tryz.underlying209 hfi hz hc hn

/-- sums.Of. -/
def OfPost (T : Tabs) (k : Nat) (s : ByteArray) (w : World) (e : Ending) (w' : World) : Prop := e = .returned (.tuple #[.string ⟨(sumOf T k s.data.toList).toArray⟩, .int .i64 0]) ∧ Below w.heap.size w w'
set_option maxHeartbeats 2000000 in
set_option maxRecDepth 100000 in
theorem of1_any (T : Tabs) (s : ByteArray) (w : World) (hs : s.size ≤ 1048576) : Calls Tryz.prog 75 #[.int .i64 1, .string s] w (OfPost T 1 s w) := by
 have hmw := crcM_write
 have hms := crcM_sum
 have hs2 : ¬ ((1048576 : Int) < (s.size : Int)) := by omega
 go_enter Tryz.func75, Tryz.ntmps75
 go_wp2_with (first | (go_at_call 100; refine (known_any 1 (by decide) _).mono ?_; rintro e w' ⟨rfl, rfl⟩) | (go_at_call 101; refine (newMaker1 _).mono ?_; rintro e w' ⟨rfl, rfl⟩) | (go_at_call 252; refine (crcWrite_any _ 4294967295#32 s _ (heap_alloc_new _ _) (by omega)).mono ?_; rintro e w2 ⟨rfl, hx2, hk2⟩) | (go_at_call 251; refine (crcSum_any _ _ _ hx2).mono ?_; rintro e w3 ⟨rfl, hb3⟩))
 go_ret2
 refine ⟨rfl, bTrans (?_ : Below _ _ w2) hb3⟩
 exact (bAlloc (Below.refl _ _) _).trans (hk2.below (fun i hi => by rw [hi]; exact Nat.le_refl _) (by simp))
set_option maxHeartbeats 2000000 in
set_option maxRecDepth 100000 in
theorem of5_any (T : Tabs) (s : ByteArray) (w : World) (hT : TabsAt w T) (hNB : ∀ i, w.heap.size ≤ i → NoTab i) (hs : s.size ≤ 1048576) : Calls Tryz.prog 75 #[.int .i64 5, .string s] w (OfPost T 5 s w) := by
 have hmw := blocksM_write
 have hms := blocksM_sum
 have hs2 : ¬ ((1048576 : Int) < (s.size : Int)) := by omega
 have HT := Lib.hid hT
 have HNB := Lib.hid hNB
 clear hT hNB
 go_enter Tryz.func75, Tryz.ntmps75
 go_upto_region 6 with (first | (go_at_call 100; refine (known_any 5 (by decide) _).mono ?_; rintro e w' ⟨rfl, rfl⟩) | (go_at_call 101; refine (newMaker5 _ _ (Nat.le_refl _)).mono ?_; rintro e w1 ⟨bm, rfl, n1, n2⟩))
 have HW := Lib.hid (blocksWrite_any T _ bm _ s w1 n1 (HT.out.kp (Kp.of (F := fun _ => False) n2) (fun _ e => e.elim)) HNB.out n2.size hs (by decide) (by decide))
 have HB1 := Lib.hid n2
 clear n1 n2
 go_upto_region 7 with (go_at_call 259; refine HW.out.mono ?_; rintro e w2 ⟨rfl, y, hy, m1, m2, m3, m4⟩)
 have HB2 := Lib.hid (HB1.out.trans m2)
 have HSm := Lib.hid (blocksSum_any T _ bm y w2 m1 (HT.out.kp (Kp.of (F := fun _ => False) HB2.out) (fun _ e => e.elim)) HNB.out HB2.out.size m3 m4)
 have HY := Lib.hid hy
 clear hy m1 m2 m3 m4 HW
 go_wp2_with (go_at_call 258; refine HSm.out.mono ?_; rintro e w3 ⟨rfl, hb3⟩)
 go_ret2
 refine ⟨?_, bTrans HB2.out hb3⟩
 rw [HY.out]
 show _ = Ending.returned (.tuple #[.string ⟨(sumOf T 5 s.data.toList).toArray⟩, .int .i64 0])
 unfold sumOf
 rw [if_neg (by decide), if_pos rfl, ← Lib.size_eq]
 rfl
set_option maxHeartbeats 2000000 in
set_option maxRecDepth 100000 in
theorem ofP_any (T : Tabs) (n : Nat) (hn : n = 2 ∨ n = 3 ∨ n = 4) (s : ByteArray) (w : World) (hT : TabsAt w T) (hNB : ∀ i, w.heap.size ≤ i → NoTab i) (hs : s.size ≤ 1048576) : Calls Tryz.prog 75 #[.int .i64 n, .string s] w (OfPost T n s w) := by
 have hms := plainM_sum
 have hs2 : ¬ ((1048576 : Int) < (s.size : Int)) := by omega
 have HT := Lib.hid hT
 have HNB := Lib.hid hNB
 have HKn := Lib.hid (known_any n (by omega) w)
 have HNm := Lib.hid (newMakerP n hn w.heap.size w (Nat.le_refl _))
 have HS9 : Hid (sumOf T n s.data.toList = hexL (((ps0 (EK.of n)).wr (EK.of n) T s.data.toList).sum (EK.of n) T)) := Lib.hid (by unfold sumOf; rw [if_neg (by omega), if_neg (by omega)])
 obtain ⟨k, hk⟩ : ∃ k, EK.of (n : Int) = k := ⟨_, rfl⟩
 rw [hk] at HNm HS9
 clear hT hNB hk hn
 go_enter Tryz.func75, Tryz.ntmps75
 go_upto_region 6 with (first | (go_at_call 100; refine HKn.out.mono ?_; rintro e w' ⟨rfl, rfl⟩) | (go_at_call 101; refine HNm.out.mono ?_; rintro e w1 ⟨pm, b, F, rfl, n1, n2, n3, n4, n5, n6⟩))
 have hmw := plainM_write pm b w1 (n1.cell (j := 0) rfl)
 have HW := Lib.hid (psWrite_any _ b k T (ps0 k) F s w1 n2 (HT.out.kp (Kp.of (F := fun _ => False) n6) (fun _ e => e.elim)) HNB.out n6.size (by omega) (by show 0 ≤ 1000000000; omega))
 have HB1 := Lib.hid n6
 have HX1 := Lib.hid n1
 have HN3 := Lib.hid n3
 have HN4 := Lib.hid n4
 clear n1 n2 n3 n4 n5 n6
 go_upto_region 7 with (go_at_call 261; refine HW.out.mono ?_; rintro e w2 ⟨rfl, F2, m1, m2, m3⟩)
 have HB2 : Hid (Below _ _ w2) := Lib.hid (HB1.out.trans (m2.below HN3.out HB1.out.size))
 have HSm := Lib.hid (plainSum_any T _ pm b k _ F2 w2 (HX1.out.kp m2 (fun e => HN4.out _ e rfl)) m1 (HT.out.kp (Kp.of (F := fun _ => False) HB2.out) (fun _ e => e.elim)) HNB.out HB2.out.size (by show 0 + s.data.toList.length ≤ 1000000000; rw [← Lib.size_eq]; omega))
 clear hmw m1 m2 m3 HW
 go_wp2_with (go_at_call 266; refine HSm.out.mono ?_; rintro e w3 ⟨rfl, hb3⟩)
 go_ret2
 exact ⟨by rw [HS9.out]; rfl, bTrans HB2.out hb3⟩
/-- sums.Of, at any kind. -/
theorem of_any (T : Tabs) (n : Nat) (hn : 1 ≤ n ∧ n ≤ 5) (s : ByteArray) (w : World) (hT : TabsAt w T) (hNB : ∀ i, w.heap.size ≤ i → NoTab i) (hs : s.size ≤ 1048576) : Calls Tryz.prog 75 #[.int .i64 n, .string s] w (OfPost T n s w) := by
 rcases (show n = 1 ∨ n = 5 ∨ (n = 2 ∨ n = 3 ∨ n = 4) by omega) with rfl | rfl | h
 ·exact of1_any T s w hs
 ·exact of5_any T s w hT hNB hs
 ·exact ofP_any T n h s w hT hNB hs
end Go.Proofs.YtchfhojighopkaaGreatDoor
