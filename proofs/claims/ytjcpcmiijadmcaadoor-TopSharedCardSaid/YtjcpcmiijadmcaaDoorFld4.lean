/-
  seal.Secret, of so many shares as are needed.
-/
import Derived.Test.YtjcpcmiijadmcaaDoorFld3
namespace Go.Proofs.YtjcpcmiijadmcaaDoor
open Go.RowKit Wh.Fld

/-- Shares that are right: distinct places, texts of one length. -/
structure SharesOk (xs : List Share) (m : Nat) : Prop where
  n0 : 0 < xs.length
  n1 : xs.length ≤ 20
  m0 : 0 < m
  m1 : m ≤ 1024
  size : ∀ s ∈ xs, s.d.size = m
  pos : ∀ s ∈ xs, 0 < s.x.toNat
  dist : ∀ (i j : Nat) (s t : Share), xs[i]? = some s → xs[j]? = some t → i ≠ j → s.x ≠ t.x

/-- A block of truths. -/
def RowT (ty : TypeId) (w : World) (g : Nat) (bs : List Bool) : Prop := w.heap[g]? = some (.cells (bs.map Value.bool).toArray ty (0, 0))
theorem RowT.lt {ty : TypeId} {w : World} {g : Nat} {bs : List Bool} (h : RowT ty w g bs) : g < w.heap.size := (Array.getElem?_eq_some_iff.1 h).1
theorem RowT.under {ty : TypeId} {w w' : World} {g : Nat} {bs : List Bool} (h : RowT ty w g bs) (hb : Below w.heap.size w w') : RowT ty w' g bs := by
  unfold RowT
  rw [hb.block g h.lt]
  exact h
theorem RowT.cell {ty : TypeId} {w : World} {g : Nat} {bs : List Bool} (h : RowT ty w g bs) {i : Nat} {b : Bool} (hi : bs[i]? = some b) : w.cell? ⟨g, i, none⟩ = some (.bool b) ∧ w.frozen? ⟨g, i, none⟩ = false := by
  constructor
  · rw [Lib.cell_of_heap h]
    simp [hi]
  · exact Lib.frozen_of_heap h i
theorem RowT.set {ty : TypeId} {w : World} {g : Nat} {bs : List Bool} (h : RowT ty w g bs) (i : Nat) (v : Bool) : RowT ty (w.setCell ⟨g, i, none⟩ (.bool v)) g (bs.set i v) := by
  unfold RowT at *
  simp [World.setCell, Array.getElem?_modify, h, List.map_set]
theorem RowT.drew {ty : TypeId} {w : World} {g : Nat} {bs : List Bool} (h : RowT ty w g bs) : RowT ty w.drew g bs := h

/-- Which places have been met. -/
def seenTo (xs : List Share) (k : Nat) : List Bool := (List.range 256).map (fun v => (xs.take k).any (fun s => s.x.toNat == v))
theorem range_const (n : Nat) : (List.range n).map (fun _ => false) = List.replicate n false := by
  apply List.ext_getElem
  · simp
  · intro i h1 h2
    simp
theorem seenTo_zero (xs : List Share) : seenTo xs 0 = List.replicate 256 false := by
  unfold seenTo
  rw [List.take_zero]
  exact range_const 256
theorem seenTo_len (xs : List Share) (k : Nat) : (seenTo xs k).length = 256 := by
  unfold seenTo
  rw [List.length_map, List.length_range]
theorem seenTo_new {xs : List Share} {m k : Nat} {s : Share} (h : SharesOk xs m) (hk : xs[k]? = some s) : (seenTo xs k)[s.x.toNat]? = some false := by
  unfold seenTo
  rw [List.getElem?_map, List.getElem?_range s.x.isLt]
  simp only [Option.map_some, Option.some.injEq]
  rw [List.any_eq_false]
  intro t ht e
  obtain ⟨i, hi⟩ := List.mem_iff_getElem?.1 ht
  rw [List.getElem?_take] at hi
  split at hi
  · rename_i hik
    have hne := h.dist i k t s hi hk (by omega)
    exact hne (BitVec.eq_of_toNat_eq (by simpa using e))
  · cases hi
theorem seenTo_get (xs : List Share) (k : Nat) {v : Nat} (hv : v < 256) : (seenTo xs k)[v]? = some ((xs.take k).any (fun s => s.x.toNat == v)) := by
  unfold seenTo
  rw [List.getElem?_map, List.getElem?_range hv]
  rfl
theorem seenTo_step {xs : List Share} {k : Nat} {s : Share} (hk : xs[k]? = some s) : seenTo xs (k + 1) = (seenTo xs k).set s.x.toNat true := by
  apply List.ext_getElem?
  intro i
  by_cases hi : i < 256
  · rw [seenTo_get xs (k + 1) hi, List.getElem?_set, seenTo_len]
    by_cases e : s.x.toNat = i
    · rw [if_pos e, if_pos (by omega), List.take_add_one, hk]
      simp [e]
    · rw [if_neg e, seenTo_get xs k hi, List.take_add_one, hk]
      simp [e]
  · rw [List.getElem?_eq_none (by rw [seenTo_len]; omega), List.getElem?_eq_none (by rw [List.length_set, seenTo_len]; omega)]

theorem zero_truths : Tryd.zeroCells42 = ((List.replicate 256 false).map Value.bool).toArray := by kernel_rfl

set_option maxHeartbeats 2000000 in
set_option maxRecDepth 100000 in
theorem secret_any (xs : List Share) (a : Option Addr) (c m : Nat) (w : World) (hH : HoldsR w a 2 (xs.map shareCells)) (hc : xs.length ≤ c) (hk : SharesOk xs m) :
    Calls Tryd.prog 17 #[.slice a xs.length c, .int .i64 xs.length] w fun e w' => e = .returned (.tuple #[.string (valT xs m 0#8), .int .i64 0]) ∧ Below w.heap.size w w' := by
  have HH := Lib.hid hH
  have HK := Lib.hid hk
  have n0 := hk.n0
  have n1 := hk.n1
  have q1 : decide ((xs.length : Int) < 1) = false := by simp; omega
  have q2 : decide ((255 : Int) < (xs.length : Int)) = false := by simp; omega
  clear hH hk
  go_enter Tryd.func17, Tryd.ntmps17
  go_upto_region 8 with fail
  have HT0 : Hid (RowT 42 (w.alloc (.cells Tryd.zeroCells42 42)) w.heap.size (seenTo xs 0)) := Lib.hid (by
    unfold RowT
    rw [heap_alloc_new, seenTo_zero, zero_truths])
  have hb0 : Below w.heap.size w (w.alloc (.cells Tryd.zeroCells42 42)) := bAlloc (Below.refl _ _) _
  generalize w.alloc (.cells Tryd.zeroCells42 42) = w1 at *
  go_wp2_with fail
  go_loopg [29] xs.length (fun g i wx => ∃ k : Nat, k + g = xs.length ∧ i = .int .i64 k ∧ Below w.heap.size w wx ∧ Hid (RowT 42 wx w.heap.size (seenTo xs k)))
  case atStart => exact ⟨0, by omega, rfl, hb0, HT0⟩
  case round =>
    clear HT0 hb0
    obtain ⟨k, hkk, rfl, hb, HT⟩ := hrel
    obtain ⟨s0, hs0⟩ : ∃ s, xs[0]? = some s := ⟨_, List.getElem?_eq_getElem n0⟩
    obtain ⟨b0, o0, ha, hb0, z0, z1⟩ := shareRow (HH.out.under hb) hs0
    subst ha
    rw [Nat.zero_mul, Nat.add_zero] at z0 z1
    by_cases hlt : k < xs.length
    · obtain ⟨g, rfl⟩ : ∃ g, gk = g + 1 := ⟨gk - 1, by omega⟩
      obtain ⟨s, hx⟩ : ∃ s, xs[k]? = some s := ⟨_, List.getElem?_eq_getElem hlt⟩
      obtain ⟨ba, off, ha, hba, r0, r1⟩ := shareRow (HH.out.under hb) hx
      cases ha
      have hm := List.mem_of_getElem? hx
      have HN := Lib.hid (seenTo_new HK.out hx)
      have HS := Lib.hid (seenTo_step hx)
      have y0 : 0 < s.x.toNat := HK.out.pos s hm
      have y1 : s.x.toNat < 256 := s.x.isLt
      have HD : Hid (s.d.size = s0.d.size) := Lib.hid (by rw [HK.out.size s hm, HK.out.size s0 (List.mem_of_getElem? hs0)])
      have d0 : 0 < s.d.size := by rw [HK.out.size s hm]; exact HK.out.m0
      have d1 : s.d.size ≤ 1024 := by rw [HK.out.size s hm]; exact HK.out.m1
      have HBx := Lib.hid (shareBox_new wr s 39)
      have hbx : Below wr.heap.size wr (wr.alloc (.cells #[.int .i64 s.x.toNat, .string s.d] 39)) := bAlloc (Below.refl _ _) _
      clear hx hm hs0
      go_upto_region 11 with fail
      have z2 : (wr.alloc (.cells #[.int .i64 s.x.toNat, .string s.d] 39)).cell? ⟨b0, o0 + 1, none⟩ = some (.string s0.d) := (hbx.cell (p := ⟨b0, o0 + 1, none⟩) hb0).trans z1
      generalize wr.alloc _ = w3 at *
      have HT3 := Lib.hid (HT.out.under hbx)
      have hb3 := bTrans hb hbx
      obtain ⟨p0, p1, p2⟩ := HBx.out
      obtain ⟨t1, t2⟩ := HT3.out.cell HN.out
      clear r0 r1 z0 z1 HT hbx hb
      have q3 : decide ((s.x.toNat : Int) < 1) = false := by simp; omega
      have q4 : decide ((255 : Int) < (s.x.toNat : Int)) = false := by simp; omega
      have e1 : s.d.toList.isEmpty = false := by
        cases e : s.d.toList.isEmpty
        · rfl
        · have := List.isEmpty_iff.1 e
          rw [Lib.size_eq, ← Lib.toList_data, this] at d0
          simp at d0
      have e2 : ¬ s.d.toList = [] := fun e => by rw [e] at e1; cases e1
      have e3 : decide ((1024 : Int) < (s.d.size : Int)) = false := by simp; omega
      have e4 : ((s.d.size : Int) != (s0.d.size : Int)) = false := by simp [HD.out]
      go_upto_region 15 with fail
      go_quiet (fail)
      go_wp2_with fail
      go_roundg g
      case measure => omega
      case rel =>
        refine ⟨k + 1, by omega, by go_num, ?_, ?_⟩
        · exact (bDrewN hb3 _).setCell (p := ⟨w.heap.size, s.x.toNat, none⟩) (Nat.le_refl _) _
        · rw [HS.out]
          exact Lib.hid (RowT.set (w := w3.drewN _) HT3.out s.x.toNat true)
    · obtain rfl : k = xs.length := by omega
      have HV := Lib.hid (fun W (hbW : Below w.heap.size w W) (c' : Nat) => valueAt_any xs (some ⟨b0, o0, none⟩) c' m 0#8 W (HH.out.under hbW) (by omega) n0 HK.out.m1 HK.out.size)
      change Hid (∀ W, Below w.heap.size w W → ∀ c' : Nat, Calls Tryd.prog 44 #[.slice (some ⟨b0, o0, none⟩) xs.length c', .int .u8 0] W _) at HV
      clear HT z0 z1 hs0
      by_cases hcn : c = xs.length
      case' pos => subst hcn
      case' neg => have hlc : xs.length < c := by omega
      all_goals
        go_wp2_with fail
        refine wp_loop_rounds 1 ?_
        rw [rounds_succ]
        go_wp2_with (go_at_call 44; refine (HV.out _ hb _).mono ?_; rintro e w7 ⟨rfl, hb7⟩)
        go_ret2
        exact ⟨rfl, bTrans hb hb7⟩
end Go.Proofs.YtjcpcmiijadmcaaDoor
