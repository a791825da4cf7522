/-
  names.inRanges, oneByte.
-/
import Derived.Test.YtnpcbcnclncniaaGreatDoorGlobM1
import Derived.Test.YtnpcbcnclncniaaGreatDoorPartIs
import Derived.Test.YtnpcbcnclncniaaGreatDoorGlob5
import Derived.Test.YtnpcbcnclncniaaGreatDoorOwn
namespace Go.Proofs.YtnpcbcnclncniaaGreatDoor
open Go.RowKit

/-- A range that takes a byte. -/
def rgHas (c : Int) (r : Int × Int) : Bool := decide (r.1 ≤ c) && decide (c ≤ r.2)
theorem inRg_eq (l : List (Int × Int)) (c : Int) : inRg l c = l.any (rgHas c) := rfl

set_option maxHeartbeats 1000000 in
set_option maxRecDepth 100000 in
theorem inRanges_any (s : Sl (Int × Int)) (c : UInt8) (w : World) (hs : SlHolds w 2 rgCells s) (hl : s.xs.length ≤ 1048576) :
    Calls Tryz.prog 131 #[.slice s.a s.xs.length s.c, .int .u8 c.toNat] w fun e w' => e = .returned (.bool (inRg s.xs c.toNat)) ∧ Below w.heap.size w w' := by
  have HS := Lib.hid hs
  have HE : Hid (inRg s.xs c.toNat = (s.xs.drop 0).any (rgHas c.toNat)) := Lib.hid rfl
  generalize inRg s.xs c.toNat = E at *
  clear hs
  have hc := c.toNat_lt
  generalize hcn : c.toNat = cn at *
  clear hcn
  obtain ⟨sa, sc, xs⟩ := s
  simp only [] at *
  go_enter Tryz.func131, Tryz.ntmps131
  go_wp2_with fail
  go_loopg [9] xs.length (fun g i wx => ∃ k : Nat, k + g = xs.length ∧ i = .int .i64 k ∧ Below w.heap.size w wx ∧ Hid (E = (xs.drop k).any (rgHas cn)))
  case atStart => exact ⟨0, by omega, rfl, Below.refl _ _, HE⟩
  case round =>
    clear HE
    obtain ⟨k, hk, rfl, hb, HE⟩ := hrel
    by_cases hlt : k < xs.length
    · obtain ⟨g, rfl⟩ : ∃ g, gk = g + 1 := ⟨gk - 1, by omega⟩
      obtain ⟨⟨x, y⟩, hx⟩ : ∃ r : Int × Int, xs[k]? = some r := ⟨_, List.getElem?_eq_getElem hlt⟩
      obtain ⟨ba, off, ha, hba, r0, r1⟩ := pairRow (HS.out.under hb) hx
      rw [any_step hx] at HE
      have HR : Hid (rgHas cn (x, y) = (decide (x ≤ (cn : Int)) && decide ((cn : Int) ≤ y))) := Lib.hid rfl
      generalize rgHas cn (x, y) = R at *
      simp only [] at ha r0 r1
      subst ha
      have hbx := bAlloc (Below.refl wr.heap.size wr) (.cells #[.int .i64 x, .int .i64 y] 95)
      have HX5 := Lib.hid (BoxIs.new wr #[.int .i64 x, .int .i64 y] 95)
      have hb5 := bTrans hb hbx
      clear hx hbx
      go_upto_region 4 with fail
      generalize wr.alloc _ = w5 at *
      clear r0 r1
      obtain ⟨q0, q1, q2⟩ := HX5.out.pair
      by_cases d1 : x ≤ (cn : Int)
      · by_cases d2 : (cn : Int) ≤ y
        · have HT : Hid (E = true) := Lib.hid (by rw [HE.out, HR.out, decide_eq_true d1, decide_eq_true d2]; rfl)
          clear HE HR
          go_wp2_with fail
          go_ret
          exact ⟨ret_bool HT.out.symm, hb5⟩
        · have HT : Hid (E = (xs.drop (k + 1)).any (rgHas cn)) := Lib.hid (by rw [HE.out, HR.out, decide_eq_false d2, Bool.and_false, Bool.false_or])
          clear HE HR
          go_wp2_with fail
          go_roundg g
          case measure => omega
          case rel => exact ⟨k + 1, by omega, by go_num, hb5, HT⟩
      · have HT : Hid (E = (xs.drop (k + 1)).any (rgHas cn)) := Lib.hid (by rw [HE.out, HR.out, decide_eq_false d1, Bool.false_and, Bool.false_or])
        clear HE HR
        go_wp2_with fail
        go_roundg g
        case measure => omega
        case rel => exact ⟨k + 1, by omega, by go_num, hb5, HT⟩
    · have HT : Hid (E = false) := Lib.hid (by rw [HE.out, List.drop_of_length_le (by omega)]; rfl)
      go_wp2_with fail
      go_ret
      exact ⟨ret_bool HT.out.symm, hb⟩

set_option maxHeartbeats 2000000 in
set_option maxRecDepth 100000 in
theorem oneByte_any {α : Type} (q : PartOf α) (c : UInt8) (w : World) (hs : SlHolds w 2 rgCells q.rg) (hl : q.rg.xs.length ≤ 1048576) :
    Calls Tryz.prog 115 #[partVal q, .int .u8 c.toNat] w fun e w' => e = .returned (.bool (oneB q c)) ∧ Below w.heap.size w w' := by
  have hb1 := bAlloc (Below.refl w.heap.size w) (.cells (partArr q) 92)
  have HQ := Lib.hid (BoxIs.new w (partArr q) 92)
  have HI := Lib.hid (fun W (hb : Below w.heap.size w W) => inRanges_any q.rg c W (hs.under hb) hl)
  have HE : Hid (oneB q c = (c != 47 && (q.kind == 2 || (inRg q.rg.xs c.toNat != q.neg)))) := Lib.hid rfl
  generalize oneB q c = E at *
  generalize inRg q.rg.xs c.toNat = I at *
  clear hs
  obtain ⟨kind, text, neg, ⟨ra, rc, rxs⟩, ⟨wa, wcap, wxs⟩⟩ := q
  simp only [] at *
  go_enter Tryz.func115, Tryz.ntmps115
  go_upto_region 1 with fail
  generalize w.alloc _ = w1 at *
  obtain ⟨p0, p1, p2, p3, p4, p5⟩ := HQ.out.part (p := (⟨kind, text, neg, ⟨ra, rc, rxs⟩, ⟨wa, wcap, wxs⟩⟩ : PartOf α))
  simp only [] at p1 p3 p4
  by_cases hc : c = 47
  · have e1 : ((c.toNat : Int) != 47) = false := by rw [hc]; rfl
    have HT : Hid (E = false) := Lib.hid (by rw [HE.out, hc]; rfl)
    clear hc HE
    go_quiet (fail)
    go_wp2_with fail
    go_ret
    exact ⟨ret_bool HT.out.symm, bDrewN hb1 _⟩
  have e1 : ((c.toNat : Int) != 47) = true := by
    have : c.toNat ≠ 47 := fun e => hc (UInt8.toNat_inj.1 (by simpa using e))
    simp only [bne_iff_ne, ne_eq]
    omega
  have hc2 : (c != 47) = true := by simpa using hc
  rw [hc2, Bool.true_and] at HE
  clear hc hc2
  cases k2 : (kind == 2)
  case true =>
    have HT : Hid (E = true) := Lib.hid (by rw [HE.out, k2]; rfl)
    clear HE
    go_quiet (fail)
    go_wp2_with fail
    go_ret
    exact ⟨ret_bool HT.out.symm, bDrewN hb1 _⟩
  have HT : Hid (E = (I != neg)) := Lib.hid (by rw [HE.out, k2]; rfl)
  clear HE p2 p5
  go_region_held3 (fun w' => w'.cell? ⟨w.heap.size, 0, none⟩ = some (.int .i64 kind) ∧ w'.cell? ⟨w.heap.size, 3, none⟩ = some (.slice ra rxs.length rc) ∧ w'.cell? ⟨w.heap.size, 2, none⟩ = some (.bool neg))
    (first | go_keep | exact ⟨(hb3.cell (p := ⟨w.heap.size, 0, none⟩) p0).trans p1, (hb3.cell (p := ⟨w.heap.size, 3, none⟩) p0).trans p4, (hb3.cell (p := ⟨w.heap.size, 2, none⟩) p0).trans p3⟩)
    ((go_at_call 131; refine (HI.out w1.drew ⟨hb1.os, hb1.tape, hb1.output, hb1.size, hb1.block⟩).mono ?_; rintro e w3 ⟨rfl, hb3⟩))
  go_wp2_with fail
  go_ret
  exact ⟨ret_bool (by rw [HT.out]; cases I <;> cases neg <;> rfl), bTrans hb1 ⟨hb3.os, hb3.tape, hb3.output, hb3.size, hb3.block⟩⟩
end Go.Proofs.YtnpcbcnclncniaaGreatDoor
