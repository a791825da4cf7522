/-
  names.rangesForm.
-/
import Derived.Test.YtnpcbcnclncniaaGreatDoorGlob4
namespace Go.Proofs.YtnpcbcnclncniaaGreatDoor
open Go.RowKit

def rgBad (a b : Int) : Bool := decide (a < 1) || decide (255 < a) || decide (b < 1) || decide (255 < b) || decide (b < a) || (decide (a ≤ 47) && decide (47 ≤ b))
/-- The error of ranges, behind one that ends in 'prev'. -/
def rgGo : Option Int → List (Int × Int) → Int
  | _, [] => 0
  | prev, r :: l => if rgBad r.1 r.2 then 7 else if (match prev with | none => false | some b => decide (r.1 ≤ b + 1)) then 10 else rgGo (some r.2) l
def rgNear (prev : Option Int) (a : Int) : Bool := match prev with | none => false | some b => decide (a ≤ b + 1)
theorem rgGo_cons (prev : Option Int) (r : Int × Int) (l : List (Int × Int)) : rgGo prev (r :: l) = if rgBad r.1 r.2 then 7 else if rgNear prev r.1 then 10 else rgGo (some r.2) l := by
  cases prev <;> rfl
def rgErr (l : List (Int × Int)) : Int := rgGo none l
theorem rgBad_no {a b : Int} (h : rgBad a b = false) : 1 ≤ a ∧ a ≤ 255 ∧ 1 ≤ b ∧ b ≤ 255 ∧ a ≤ b := by
  unfold rgBad at h
  simp at h
  omega

/-- A block that holds a pair. -/
def PairBox (w : World) (b : Nat) (x y : Int) : Prop := b < w.heap.size ∧ w.cell? ⟨b, 0, none⟩ = some (.int .i64 x) ∧ w.cell? ⟨b, 1, none⟩ = some (.int .i64 y)
theorem PairBox.under {w w' : World} {b : Nat} {x y : Int} (h : PairBox w b x y) (hb : Below w.heap.size w w') : PairBox w' b x y := by
  obtain ⟨h0, h1, h2⟩ := h
  exact ⟨Nat.lt_of_lt_of_le h0 hb.size, (hb.cell (p := ⟨b, 0, none⟩) h0).trans h1, (hb.cell (p := ⟨b, 1, none⟩) h0).trans h2⟩
theorem pairBox_new (w : World) (x y : Int) (t : TypeId) : PairBox (w.alloc (.cells #[.int .i64 x, .int .i64 y] t)) w.heap.size x y := by
  refine ⟨by simp, ?_, ?_⟩ <;> (rw [World.cell?_alloc_at _ _ _ _ rfl]; rfl)
theorem pairRow {w : World} {s : Sl (Int × Int)} (h : SlHolds w 2 rgCells s) {k : Nat} {r : Int × Int} (hk : s.xs[k]? = some r) :
    ∃ b off, s.a = some ⟨b, off, none⟩ ∧ b < w.heap.size ∧ w.cell? ⟨b, off + k * 2, none⟩ = some (.int .i64 r.1) ∧ w.cell? ⟨b, off + k * 2 + 1, none⟩ = some (.int .i64 r.2) := by
  obtain ⟨b, off, ha, hb, hc⟩ := h.1.at (k := k) (row := rgCells r) (by rw [List.getElem?_map, hk]; rfl)
  exact ⟨b, off, ha, hb, hc 0 _ rfl, hc 1 _ rfl⟩

set_option maxHeartbeats 4000000 in
set_option maxRecDepth 100000 in
theorem rangesForm_any (s : Sl (Int × Int)) (w : World) (hs : SlHolds w 2 rgCells s) (hl : s.xs.length ≤ 1048576) :
    Calls Tryz.prog 80 #[.slice s.a s.xs.length s.c] w fun e w' => e = .returned (.int .i64 (rgErr s.xs)) ∧ Below w.heap.size w w' := by
  have HS := Lib.hid hs
  obtain ⟨E, hE⟩ : ∃ E, rgErr s.xs = E := ⟨_, rfl⟩
  have HE := Lib.hid hE
  rw [hE]
  clear hs hE
  obtain ⟨sa, sc, xs⟩ := s
  simp only [] at *
  go_enter Tryz.func80, Tryz.ntmps80
  go_wp2_with fail
  go_loopg [9] xs.length (fun g i wx => ∃ k : Nat, k + g = xs.length ∧ i = .int .i64 k ∧ Below w.heap.size w wx ∧ Hid (E = rgGo (if k = 0 then none else (xs[k - 1]?.map (·.2))) (xs.drop k)) ∧ Hid (∀ i (r : Int × Int), i < k → xs[i]? = some r → 1 ≤ r.2 ∧ r.2 ≤ 255))
  case atStart => exact ⟨0, by omega, rfl, Below.refl _ _, Lib.hid HE.out.symm, Lib.hid (fun i _ hi => absurd hi (by omega))⟩
  case round =>
    obtain ⟨k, hk, rfl, hb, HG, HA⟩ := hrel
    by_cases hlt : k < xs.length
    · obtain ⟨g, rfl⟩ : ∃ g, gk = g + 1 := ⟨gk - 1, by omega⟩
      obtain ⟨⟨x, y⟩, hx⟩ : ∃ r : Int × Int, xs[k]? = some r := ⟨_, List.getElem?_eq_getElem hlt⟩
      obtain ⟨ba, off, ha, hba, r0, r1⟩ := pairRow (HS.out.under hb) hx
      have hdr : xs.drop k = (x, y) :: xs.drop (k + 1) := by rw [List.drop_eq_getElem_cons hlt, (List.getElem?_eq_some_iff.1 hx).2]
      rw [hdr, rgGo_cons] at HG
      simp only [] at HG ha r0 r1
      have HX := Lib.hid hx
      subst ha
      have HBx := Lib.hid (pairBox_new wr x y 95)
      have hbx : Below wr.heap.size wr (wr.alloc (.cells #[.int .i64 x, .int .i64 y] 95)) := bAlloc (Below.refl _ _) _
      clear hx hdr
      go_upto_region 4 with fail
      generalize wr.alloc _ = w3 at *
      have hb3 := bTrans hb hbx
      obtain ⟨p0, p1, p2⟩ := HBx.out
      clear r0 r1
      go_quiet (fail)
      cases hbad : rgBad x y
      case true =>
        have HB7 : Hid (E = 7) := Lib.hid (by rw [HG.out, hbad]; rfl)
        have hor : x < 1 ∨ (¬ x < 1 ∧ 255 < x) ∨ (¬ x < 1 ∧ ¬ 255 < x ∧ y < 1) ∨ (¬ x < 1 ∧ ¬ 255 < x ∧ ¬ y < 1 ∧ 255 < y) ∨ (¬ x < 1 ∧ ¬ 255 < x ∧ ¬ y < 1 ∧ ¬ 255 < y ∧ y < x) ∨ (¬ x < 1 ∧ ¬ 255 < x ∧ ¬ y < 1 ∧ ¬ 255 < y ∧ ¬ y < x ∧ x ≤ 47 ∧ 47 ≤ y) := by
          unfold rgBad at hbad
          simp only [Bool.or_eq_true, Bool.and_eq_true, decide_eq_true_eq] at hbad
          omega
        clear HG hbad
        rcases hor with d1 | ⟨d1, d2⟩ | ⟨d1, d2, d3⟩ | ⟨d1, d2, d3, d4⟩ | ⟨d1, d2, d3, d4, d5⟩ | ⟨d1, d2, d3, d4, d5, d6, d7⟩
        all_goals
          go_wp2_with fail
          go_ret
          exact ⟨ret_int HB7.out.symm, bDrewN hb3 _⟩
      obtain ⟨x1, x2, y1, y2, xy⟩ := rgBad_no hbad
      have hor : (x ≤ 47 ∧ ¬ 47 ≤ y) ∨ ¬ x ≤ 47 := by
        unfold rgBad at hbad
        simp only [Bool.or_eq_false_iff, Bool.and_eq_false_iff, decide_eq_false_iff_not] at hbad
        omega
      rw [hbad] at HG
      have d1 : ¬ x < 1 := by omega
      have d2 : ¬ 255 < x := by omega
      have d3 : ¬ y < 1 := by omega
      have d4 : ¬ 255 < y := by omega
      have d5 : ¬ y < x := by omega
      clear hbad
      rcases hor with ⟨d6, d7⟩ | d6
      all_goals
        have HA2 : Hid (∀ i (r : Int × Int), i < k + 1 → xs[i]? = some r → 1 ≤ r.2 ∧ r.2 ≤ 255) := Lib.hid (fun i r hi hr => by
          by_cases e : i = k
          · subst e
            rw [HX.out] at hr
            cases hr
            exact ⟨y1, y2⟩
          · exact HA.out i r (by omega) hr)
        have HNx : Hid ((if k + 1 = 0 then none else (xs[k + 1 - 1]?.map (·.2))) = some y) := Lib.hid (by rw [if_neg (by omega), Nat.add_sub_cancel, HX.out]; rfl)
        by_cases k0 : k = 0
        · subst k0
          have HG2 : Hid (E = rgGo (some y) (xs.drop (0 + 1))) := Lib.hid (by rw [HG.out]; rfl)
          clear HG
          go_wp2_with fail
          go_roundg g
          case measure => omega
          case rel => exact ⟨1, by omega, by go_num, bDrewN hb3 _, by rw [show (if (1 : Nat) = 0 then none else (xs[1 - 1]?.map (·.2))) = some y from HNx.out]; exact HG2, HA2⟩
        · obtain ⟨k', hk'⟩ : ∃ k', k = k' + 1 := ⟨k - 1, by omega⟩
          obtain ⟨⟨px, py⟩, hpx⟩ : ∃ r : Int × Int, xs[k']? = some r := ⟨_, List.getElem?_eq_getElem (by omega)⟩
          obtain ⟨ba', off', ha', hba', r0, r1⟩ := pairRow (HS.out.under hb3) hpx
          cases ha'
          obtain ⟨z1, z2⟩ := HA.out k' _ (by omega) hpx
          simp only [] at r0 r1 z1 z2
          have hki : (k : Int) - 1 = (k' : Int) := by omega
          have hkl : k' < xs.length := by omega
          have hk0 : 0 < k := by omega
          have HG3 : Hid (E = if decide (x ≤ py + 1) then 10 else rgGo (some y) (xs.drop (k + 1))) := Lib.hid (by
            rw [HG.out, if_neg (by decide), if_neg k0, show k - 1 = k' by omega, hpx]
            rfl)
          clear HG hpx hk' k0
          by_cases hnear : x ≤ py + 1
          · rw [decide_eq_true hnear] at HG3
            go_wp2_with fail
            go_ret
            exact ⟨ret_int (by rw [HG3.out]; rfl), bDrewN hb3 _⟩
          · rw [decide_eq_false hnear] at HG3
            go_wp2_with fail
            go_roundg g
            case measure => omega
            case rel => exact ⟨k + 1, by omega, by go_num, bDrewN hb3 _, by rw [HNx.out]; exact HG3, HA2⟩
    · have HG2 : Hid (E = 0) := Lib.hid (by rw [HG.out, List.drop_of_length_le (by omega)]; cases (if k = 0 then none else (xs[k - 1]?.map (·.2))) <;> rfl)
      go_wp2_with fail
      go_ret
      exact ⟨ret_int HG2.out.symm, hb⟩
end Go.Proofs.YtnpcbcnclncniaaGreatDoor
