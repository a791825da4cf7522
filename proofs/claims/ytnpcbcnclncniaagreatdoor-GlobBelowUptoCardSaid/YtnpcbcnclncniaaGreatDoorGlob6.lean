/-
  names.checkParts: its closure isText.
-/
import Derived.Test.YtnpcbcnclncniaaGreatDoorGlob5
namespace Go.Proofs.YtnpcbcnclncniaaGreatDoor
open Go.RowKit

/-- The part's kind at a place, if there is one, is text. -/
def isTxt (ks : List Int) (i : Int) : Bool := decide (0 ≤ i) && (ks[i.toNat]? == some 1)
def kd : (n : Nat) → P n → Int
  | 0, _ => 0
  | n + 1, p => PartOf.kind (α := P n) p
def kdL (n : Nat) (xs : List (P n)) : List Int := xs.map (kd n)

theorem enters_isText : ∀ args w, (callFunc 78 args).run Tryz.prog w = .ok (.enter 78 args) w := enters_of Tryz.func78 (by kernel_rfl) rfl

set_option maxHeartbeats 2000000 in
set_option maxRecDepth 100000 in
theorem isText_any {n : Nat} (s : Sl (P (n + 1))) (i : Int) (b : Nat) (w : World) (hs : SlHolds w 5 (partCells (n + 1)) s) (hl : s.xs.length ≤ 1048576) (hc : w.cell? ⟨b, 0, none⟩ = some (.slice s.a s.xs.length s.c)) :
    Calls Tryz.prog 78 #[.int .i64 i, .pointer (some ⟨b, 0, none⟩)] w fun e w' => e = .returned (.bool (isTxt (kdL (n + 1) s.xs) i)) ∧ w = w' := by
  have HS := Lib.hid hs
  obtain ⟨sa, sc, xs⟩ := s
  simp only [] at *
  clear hs
  by_cases h0 : 0 ≤ i
  · by_cases h1 : i < xs.length
    · obtain ⟨k, rfl⟩ : ∃ k : Nat, i = (k : Int) := ⟨i.toNat, by omega⟩
      have hk : k < xs.length := by omega
      obtain ⟨p, hx⟩ : ∃ p : PartOf (P n), xs[k]? = some p := ⟨_, List.getElem?_eq_getElem hk⟩
      obtain ⟨ba, off, ha, hba, r0, r1, r2, r3, r4⟩ := partRow HS.out hx
      have HT : Hid (isTxt (kdL (n + 1) xs) (k : Int) = (p.kind == 1)) := Lib.hid (by
        unfold isTxt kdL
        rw [decide_eq_true h0, Int.toNat_natCast, List.getElem?_map, hx]
        show (true && (some p.kind == some 1)) = _
        cases h : (p.kind == 1) <;> simp_all)
      simp only [] at ha
      subst ha
      generalize isTxt (kdL (n + 1) xs) (k : Int) = R at *
      clear hx h0 h1
      cases c1 : (p.kind == 1)
      all_goals
        rw [c1] at HT
        go_enter Tryz.func78, Tryz.ntmps78
        go_wp2_with fail
        go_ret
        exact ⟨ret_bool HT.out.symm, rfl⟩
    · have HT : Hid (isTxt (kdL (n + 1) xs) i = false) := Lib.hid (by
        unfold isTxt kdL
        rw [List.getElem?_eq_none (by rw [List.length_map]; omega)]
        simp)
      generalize isTxt (kdL (n + 1) xs) i = R at *
      go_enter Tryz.func78, Tryz.ntmps78
      go_wp2_with fail
      go_ret
      exact ⟨ret_bool HT.out.symm, rfl⟩
  · have HT : Hid (isTxt (kdL (n + 1) xs) i = false) := Lib.hid (by
      unfold isTxt
      rw [decide_eq_false h0]
      simp)
    generalize isTxt (kdL (n + 1) xs) i = R at *
    go_enter Tryz.func78, Tryz.ntmps78
    go_wp2_with fail
    go_ret
    exact ⟨ret_bool HT.out.symm, rfl⟩
end Go.Proofs.YtnpcbcnclncniaaGreatDoor
