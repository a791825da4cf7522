/-
  Marks in memory; slices.IndexFunc of marks.
-/
import Derived.Test.YtiliijiohmeagaaGreatDoorPlainMark
import Derived.Test.YtiliijiohmeagaaGreatDoorRows2
namespace Go.Proofs.YtiliijiohmeagaaGreatDoor
open Go.RowKit

def markCells (x : Wh.Mark) : List Value := [.string x.path, .int .i64 x.size, .int .i64 x.time, .string x.sum]
abbrev markVal (x : Wh.Mark) : Value := .agg #[.string x.path, .int .i64 x.size, .int .i64 x.time, .string x.sum]
abbrev markObj (x : Wh.Mark) : Obj := .cells #[.string x.path, .int .i64 x.size, .int .i64 x.time, .string x.sum] 93

/-- A block that holds a mark. -/
def MarkBox (w : World) (b : Nat) (x : Wh.Mark) : Prop :=
  b < w.heap.size ∧ w.cell? ⟨b, 0, none⟩ = some (.string x.path) ∧ w.cell? ⟨b, 1, none⟩ = some (.int .i64 x.size) ∧ w.cell? ⟨b, 2, none⟩ = some (.int .i64 x.time) ∧ w.cell? ⟨b, 3, none⟩ = some (.string x.sum)

theorem MarkBox.under {w w' : World} {b : Nat} {x : Wh.Mark} (h : MarkBox w b x) (hb : Below w.heap.size w w') : MarkBox w' b x := by
  obtain ⟨h0, h1, h2, h3, h4⟩ := h
  have hc := fun j => hb.cell (p := ⟨b, j, none⟩) h0
  exact ⟨Nat.lt_of_lt_of_le h0 hb.size, (hc 0).trans h1, (hc 1).trans h2, (hc 2).trans h3, (hc 3).trans h4⟩

theorem markBox_new (w : World) (x : Wh.Mark) : MarkBox (w.alloc (markObj x)) w.heap.size x := by
  refine ⟨by simp, ?_, ?_, ?_, ?_⟩ <;> (rw [World.cell?_alloc_at _ _ _ _ rfl]; rfl)

theorem HoldsR.drop {w : World} {b off : Nat} {n : Nat} {xs : List (List Value)} (h : HoldsR w (some ⟨b, off, Option.none⟩) n xs) (i : Nat) : HoldsR w (some ⟨b, off + i * n, Option.none⟩) n (xs.drop i) := by
  rcases h with rfl | ⟨b', off', ha, hlt, hc⟩
  · simp; exact .inl rfl
  · injection ha with e
    injection e with e1 e2 _
    subst e1 e2
    refine .inr ⟨b, off + i * n, rfl, hlt, fun k row hk j u hu => ?_⟩
    rw [List.getElem?_drop] at hk
    have := hc (i + k) row hk j u hu
    rw [Nat.add_mul] at this
    rw [show off + i * n + k * n + j = off + (i * n + k * n) + j by omega]
    exact this

/-- The first place where a predicate holds, or -1. -/
def idxP {α : Type} (p : α → Bool) (xs : List α) : Int := match xs.findIdx? p with | some k => (k : Int) | none => -1

/-- A predicate on marks that a closure asks. -/
def PredM (F : FuncId) (cp : Value) (p : Wh.Mark → Bool) (xs : List Wh.Mark) (w : World) : Prop :=
  ∀ x ∈ xs, ∀ W, Below w.heap.size w W → Calls Tryz.prog F #[markVal x, cp] W fun e w' => e = .returned (.bool (p x)) ∧ Below W.heap.size W w'

theorem markRow {w : World} {a : Option Addr} {xs : List Wh.Mark} (h : HoldsR w a 4 (xs.map markCells)) {k : Nat} {x : Wh.Mark} (hk : xs[k]? = some x) :
    ∃ b off, a = some ⟨b, off, none⟩ ∧ b < w.heap.size ∧ w.cell? ⟨b, off + k * 4, none⟩ = some (.string x.path) ∧ w.cell? ⟨b, off + k * 4 + 1, none⟩ = some (.int .i64 x.size) ∧
      w.cell? ⟨b, off + k * 4 + 2, none⟩ = some (.int .i64 x.time) ∧ w.cell? ⟨b, off + k * 4 + 3, none⟩ = some (.string x.sum) := by
  obtain ⟨b, off, ha, hb, hc⟩ := h.at (k := k) (row := markCells x) (by simp [hk])
  exact ⟨b, off, ha, hb, hc 0 _ rfl, hc 1 _ rfl, hc 2 _ rfl, hc 3 _ rfl⟩

set_option maxHeartbeats 1000000 in
theorem indexFunc_mark (F : FuncId) (cp : Value) (p : Wh.Mark → Bool) (a : Option Addr) (c : Nat) (xs : List Wh.Mark) (w : World) (hen : ∀ args w, (callFunc F args).run Tryz.prog w = .ok (.enter F args) w)
    (hl : xs.length ≤ 9223372036854775807) (hH : HoldsR w a 4 (xs.map markCells)) (hp : PredM F cp p xs w) :
    Calls Tryz.prog 35 #[.slice a xs.length c, .func (.func F) #[] #[cp]] w fun e w' => e = .returned (.int .i64 (idxP p xs)) ∧ Below w.heap.size w w' := by
  have HH := Lib.hid hH
  have HP := Lib.hid hp
  clear hH hp
  go_enter Tryz.func35, Tryz.ntmps35
  go_wp2_with fail
  go_loopg [8] xs.length (fun g i wx => ∃ k : Nat, k + g = xs.length ∧ i = .int .i64 k ∧ Below w.heap.size w wx ∧ Hid (∀ (j : Nat) x, j < k → xs[j]? = some x → p x = false))
  case atStart => exact ⟨0, by omega, rfl, Below.refl _ _, Lib.hid (fun j x h => absurd h (Nat.not_lt_zero _))⟩
  case round =>
    obtain ⟨k, hk, rfl, hb, HN⟩ := hrel
    by_cases hlt : k < xs.length
    · obtain ⟨g, rfl⟩ : ∃ g, gk = g + 1 := ⟨gk - 1, by omega⟩
      obtain ⟨x, hx⟩ : ∃ x, xs[k]? = some x := ⟨_, List.getElem?_eq_getElem hlt⟩
      obtain ⟨ba, off, ha, hba, hc0, hc1, hc2, hc3⟩ := markRow (HH.out.under hb) hx
      have Hx := Lib.hid hx
      clear hx
      subst ha
      have HC := Lib.hid (HP.out x (List.mem_of_getElem? Hx.out) wr hb)
      cases hpx : p x
      · rw [hpx] at HC
        go_wp2_with fail
        refine HC.out.mono ?_
        rintro e w' ⟨rfl, hb2⟩
        go_wp2_with fail
        go_roundg g
        case measure => omega
        case rel =>
          refine ⟨k + 1, by omega, by go_num, bTrans hb hb2, Lib.hid (fun j y hj hy => ?_)⟩
          rcases Nat.lt_or_ge j k with h | h
          · exact HN.out j y h hy
          · obtain rfl : j = k := by omega
            rw [Hx.out] at hy
            cases hy
            exact hpx
      · rw [hpx] at HC
        go_wp2_with fail
        refine HC.out.mono ?_
        rintro e w' ⟨rfl, hb2⟩
        go_wp2_with fail
        go_ret
        refine ⟨ret_int ?_, bTrans hb hb2⟩
        have : xs.findIdx? p = some k := by
          rw [List.findIdx?_eq_some_iff_getElem]
          refine ⟨hlt, ?_, fun j hj => ?_⟩
          · have := (List.getElem?_eq_some_iff.1 Hx.out).2
            rw [this]; exact hpx
          · have := HN.out j (xs[j]'(by omega)) hj (List.getElem?_eq_getElem _)
            simp [this]
        simp [idxP, this]
    · go_wp2_with fail
      go_ret
      refine ⟨ret_int ?_, hb⟩
      have : xs.findIdx? p = none := by
        rw [List.findIdx?_eq_none_iff]
        intro x hx
        obtain ⟨j, hj⟩ := List.getElem?_of_mem hx
        have hjl := (List.getElem?_eq_some_iff.1 hj).1
        exact HN.out j x (by omega) hj
      simp [idxP, this]

end Go.Proofs.YtiliijiohmeagaaGreatDoor
