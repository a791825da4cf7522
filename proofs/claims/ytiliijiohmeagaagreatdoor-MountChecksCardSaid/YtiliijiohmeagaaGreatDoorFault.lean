/-
  Lists of faults: the walks of what asks one of them.
-/
import Derived.Test.YtiliijiohmeagaaGreatDoorRows2
import Derived.Test.YtiliijiohmeagaaGreatDoorPlainFault
import Derived.Test.YtiliijiohmeagaaGreatDoorPlainClean
namespace Go.Proofs.YtiliijiohmeagaaGreatDoor
open Go.RowKit

def faultCells (x : Wh.Fault) : List Value := [.int .i64 x.call, .int .i64 x.number, .int .i64 x.err, .int .i64 x.bytes]
abbrev faultVal (x : Wh.Fault) : Value := .agg #[.int .i64 x.call, .int .i64 x.number, .int .i64 x.err, .int .i64 x.bytes]

/-- A block that holds a fault. -/
def FaultBox (w : World) (b : Nat) (x : Wh.Fault) : Prop :=
  b < w.heap.size ∧ w.cell? ⟨b, 0, none⟩ = some (.int .i64 x.call) ∧ w.cell? ⟨b, 1, none⟩ = some (.int .i64 x.number)

theorem FaultBox.under {w w' : World} {b : Nat} {x : Wh.Fault} (h : FaultBox w b x) (hb : Below w.heap.size w w') : FaultBox w' b x := by
  obtain ⟨h0, h1, h2⟩ := h
  exact ⟨Nat.lt_of_lt_of_le h0 hb.size, (hb.cell (p := ⟨b, 0, none⟩) h0).trans h1, (hb.cell (p := ⟨b, 1, none⟩) h0).trans h2⟩

theorem enters_plan1 : ∀ args w, (callFunc 129 args).run Tryz.prog w = .ok (.enter 129 args) w := enters_of Tryz.func129 (by kernel_rfl) rfl

set_option maxHeartbeats 1000000 in
theorem plan1_any (x y : Wh.Fault) (b : Nat) (w : World) (hb : FaultBox w b x) :
    Calls Tryz.prog 129 #[faultVal y, .pointer (some ⟨b, 0, none⟩)] w fun e w' => e = .returned (.bool (Wh.sameF x y)) ∧ Below w.heap.size w w' := by
  obtain ⟨h0, h1, h2⟩ := hb
  have hI : Wh.sameF x y = (y.call == x.call && y.number == x.number) := rfl
  have HI := Lib.hid hI
  clear hI
  have hne : w.heap.size ≠ b := by omega
  cases q : (y.call == x.call)
  · go_enter Tryz.func129, Tryz.ntmps129
    go_wp2
    go_ret
    exact ⟨ret_bool (by rw [HI.out, q]; rfl), bAlloc (Below.refl _ _) _⟩
  · go_enter Tryz.func129, Tryz.ntmps129
    go_wp2
    go_ret
    exact ⟨ret_bool (by rw [HI.out, q]; rfl), bAlloc (Below.refl _ _) _⟩

/-- The first place where a predicate holds, or -1. -/
def idxP {α : Type} (p : α → Bool) (xs : List α) : Int := match xs.findIdx? p with | some k => (k : Int) | none => -1

/-- A predicate on faults that a closure asks. -/
def PredF (F : FuncId) (cp : Value) (p : Wh.Fault → Bool) (xs : List Wh.Fault) (w : World) : Prop :=
  ∀ x ∈ xs, ∀ W, Below w.heap.size w W → Calls Tryz.prog F #[faultVal x, cp] W fun e w' => e = .returned (.bool (p x)) ∧ Below W.heap.size W w'

theorem faultRow {w : World} {a : Option Addr} {xs : List Wh.Fault} (h : HoldsR w a 4 (xs.map faultCells)) {k : Nat} {x : Wh.Fault} (hk : xs[k]? = some x) :
    ∃ b off, a = some ⟨b, off, none⟩ ∧ b < w.heap.size ∧ w.cell? ⟨b, off + k * 4, none⟩ = some (.int .i64 x.call) ∧ w.cell? ⟨b, off + k * 4 + 1, none⟩ = some (.int .i64 x.number) ∧
      w.cell? ⟨b, off + k * 4 + 2, none⟩ = some (.int .i64 x.err) ∧ w.cell? ⟨b, off + k * 4 + 3, none⟩ = some (.int .i64 x.bytes) := by
  obtain ⟨b, off, ha, hb, hc⟩ := h.at (k := k) (row := faultCells x) (by simp [hk])
  exact ⟨b, off, ha, hb, hc 0 _ rfl, hc 1 _ rfl, hc 2 _ rfl, hc 3 _ rfl⟩

set_option maxHeartbeats 1000000 in
theorem indexFunc_fault (F : FuncId) (cp : Value) (p : Wh.Fault → Bool) (a : Option Addr) (c : Nat) (xs : List Wh.Fault) (w : World) (hen : ∀ args w, (callFunc F args).run Tryz.prog w = .ok (.enter F args) w)
    (hl : xs.length ≤ 9223372036854775807) (hH : HoldsR w a 4 (xs.map faultCells)) (hp : PredF F cp p xs w) :
    Calls Tryz.prog 171 #[.slice a xs.length c, .func (.func F) #[] #[cp]] w fun e w' => e = .returned (.int .i64 (idxP p xs)) ∧ Below w.heap.size w w' := by
  have HH := Lib.hid hH
  have HP := Lib.hid hp
  clear hH hp
  go_enter Tryz.func171, Tryz.ntmps171
  go_wp2_with fail
  go_loopg [8] xs.length (fun g i wx => ∃ k : Nat, k + g = xs.length ∧ i = .int .i64 k ∧ Below w.heap.size w wx ∧ Hid (∀ (j : Nat) x, j < k → xs[j]? = some x → p x = false))
  case atStart => exact ⟨0, by omega, rfl, Below.refl _ _, Lib.hid (fun j x h => absurd h (Nat.not_lt_zero _))⟩
  case round =>
    obtain ⟨k, hk, rfl, hb, HN⟩ := hrel
    by_cases hlt : k < xs.length
    · obtain ⟨g, rfl⟩ : ∃ g, gk = g + 1 := ⟨gk - 1, by omega⟩
      obtain ⟨x, hx⟩ : ∃ x, xs[k]? = some x := ⟨_, List.getElem?_eq_getElem hlt⟩
      obtain ⟨ba, off, ha, hba, hc0, hc1, hc2, hc3⟩ := faultRow (HH.out.under hb) hx
      have Hx := Lib.hid hx
      clear hx
      subst ha
      have HC := Lib.hid (HP.out x (List.mem_of_getElem? Hx.out) wr hb)
      cases hpx : p x
      · rw [hpx] at HC
        go_wp2_with fail
        refine HC.out.mono ?_
        rintro e w' ⟨rfl, hb2⟩
        go_wp2_with fail
        go_roundg g
        case measure => omega
        case rel =>
          refine ⟨k + 1, by omega, by go_num, bTrans hb hb2, Lib.hid (fun j y hj hy => ?_)⟩
          rcases Nat.lt_or_ge j k with h | h
          · exact HN.out j y h hy
          · obtain rfl : j = k := by omega
            rw [Hx.out] at hy
            cases hy
            exact hpx
      · rw [hpx] at HC
        go_wp2_with fail
        refine HC.out.mono ?_
        rintro e w' ⟨rfl, hb2⟩
        go_wp2_with fail
        go_ret
        refine ⟨ret_int ?_, bTrans hb hb2⟩
        have : xs.findIdx? p = some k := by
          rw [List.findIdx?_eq_some_iff_getElem]
          refine ⟨hlt, ?_, fun j hj => ?_⟩
          · have := (List.getElem?_eq_some_iff.1 Hx.out).2
            rw [this]; exact hpx
          · have := HN.out j (xs[j]'(by omega)) hj (List.getElem?_eq_getElem _)
            simp [this]
        simp [idxP, this]
    · go_wp2_with fail
      go_ret
      refine ⟨ret_int ?_, hb⟩
      have : xs.findIdx? p = none := by
        rw [List.findIdx?_eq_none_iff]
        intro x hx
        obtain ⟨j, hj⟩ := List.getElem?_of_mem hx
        have hjl := (List.getElem?_eq_some_iff.1 hj).1
        exact HN.out j x (by omega) hj
      simp [idxP, this]

theorem idx_any {α : Type} (p : α → Bool) (xs : List α) : decide (0 ≤ (idxP p xs)) = xs.any p := by
  unfold idxP
  cases h : xs.findIdx? p with
  | none =>
    have : xs.any p = false := by
      rw [List.any_eq_false]
      intro x hx
      simpa using List.findIdx?_eq_none_iff.1 h x hx
    rw [this]
    rfl
  | some k =>
    obtain ⟨hl, h1, _⟩ := List.findIdx?_eq_some_iff_getElem.1 h
    have : xs.any p = true := List.any_eq_true.2 ⟨_, List.getElem_mem hl, h1⟩
    rw [this]
    simp

set_option maxHeartbeats 1000000 in
theorem containsFunc_fault (F : FuncId) (cp : Value) (p : Wh.Fault → Bool) (a : Option Addr) (c : Nat) (xs : List Wh.Fault) (w : World) (hen : ∀ args w, (callFunc F args).run Tryz.prog w = .ok (.enter F args) w)
    (hl : xs.length ≤ 9223372036854775807) (hH : HoldsR w a 4 (xs.map faultCells)) (hp : PredF F cp p xs w) :
    Calls Tryz.prog 128 #[.slice a xs.length c, .func (.func F) #[] #[cp]] w fun e w' => e = .returned (.bool (xs.any p)) ∧ Below w.heap.size w w' := by
  have H := Lib.hid (indexFunc_fault F cp p a c xs w hen hl hH hp)
  have HA := Lib.hid (idx_any p xs)
  clear hH hp
  generalize (idxP p xs) = V at *
  go_enter Tryz.func128, Tryz.ntmps128
  go_wp2_with (go_at_call 171; refine H.out.mono ?_; rintro e w' ⟨rfl, hb⟩)
  go_ret
  exact ⟨ret_bool HA.out, hb⟩
end Go.Proofs.YtiliijiohmeagaaGreatDoor
