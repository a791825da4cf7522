/-
  Plain law: what is wrong with a list of faults.
-/
namespace Wh

structure Fault where
  call : Int
  number : Int
  err : Int
  bytes : Int

def sameF (x y : Fault) : Bool := y.call == x.call && y.number == x.number

/-- What is wrong with a fault behind others. -/
def faultErr (seen : List Fault) (x : Fault) : Int :=
  if x.call < 0 ∨ 13 < x.call then 5 else if x.number < 1 ∨ 2147483647 < x.number ∨ x.bytes < 0 then 7
  else if x.err ≠ 16 ∧ x.err ≠ 17 ∧ x.err ≠ 15 ∧ x.err ≠ 14 then 6 else if seen.any (sameF x) then 4 else 0

def faultsGo (all : List Fault) (k : Nat) : Nat → Int
  | 0 => 0
  | g + 1 => match all[k]? with
    | none => 0
    | some x => if faultErr (all.take k) x = 0 then faultsGo all (k + 1) g else faultErr (all.take k) x

def faultsErr (l : List Fault) : Int := if 1000 < l.length then 8 else faultsGo l 0 l.length

theorem faultsGo_step {l : List Fault} {k g : Nat} {x : Fault} (hx : l[k]? = some x) (h : faultErr (l.take k) x = 0) : faultsGo l k (g + 1) = faultsGo l (k + 1) g := by
  rw [faultsGo, hx]
  simp [h]

theorem faultsGo_stop {l : List Fault} {k g : Nat} {x : Fault} (hx : l[k]? = some x) (h : ¬ faultErr (l.take k) x = 0) : faultsGo l k (g + 1) = faultErr (l.take k) x := by
  rw [faultsGo, hx]
  simp [h]

theorem faultErr_5 {s : List Fault} {x : Fault} (h : x.call < 0 ∨ 13 < x.call) : faultErr s x = 5 := by rw [faultErr, if_pos h]
theorem faultErr_7 {s : List Fault} {x : Fault} (h0 : ¬ (x.call < 0 ∨ 13 < x.call)) (h : x.number < 1 ∨ 2147483647 < x.number ∨ x.bytes < 0) : faultErr s x = 7 := by rw [faultErr, if_neg h0, if_pos h]
theorem faultErr_6 {s : List Fault} {x : Fault} (h0 : ¬ (x.call < 0 ∨ 13 < x.call)) (h1 : ¬ (x.number < 1 ∨ 2147483647 < x.number ∨ x.bytes < 0)) (h : x.err ≠ 16 ∧ x.err ≠ 17 ∧ x.err ≠ 15 ∧ x.err ≠ 14) : faultErr s x = 6 := by
  rw [faultErr, if_neg h0, if_neg h1, if_pos h]
theorem faultErr_4 {s : List Fault} {x : Fault} (h0 : ¬ (x.call < 0 ∨ 13 < x.call)) (h1 : ¬ (x.number < 1 ∨ 2147483647 < x.number ∨ x.bytes < 0)) (h2 : ¬ (x.err ≠ 16 ∧ x.err ≠ 17 ∧ x.err ≠ 15 ∧ x.err ≠ 14)) (h : s.any (sameF x) = true) : faultErr s x = 4 := by
  rw [faultErr, if_neg h0, if_neg h1, if_neg h2, if_pos h]
theorem faultErr_0 {s : List Fault} {x : Fault} (h0 : ¬ (x.call < 0 ∨ 13 < x.call)) (h1 : ¬ (x.number < 1 ∨ 2147483647 < x.number ∨ x.bytes < 0)) (h2 : ¬ (x.err ≠ 16 ∧ x.err ≠ 17 ∧ x.err ≠ 15 ∧ x.err ≠ 14)) (h : s.any (sameF x) = false) : faultErr s x = 0 := by
  rw [faultErr, if_neg h0, if_neg h1, if_neg h2, if_neg (by simp [h])]
end Wh
