/-
  Plain law: acts and deals.
-/
import Derived.Test.YtjcpcmiijadmcaaDoorPlain
namespace Wh
structure Act where
  kind : Int
  side : Int
  frm : ByteArray
  to : ByteArray
  size : Int
  time : Int

/-- A path that is not the root. -/
def pathNE (b : ByteArray) : Bool := !b.data.toList.isEmpty && isPath b.data.toList

def actE (kind side : Int) (pf pt te : Bool) (size time : Int) : Int :=
  if kind < 1 ∨ 4 < kind ∨ (side ≠ 1 ∧ side ≠ 2) then 5
  else if pf = false ∨ ((kind = 1 ∨ kind = 2) ∧ pt = false) then 1
  else if (¬ (kind = 1 ∨ kind = 2) ∧ te = false) ∨ (kind ≠ 1 ∧ (size ≠ 0 ∨ time ≠ 0)) then 6
  else if size < 0 ∨ time < 0 then 7
  else 0

/-- What checkAct returns. -/
def actErr (x : Act) : Int := actE x.kind x.side (pathNE x.frm) (pathNE x.to) x.to.data.toList.isEmpty x.size x.time

structure Refusal where
  path : ByteArray
  err : Int

def actsErr : List Act → Int
  | [] => 0
  | x :: xs => if actErr x = 0 then actsErr xs else actErr x

theorem actsErr_step {xs : List Act} {k : Nat} {x : Act} (h : xs[k]? = some x) (h0 : actErr x = 0) : actsErr (xs.drop k) = actsErr (xs.drop (k + 1)) := by
  have hl := (List.getElem?_eq_some_iff.1 h).1
  rw [List.drop_eq_getElem_cons hl, (List.getElem?_eq_some_iff.1 h).2, actsErr, if_pos h0]

theorem actsErr_stop {xs : List Act} {k : Nat} {x : Act} (h : xs[k]? = some x) (h0 : actErr x ≠ 0) : actsErr (xs.drop k) = actErr x := by
  have hl := (List.getElem?_eq_some_iff.1 h).1
  rw [List.drop_eq_getElem_cons hl, (List.getElem?_eq_some_iff.1 h).2, actsErr, if_neg h0]

theorem pathsErr_step {xs : List ByteArray} {k : Nat} {x : ByteArray} (h : xs[k]? = some x) (h0 : isPath x.data.toList = true) : pathsErr (xs.drop k) = pathsErr (xs.drop (k + 1)) := by
  have hl := (List.getElem?_eq_some_iff.1 h).1
  unfold pathsErr
  rw [List.drop_eq_getElem_cons hl, (List.getElem?_eq_some_iff.1 h).2, List.all_cons, h0, Bool.true_and]

theorem pathsErr_stop {xs : List ByteArray} {k : Nat} {x : ByteArray} (h : xs[k]? = some x) (h0 : isPath x.data.toList = false) : pathsErr (xs.drop k) = 1 := by
  have hl := (List.getElem?_eq_some_iff.1 h).1
  unfold pathsErr
  rw [List.drop_eq_getElem_cons hl, (List.getElem?_eq_some_iff.1 h).2, List.all_cons, h0, Bool.false_and]
  rfl

structure Deal where
  acts : List Act
  refused : List Refusal
  equal : List ByteArray
  conf : List ByteArray

def Deal.big (d : Deal) : Prop := 20000 < d.acts.length ∨ 5000 < d.refused.length ∨ 5000 < d.equal.length ∨ 5000 < d.conf.length
instance (d : Deal) : Decidable d.big := by unfold Deal.big; infer_instance
def Deal.paths (d : Deal) : List ByteArray := d.refused.map (·.path) ++ d.equal ++ d.conf

/-- What CheckDeal returns. -/
def dealErr (d : Deal) : Int := if d.big then 8 else if actsErr d.acts = 0 then pathsErr d.paths else actsErr d.acts
end Wh
