/-
  Plain law: an act's tests, one by one.
-/
import Derived.Test.YtjcpcmiijadmcaaDoorPlainDeal
namespace Wh
def actBad (kind side : Int) : Bool := decide (kind < 1) || decide (4 < kind) || (side != 1 && side != 2)
def actTwo (kind : Int) : Bool := kind == 1 || kind == 2
def actForm (two te : Bool) (kind size time : Int) : Bool := (!two && !te) || (kind != 1 && (size != 0 || time != 0))
def actNeg (size time : Int) : Bool := decide (size < 0) || decide (time < 0)
theorem actE_eq (kind side : Int) (pf pt te : Bool) (size time : Int) : actE kind side pf pt te size time = if actBad kind side then 5 else if !pf || (actTwo kind && !pt) then 1 else if actForm (actTwo kind) te kind size time then 6 else if actNeg size time then 7 else 0 := by
  unfold actE actBad actTwo actForm actNeg
  cases pf <;> cases pt <;> cases te <;> simp [or_assoc]

end Wh
