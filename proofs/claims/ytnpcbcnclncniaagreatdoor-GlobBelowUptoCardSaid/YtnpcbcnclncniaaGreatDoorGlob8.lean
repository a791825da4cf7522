/-
  names.starsMeet.
-/
import Derived.Test.YtnpcbcnclncniaaGreatDoorGlob7
namespace Go.Proofs.YtnpcbcnclncniaaGreatDoor
open Go.RowKit

def isStar (k : Int) : Bool := k == 3 || k == 4
def starAt (ks : List Int) (i : Int) : Bool := decide (0 ≤ i) && ((ks[i.toNat]?.map isStar).getD false)

set_option maxHeartbeats 1000000 in
theorem star_any {α : Type} (q : PartOf α) (w : World) : Calls Tryz.prog 81 #[partVal q] w fun e w' => e = .returned (.bool (isStar q.kind)) ∧ Below w.heap.size w w' := by
  have HK : Hid (isStar q.kind = (q.kind == 3 || q.kind == 4)) := Lib.hid rfl
  generalize isStar q.kind = R at *
  cases c3 : (q.kind == 3)
  · cases c4 : (q.kind == 4)
    all_goals
      have HR : Hid (R = _) := Lib.hid (HK.out.trans (by rw [c3, c4]))
      clear HK
      go_enter Tryz.func81, Tryz.ntmps81
      go_wp2_with fail
      go_ret
      exact ⟨ret_bool HR.out.symm, bAlloc (Below.refl _ _) _⟩
  · have HR : Hid (R = true) := Lib.hid (HK.out.trans (by rw [c3]; rfl))
    clear HK
    go_enter Tryz.func81, Tryz.ntmps81
    go_wp2_with fail
    go_ret
    exact ⟨ret_bool HR.out.symm, bAlloc (Below.refl _ _) _⟩

theorem enters_star : ∀ args w, (callFunc 81 args).run Tryz.prog w = .ok (.enter 81 args) w := enters_of Tryz.func81 (by kernel_rfl) rfl

def meetGo (n : Nat) (f : Sl (P n) → Bool) (ks : List Int) : Nat → List (P (n + 1)) → Bool
  | _, [] => false
  | i, p :: r => (decide (0 < i) && isStar (pt n p).kind && starAt ks ((i : Int) - 1)) || ((pt n p).ways.xs.any f) || meetGo n f ks (i + 1) r
/-- Stars stand directly behind stars. -/
def meet : (n : Nat) → List (P n) → Bool
  | 0, _ => false
  | n + 1, xs => meetGo n (fun s => meet n s.xs) (kdL (n + 1) xs) 0 xs
theorem meetGo_step {n : Nat} {f : Sl (P n) → Bool} {ks : List Int} {xs : List (P (n + 1))} {k : Nat} {p : P (n + 1)} (h : xs[k]? = some p) : meetGo n f ks k (xs.drop k) = ((decide (0 < k) && isStar (pt n p).kind && starAt ks ((k : Int) - 1)) || ((pt n p).ways.xs.any f) || meetGo n f ks (k + 1) (xs.drop (k + 1))) := by
  have hl := (List.getElem?_eq_some_iff.1 h).1
  rw [List.drop_eq_getElem_cons hl, (List.getElem?_eq_some_iff.1 h).2]
  rfl
end Go.Proofs.YtnpcbcnclncniaaGreatDoor
