/-
  Parts of the proof: RowStruct.
-/
import Derived.Deep.Fields
import Derived.Test.YtchfhojighopkaaGreatDoorGuAB
namespace Go.Proofs.YtchfhojighopkaaGreatDoor
open Go.ChangeShapes Go.WideShapes Go.ChangeAt Go.RowKit Go.Deep

section
variable {H : Type} {enc : TypeId × Value → H} {P : Program} {w : World} {b0 : Nat} {r : Reach}

/-- A struct by value whose fields take one cell each. -/
theorem open_struct {t : TypeId} {fs : Array Field} (hs : P.underlying t = some (.struct fs)) (hone : oneCellFields P fs = true) (hC : P.cellsOf t = fs.size) {v : Value} {d : DataW H} {p : List MemPlace}
  (hv : Value.okWide P w r b0 t v) (h : DataW.Trod enc P w 0 (fun _ => true) true t v d p) :
  ∃ (cs : Array Value) (ys : List (DataW H × List MemPlace)) (n : Nat), v = .agg cs ∧ cs.size = fs.size ∧ d = .agg (ys.map (·.1)) ∧ ys.length = fs.size ∧
   ∀ (j : Nat) (f : Field), fs[j]? = some f → ∃ c y, cs[j]? = some c ∧ ys[j]? = some y ∧ DataW.trod enc P w 0 (fun _ => true) true n f.type [c] = some y := by
 obtain ⟨cs, rfl, hsz⟩ := okWide_struct hs hv
 obtain ⟨fuel, hf⟩ := h
 obtain ⟨ys, n, _, hx, hcl, hyl, hg⟩ := DataW.trod_struct hs hf
 simp only [Prod.mk.injEq] at hx
 have hcs : cs.size = fs.size := hsz.trans hC
 refine ⟨cs, ys, n, rfl, hcs, hx.1, hyl, fun j f hj => ?_⟩
 obtain ⟨ho, hk⟩ := hone_of hone j f hj
 have hjl : j < fs.size := (Array.getElem?_eq_some_iff.1 hj).1
 have h1 := hg j f hj
 rw [ho, hk] at h1
 have hys : ys[j]? = some (ys[j]'(by omega)) := List.getElem?_eq_getElem (by omega)
 have hc : cs[j]? = some (cs[j]'(by omega)) := Array.getElem?_eq_getElem (by omega)
 refine ⟨_, _, hc, hys, ?_⟩
 have e1 : ((Value.agg cs).cells.toList.drop j).take 1 = [cs[j]'(by omega)] := by
  show (cs.toList.drop j).take 1 = _
  rw [List.drop_eq_getElem_cons (by simpa using (by omega : j < cs.size))]
  simp
 rw [e1] at h1
 exact h1.trans hys
end

theorem field_at {fs : Array Field} {ts : Array TypeId} (h : fs.map (·.type) = ts) {j : Nat} {t : TypeId} (ht : ts[j]? = some t) : ∃ f, fs[j]? = some f ∧ f.type = t := by
 rw [← h, Array.getElem?_map] at ht
 cases hf : fs[j]? with
 | none => rw [hf] at ht; simp at ht
 | some f => rw [hf] at ht; exact ⟨f, rfl, by simpa using ht⟩
end Go.Proofs.YtchfhojighopkaaGreatDoor
