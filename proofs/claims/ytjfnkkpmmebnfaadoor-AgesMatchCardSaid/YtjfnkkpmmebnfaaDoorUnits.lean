/-
  The map of units that names.ParseSize makes.
-/
import Derived.Test.YtjfnkkpmmebnfaaDoorPlainSize
import Derived.Test.YtjfnkkpmmebnfaaDoorBase
import Derived.Maps.Own
import Derived.Maps.OwnSet
import Derived.StringKeys
namespace Go.Proofs.YtjfnkkpmmebnfaaDoor
open Go.RowKit

/-- The map, key by key. -/
def unitMap : DataW Unit := ((((((DataW.map (H := Unit) []).put (.string []) (.lit (.int .i64 1))).put (.string [98]) (.lit (.int .i64 1))).put (.string [107]) (.lit (.int .i64 1024))).put (.string [77]) (.lit (.int .i64 1048576))).put (.string [71]) (.lit (.int .i64 1073741824))).put (.string [84]) (.lit (.int .i64 1099511627776))

theorem put_look {D : DataW Unit} (hD : Maps.IsMap D) (k k' : List UInt8) (d z : DataW Unit) :
    Maps.has (D.put (.string k) d) (.string k') = (decide (k' = k) || Maps.has D (.string k')) ∧ (D.put (.string k) d).atKey (.string k') z = if k' = k then d else D.atKey (.string k') z := by
  by_cases h : k' = k
  · subst h
    exact ⟨by rw [Maps.has_put_same hD (show WideAt.IsKeyLit (.string k') from trivial)]; simp, by rw [Maps.atKey_put_same hD (show WideAt.IsKeyLit (.string k') from trivial), if_pos rfl]⟩
  · have hne : (Lit.string k') ≠ .string k := fun e => h (by injection e)
    exact ⟨by rw [Maps.has_put_other hne]; simp [h], by rw [Maps.atKey_put_other hne, if_neg h]⟩

theorem unit_look (r : List UInt8) : Maps.has unitMap (.string r) = (Wh.unitOf r).isSome ∧ unitMap.atKey (.string r) (.lit (.int .i64 0)) = .lit (.int .i64 (((Wh.unitOf r).getD 0 : Nat) : Int)) := by
  have i0 : Maps.IsMap (DataW.map (H := Unit) []) := ⟨_, rfl⟩
  have i1 := i0.put (.string []) (.lit (.int .i64 1))
  have i2 := i1.put (.string [98]) (.lit (.int .i64 1))
  have i3 := i2.put (.string [107]) (.lit (.int .i64 1024))
  have i4 := i3.put (.string [77]) (.lit (.int .i64 1048576))
  have i5 := i4.put (.string [71]) (.lit (.int .i64 1073741824))
  have e0 : Maps.has (DataW.map (H := Unit) []) (.string r) = false := rfl
  have a0 : (DataW.map (H := Unit) []).atKey (.string r) (.lit (.int .i64 0)) = .lit (.int .i64 0) := rfl
  unfold unitMap
  rw [(put_look i5 _ _ _ (.lit (.int .i64 0))).1, (put_look i4 _ _ _ (.lit (.int .i64 0))).1, (put_look i3 _ _ _ (.lit (.int .i64 0))).1, (put_look i2 _ _ _ (.lit (.int .i64 0))).1, (put_look i1 _ _ _ (.lit (.int .i64 0))).1, (put_look i0 _ _ _ (.lit (.int .i64 0))).1, e0,
    (put_look i5 _ _ _ _).2, (put_look i4 _ _ _ _).2, (put_look i3 _ _ _ _).2, (put_look i2 _ _ _ _).2, (put_look i1 _ _ _ _).2, (put_look i0 _ _ _ _).2, a0]
  match r with
  | [] => exact ⟨rfl, rfl⟩
  | [c] =>
    simp only [Wh.unitOf, List.cons.injEq, and_true]
    by_cases h1 : c = 98
    · subst h1; simp
    by_cases h2 : c = 107
    · subst h2; simp
    by_cases h3 : c = 77
    · subst h3; simp
    by_cases h4 : c = 71
    · subst h4; simp
    by_cases h5 : c = 84
    · subst h5; simp
    simp [h1, h2, h3, h4, h5]
  | a :: b :: t => simp [Wh.unitOf]

/-- The inserts, one behind the other. -/
theorem units_made (W : World) : ∃ W1 W2 W3 W4 W5 W6 : World,
    (Instr.mapUpdate 100 (.map (some W.heap.size)) (.string ⟨#[]⟩) (.int .i64 1)).run Tryd.prog (W.alloc (.map #[] 0)) = .ok () W1 ∧
    (Instr.mapUpdate 100 (.map (some W.heap.size)) (.string ⟨#[98]⟩) (.int .i64 1)).run Tryd.prog W1 = .ok () W2 ∧
    (Instr.mapUpdate 100 (.map (some W.heap.size)) (.string ⟨#[107]⟩) (.int .i64 1024)).run Tryd.prog W2 = .ok () W3 ∧
    (Instr.mapUpdate 100 (.map (some W.heap.size)) (.string ⟨#[77]⟩) (.int .i64 1048576)).run Tryd.prog W3 = .ok () W4 ∧
    (Instr.mapUpdate 100 (.map (some W.heap.size)) (.string ⟨#[71]⟩) (.int .i64 1073741824)).run Tryd.prog W4 = .ok () W5 ∧
    (Instr.mapUpdate 100 (.map (some W.heap.size)) (.string ⟨#[84]⟩) (.int .i64 1099511627776)).run Tryd.prog W5 = .ok () W6 ∧
    W6.ownsMap Tryd.prog 9 (plainElem Tryd.prog 3) W.heap.size 6 unitMap ∧ Below W.heap.size W W6 := by
  have K := Maps.string_keyed (P := Tryd.prog) Tryd.underlying9
  have hk : ∀ l : ByteArray, l.size ≤ maxLen → keyOf Tryd.prog 9 (.string l) = some (.string l.data.toList) := fun l h => by
    rw [keyOf_string Tryd.underlying9]
    simp only [mapKey, Tryd.underlying9]
    rw [if_pos h]
  have o0 := World.ownsMap_made (H := Unit) W Tryd.prog 9 (plainElem Tryd.prog 3)
  have hb0 : Below W.heap.size W (W.alloc (.map #[] 0)) := bAlloc (Below.refl _ _) _
  obtain ⟨W1, r1, o1, g1⟩ := o0.update K Tryd.underlying100 (by unfold maxLen; omega) (hk ⟨#[]⟩ (by decide)) (plainElem_int (H := Unit) Tryd.underlying3 (a := 1) (by decide))
  obtain ⟨W2, r2, o2, g2⟩ := o1.update K Tryd.underlying100 (by unfold maxLen; omega) (hk ⟨#[98]⟩ (by decide)) (plainElem_int (H := Unit) Tryd.underlying3 (a := 1) (by decide))
  obtain ⟨W3, r3, o3, g3⟩ := o2.update K Tryd.underlying100 (by unfold maxLen; omega) (hk ⟨#[107]⟩ (by decide)) (plainElem_int (H := Unit) Tryd.underlying3 (a := 1024) (by decide))
  obtain ⟨W4, r4, o4, g4⟩ := o3.update K Tryd.underlying100 (by unfold maxLen; omega) (hk ⟨#[77]⟩ (by decide)) (plainElem_int (H := Unit) Tryd.underlying3 (a := 1048576) (by decide))
  obtain ⟨W5, r5, o5, g5⟩ := o4.update K Tryd.underlying100 (by unfold maxLen; omega) (hk ⟨#[71]⟩ (by decide)) (plainElem_int (H := Unit) Tryd.underlying3 (a := 1073741824) (by decide))
  obtain ⟨W6, r6, o6, g6⟩ := o5.update K Tryd.underlying100 (by unfold maxLen; omega) (hk ⟨#[84]⟩ (by decide)) (plainElem_int (H := Unit) Tryd.underlying3 (a := 1099511627776) (by decide))
  have st : ∀ {a b : World}, Below W.heap.size W a → W.heap.size ≤ a.heap.size → a.grownBy b (some W.heap.size) → Below W.heap.size W b := fun h hs g => h.grown g hs (fun kk hkk => by cases hkk; exact Nat.le_refl _)
  have b1 := st hb0 hb0.size g1
  have b2 := st b1 b1.size g2
  have b3 := st b2 b2.size g3
  have b4 := st b3 b3.size g4
  have b5 := st b4 b4.size g5
  have b6 := st b5 b5.size g6
  exact ⟨W1, W2, W3, W4, W5, W6, r1, r2, r3, r4, r5, r6, o6, b6⟩
end Go.Proofs.YtjfnkkpmmebnfaaDoor
