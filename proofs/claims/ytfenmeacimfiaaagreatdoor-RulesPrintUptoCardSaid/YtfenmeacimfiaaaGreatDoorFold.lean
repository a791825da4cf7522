/-
  names.small, names.Fold, the reference's Lower.
-/
import Derived.Test.YtfenmeacimfiaaaGreatDoorPaths
import Derived.Lib.ConvBytes
namespace Go.Proofs.YtfenmeacimfiaaaGreatDoor
open Go.RowKit

/-- A block's first cells are these bytes, and can be written. -/
def BytesAt (w : World) (b : Nat) (l : List UInt8) : Prop := ∀ (j : Nat) (x : UInt8), l[j]? = some x → w.cell? ⟨b, j, none⟩ = some (.int .u8 x.toNat) ∧ w.frozen? ⟨b, j, none⟩ = false

theorem BytesAt.set {w : World} {b k : Nat} {l : List UInt8} (h : BytesAt w b l) (hk : k < l.length) (v : UInt8) : BytesAt (w.setCell ⟨b, k, none⟩ (.int .u8 v.toNat)) b (l.set k v) := by
  intro j x hj
  obtain ⟨h1, h2⟩ := h k l[k] (List.getElem?_eq_getElem hk)
  by_cases e : k = j
  · subst e
    rw [List.getElem?_set_self (by simpa using hk)] at hj
    cases hj
    exact ⟨World.cell?_setCell_same _ _ _ h1, (World.frozen?_setCell ..).trans h2⟩
  · rw [List.getElem?_set_ne e] at hj
    obtain ⟨h3, h4⟩ := h j x hj
    exact ⟨(World.cell?_setCell_other _ _ _ _ (fun h => e (by injection h))).trans h3, (World.frozen?_setCell ..).trans h4⟩

theorem BytesAt.keep {w w' : World} {b B : Nat} {l : List UInt8} (h : BytesAt w b l) (hb : Below B w w') (hB : b < B) : BytesAt w' b l := by
  intro j x hj
  obtain ⟨h1, h2⟩ := h j x hj
  exact ⟨(hb.cell (p := ⟨b, j, none⟩) hB).trans h1, (hb.frozen (p := ⟨b, j, none⟩) hB).trans h2⟩

/-- What a conversion from a text to bytes leaves. -/
theorem bytesWorld_facts (w : World) (e : TypeId) (s : ByteArray) : Below w.heap.size w (Lib.bytesWorld w e s) ∧ (Lib.bytesWorld w e s).heap.size = w.heap.size + 1 ∧ BytesAt (Lib.bytesWorld w e s) w.heap.size s.data.toList := by
  refine ⟨⟨rfl, rfl, rfl, by rw [Lib.bytesWorld_size]; omega, fun k hk => Lib.bytesWorld_at_old w e s k hk⟩, Lib.bytesWorld_size w e s, fun j x hj => ?_⟩
  have hjl : j < s.size := by have := (List.getElem?_eq_some_iff.1 hj).1; rw [Lib.size_eq]; exact this
  refine ⟨?_, ?_⟩
  · rw [Lib.bytesWorld_cell w e s j hjl, List.getD_eq_getElem?_getD, hj]
    rfl
  · have h1 := Lib.bytesWorld_at_new w e s
    have h2 : s.size ≤ (Lib.bytesCells w e s).size := by simp [Lib.bytesCells]
    simp only [World.frozen?, h1]
    simp
    omega

theorem conv_bytes (w : World) (s : ByteArray) : (convert 9 137 (.string s)).run Tryz.prog w = .ok (.slice (some ⟨w.heap.size, 0, none⟩) s.size (grownCap w s.size 0 5)) (Lib.bytesWorld w 5 s) :=
  Lib.run_convert_string_bytes w 9 137 5 s Tryz.underlying9 Tryz.underlying137 Tryz.underlying5

theorem conv_back (w : World) (b n cap : Nat) (l : List UInt8) (hn : n = l.length) (h : BytesAt w b l) : (convert 137 9 (.slice (some ⟨b, 0, none⟩) n cap)).run Tryz.prog w = .ok (.string ⟨l.toArray⟩) w := by
  subst hn
  refine run_convert_bytes_back w 137 9 5 ⟨b, 0, none⟩ cap l Tryz.underlying137 Tryz.underlying5 Tryz.underlying9 fun j hj => ?_
  have e : (⟨b, 0, none⟩ : Addr).add j = ⟨b, j, none⟩ := by unfold Addr.add; split <;> simp_all
  rw [e]
  exact (h j l[j] (List.getElem?_eq_getElem hj)).1

/-- A list of bytes of which the first k are small. -/
theorem lower_step {l : List UInt8} {k : Nat} {x : UInt8} (hk : l[k]? = some x) : ((l.take k).map Wh.small ++ l.drop k)[k]? = some x ∧
    ((l.take k).map Wh.small ++ l.drop k).set k (Wh.small x) = (l.take (k + 1)).map Wh.small ++ l.drop (k + 1) := by
  have hlt := (List.getElem?_eq_some_iff.1 hk).1
  have e : l[k] = x := (List.getElem?_eq_some_iff.1 hk).2
  have hlen : ((l.take k).map Wh.small).length = k := by simp; omega
  refine ⟨?_, ?_⟩
  · rw [List.getElem?_append_right (by omega), hlen, Nat.sub_self, List.getElem?_drop, Nat.add_zero, hk]
  · rw [List.set_append, if_neg (by omega), hlen, Nat.sub_self, List.drop_eq_getElem_cons hlt, e, List.take_add_one, hk]
    simp

theorem lower_len (l : List UInt8) (k : Nat) : ((l.take k).map Wh.small ++ l.drop k).length = l.length := by simp; omega

end Go.Proofs.YtfenmeacimfiaaaGreatDoor
