/-
  names.small, names.Fold, the reference's Lower.
-/
import Derived.Test.YtikegddlbelfaaaGreatDoorPaths
import Derived.Lib.ConvBytes
namespace Go.Proofs.YtikegddlbelfaaaGreatDoor
open Go.RowKit

/-- A block's first cells are these bytes, and can be written. -/
def BytesAtF (w : World) (b : Nat) (l : List UInt8) : Prop := ∀ (j : Nat) (x : UInt8), l[j]? = some x → w.cell? ⟨b, j, none⟩ = some (.int .u8 x.toNat) ∧ w.frozen? ⟨b, j, none⟩ = false

theorem BytesAtF.set {w : World} {b k : Nat} {l : List UInt8} (h : BytesAtF w b l) (hk : k < l.length) (v : UInt8) : BytesAtF (w.setCell ⟨b, k, none⟩ (.int .u8 v.toNat)) b (l.set k v) := by
  intro j x hj
  obtain ⟨h1, h2⟩ := h k l[k] (List.getElem?_eq_getElem hk)
  by_cases e : k = j
  · subst e
    rw [List.getElem?_set_self (by simpa using hk)] at hj
    cases hj
    exact ⟨World.cell?_setCell_same _ _ _ h1, (World.frozen?_setCell ..).trans h2⟩
  · rw [List.getElem?_set_ne e] at hj
    obtain ⟨h3, h4⟩ := h j x hj
    exact ⟨(World.cell?_setCell_other _ _ _ _ (fun h => e (by injection h))).trans h3, (World.frozen?_setCell ..).trans h4⟩

theorem BytesAtF.keep {w w' : World} {b B : Nat} {l : List UInt8} (h : BytesAtF w b l) (hb : Below B w w') (hB : b < B) : BytesAtF w' b l := by
  intro j x hj
  obtain ⟨h1, h2⟩ := h j x hj
  exact ⟨(hb.cell (p := ⟨b, j, none⟩) hB).trans h1, (hb.frozen (p := ⟨b, j, none⟩) hB).trans h2⟩

/-- What a conversion from a text to bytes leaves. -/
theorem bytesWorld_facts (w : World) (e : TypeId) (s : ByteArray) : Below w.heap.size w (Lib.bytesWorld w e s) ∧ (Lib.bytesWorld w e s).heap.size = w.heap.size + 1 ∧ BytesAtF (Lib.bytesWorld w e s) w.heap.size s.data.toList := by
  refine ⟨⟨rfl, rfl, rfl, by rw [Lib.bytesWorld_size]; omega, fun k hk => Lib.bytesWorld_at_old w e s k hk⟩, Lib.bytesWorld_size w e s, fun j x hj => ?_⟩
  have hjl : j < s.size := by have := (List.getElem?_eq_some_iff.1 hj).1; rw [Lib.size_eq]; exact this
  refine ⟨?_, ?_⟩
  · rw [Lib.bytesWorld_cell w e s j hjl, List.getD_eq_getElem?_getD, hj]
    rfl
  · have h1 := Lib.bytesWorld_at_new w e s
    have h2 : s.size ≤ (Lib.bytesCells w e s).size := by simp [Lib.bytesCells]
    simp only [World.frozen?, h1]
    simp
    omega

theorem conv_bytes (w : World) (s : ByteArray) : (convert 9 89 (.string s)).run Tryz.prog w = .ok (.slice (some ⟨w.heap.size, 0, none⟩) s.size (grownCap w s.size 0 5)) (Lib.bytesWorld w 5 s) :=
  Lib.run_convert_string_bytes w 9 89 5 s Tryz.underlying9 Tryz.underlying89 Tryz.underlying5

theorem conv_back (w : World) (b n cap : Nat) (l : List UInt8) (hn : n = l.length) (h : BytesAtF w b l) : (convert 89 9 (.slice (some ⟨b, 0, none⟩) n cap)).run Tryz.prog w = .ok (.string ⟨l.toArray⟩) w := by
  subst hn
  refine run_convert_bytes_back w 89 9 5 ⟨b, 0, none⟩ cap l Tryz.underlying89 Tryz.underlying5 Tryz.underlying9 fun j hj => ?_
  have e : (⟨b, 0, none⟩ : Addr).add j = ⟨b, j, none⟩ := by unfold Addr.add; split <;> simp_all
  rw [e]
  exact (h j l[j] (List.getElem?_eq_getElem hj)).1

set_option maxHeartbeats 1000000 in
theorem small_any (x : UInt8) (w : World) :
    Calls Tryz.prog 55 #[.int .u8 x.toNat] w fun e w' => e = .returned (.int .u8 (Wh.small x).toNat) ∧ w' = w := by
  have hx := x.toNat_lt
  have hs := Lib.hid (Wh.small_nat x)
  by_cases h1 : 65 ≤ x.toNat
  · by_cases h2 : x.toNat ≤ 90
    · go_enter Tryz.func55, Tryz.ntmps55
      go_wp2
      go_ret
      refine ⟨ret_int ?_, rfl⟩
      rw [hs.out, if_pos ⟨h1, h2⟩]
      omega
    · go_enter Tryz.func55, Tryz.ntmps55
      go_wp2
      go_ret
      exact ⟨ret_int (by rw [hs.out, if_neg (by omega)]), rfl⟩
  · go_enter Tryz.func55, Tryz.ntmps55
    go_wp2
    go_ret
    exact ⟨ret_int (by rw [hs.out, if_neg (by omega)]), rfl⟩

/-- A list of bytes of which the first k are small. -/
theorem lower_step {l : List UInt8} {k : Nat} {x : UInt8} (hk : l[k]? = some x) : ((l.take k).map Wh.small ++ l.drop k)[k]? = some x ∧
    ((l.take k).map Wh.small ++ l.drop k).set k (Wh.small x) = (l.take (k + 1)).map Wh.small ++ l.drop (k + 1) := by
  have hlt := (List.getElem?_eq_some_iff.1 hk).1
  have e : l[k] = x := (List.getElem?_eq_some_iff.1 hk).2
  have hlen : ((l.take k).map Wh.small).length = k := by simp; omega
  refine ⟨?_, ?_⟩
  · rw [List.getElem?_append_right (by omega), hlen, Nat.sub_self, List.getElem?_drop, Nat.add_zero, hk]
  · rw [List.set_append, if_neg (by omega), hlen, Nat.sub_self, List.drop_eq_getElem_cons hlt, e, List.take_add_one, hk]
    simp

theorem lower_len (l : List UInt8) (k : Nat) : ((l.take k).map Wh.small ++ l.drop k).length = l.length := by simp; omega

set_option maxHeartbeats 1000000 in
theorem fold_any (s : ByteArray) (w : World) (hs : s.size ≤ 9223372036854775807) :
    Calls Tryz.prog 25 #[.string s] w fun e w' => e = .returned (.string ⟨(Wh.lower s.data.toList).toArray⟩) ∧ Below w.heap.size w w' := by
  have hconv := conv_bytes w s
  obtain ⟨hb0, hz0, hB0⟩ := bytesWorld_facts w 5 s
  generalize grownCap w s.size 0 5 = cap at *
  generalize Lib.bytesWorld w 5 s = W0 at *
  have HB0 := Lib.hid hB0
  clear hB0
  have hz1 : w.heap.size < W0.heap.size := by omega
  clear hz0
  go_enter Tryz.func25, Tryz.ntmps25
  go_wp2_with fail
  clear hconv
  go_loopg [10] s.size (fun g i wx => ∃ k : Nat, k + g = s.size ∧ i = .int .i64 k ∧ Below w.heap.size w wx ∧ w.heap.size < wx.heap.size ∧ Hid (BytesAtF wx w.heap.size ((s.data.toList.take k).map Wh.small ++ s.data.toList.drop k)))
  case atStart => exact ⟨0, by omega, rfl, hb0, hz1, Lib.hid (by simpa using HB0.out)⟩
  case round =>
    obtain ⟨k, hk, rfl, hb, hz, HB⟩ := hrel
    by_cases hlt : k < s.size
    · obtain ⟨g, rfl⟩ : ∃ g, gk = g + 1 := ⟨gk - 1, by omega⟩
      obtain ⟨x, hx⟩ : ∃ x, s.data.toList[k]? = some x := ⟨_, List.getElem?_eq_getElem (by rw [← Lib.size_eq]; exact hlt)⟩
      obtain ⟨e1, e2⟩ := lower_step hx
      obtain ⟨hc, hf⟩ := HB.out k x e1
      have hset := HB.out.set (k := k) (by rw [lower_len, ← Lib.size_eq]; exact hlt) (Wh.small x)
      rw [e2] at hset
      have HS := Lib.hid hset
      clear hx e1 e2 hset
      go_wp2_with (go_at_call 55; refine (small_any x _).mono ?_; rintro e w' ⟨rfl, rfl⟩)
      go_roundg g
      case measure => omega
      case rel => exact ⟨k + 1, by omega, by go_num, Below.setCell (p := ⟨w.heap.size, k, none⟩) hb (Nat.le_refl _) _, by simpa using hz, HS⟩
    · obtain rfl : k = s.size := by omega
      have hB := HB.out
      rw [List.take_of_length_le (by rw [← Lib.size_eq]; omega), List.drop_eq_nil_of_le (by rw [← Lib.size_eq]; omega), List.append_nil] at hB
      have hback := conv_back wr w.heap.size s.size cap _ (by rw [List.length_map, Lib.size_eq]) hB
      clear hB
      go_wp2_with fail
      go_ret
      exact ⟨rfl, hb⟩

end Go.Proofs.YtikegddlbelfaaaGreatDoor
