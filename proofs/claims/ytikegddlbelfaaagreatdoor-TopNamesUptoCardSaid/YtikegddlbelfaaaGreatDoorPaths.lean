/-
  Package names: isName, Check, and the reference's IsName.
-/
import Derived.Test.YtikegddlbelfaaaGreatDoorIndexAny
import Derived.Test.YtikegddlbelfaaaGreatDoorPlain
namespace Go.Proofs.YtikegddlbelfaaaGreatDoor
open Go.RowKit

set_option maxHeartbeats 1000000 in
theorem isName_any (s : ByteArray) (w : World) (hs : s.size ≤ 9223372036854775807) :
    Calls Tryz.prog 24 #[.string s] w fun e w' => e = .returned (.bool (Wh.isName s.data.toList)) ∧ Below w.heap.size w w' := by
  go_enter Tryz.func24, Tryz.ntmps24
  go_wp2_with (go_at_call 26; refine (containsAny_any s ⟨#[0, 47]⟩ _ (by omega) (by decide) (by decide)).mono ?_; rintro e w' ⟨rfl, hb⟩)
  all_goals go_ret
  all_goals refine ⟨ret_bool ?_, by first | exact Below.refl _ _ | assumption⟩
  all_goals simp only [Wh.isName, ← Lib.toList_data]
  all_goals simp_all [Lib.toList_data]
  · rename_i h2 _ _
    have h3 : decide (s.size ≤ 255) = true := by simp; omega
    rw [h3]
    simp [bne]
  · intro h3
    omega

/-- strings.Split at one byte. -/
theorem split_one (c : UInt8) (s : ByteArray) (w : World) (hE : Env w) (hs : s.size < 4294967281) :
    Calls Tryz.prog 45 #[.string s, .string ⟨#[c]⟩] w fun e w' =>
      e = .returned (.slice (some ⟨w.heap.size, 0, none⟩) (Wh.pieces c s).length (Wh.pieces c s).length) ∧ w' = w.alloc (.cells ((Wh.pieces c s).map Value.string).toArray 9) := by
  obtain ⟨m, hm⟩ := hE
  rw [Wh.pieces_length]
  exact Tryz.strings_Split s ⟨#[c]⟩ m w hs hm (Wh.one_le c)

theorem cell_of_new (w : World) (t : TypeId) (xs : List ByteArray) (k : Nat) (x : ByteArray) (hx : xs[k]? = some x) :
    (w.alloc (.cells (xs.map Value.string).toArray t)).cell? ⟨w.heap.size, k, none⟩ = some (.string x) := by
  rw [World.cell?_alloc_at _ _ _ _ rfl]
  simp [hx]

set_option maxHeartbeats 1000000 in
theorem check_any (s : ByteArray) (w : World) (hE : Env w) (hs : s.size ≤ 9223372036854775807) :
    Calls Tryz.prog 15 #[.string s] w fun e w' => e = .returned (.int .i64 (Wh.pathErr s.data.toList)) ∧ Below w.heap.size w w' := by
  have HE := Lib.hid hE
  clear hE
  cases h0 : s.toList.isEmpty
  case true =>
    go_enter Tryz.func15, Tryz.ntmps15
    go_wp2_with fail
    go_ret
    exact ⟨ret_int (by rw [Lib.toList_data] at h0; simp [Wh.pathErr, Wh.isPath, h0]), Below.refl _ _⟩
  by_cases h1 : (1024 : Int) < s.size
  · go_enter Tryz.func15, Tryz.ntmps15
    go_wp2_with fail
    go_ret
    exact ⟨ret_int (by rw [Lib.toList_data] at h0; rw [Wh.pathErr_long h0 (by rw [← Lib.size_eq]; omega)]), Below.refl _ _⟩
  have h2 : ¬ (1024 < s.size) := by omega
  have hP := Lib.hid (Wh.pathErr_split (by rw [← Lib.toList_data]; exact h0) h2)
  have hpl := Wh.pieces_le 47 s
  have HZ := Lib.hid (fun x (hx : x ∈ Wh.pieces 47 s) => Wh.pieces_size hx)
  go_enter Tryz.func15, Tryz.ntmps15
  go_wp2_with (go_at_call 45; refine (split_one 47 s _ HE.out (by omega)).mono ?_; rintro e w' ⟨rfl, rfl⟩)
  generalize Wh.pieces 47 s = xs at *
  go_loopg [13] xs.length (fun g i wx => ∃ k : Nat, k + g = xs.length ∧ i = .int .i64 k ∧ Below (w.heap.size + 1) (w.alloc (.cells (xs.map Value.string).toArray 9)) wx ∧ Hid ((xs.take k).all (fun x => Wh.isName x.data.toList) = true))
  case atStart => exact ⟨0, by omega, rfl, Below.refl _ _, Lib.hid rfl⟩
  case round =>
    obtain ⟨k, hk, rfl, hb, HN⟩ := hrel
    by_cases hlt : k < xs.length
    · obtain ⟨g, rfl⟩ : ∃ g, gk = g + 1 := ⟨gk - 1, by omega⟩
      obtain ⟨x, hx⟩ : ∃ x, xs[k]? = some x := ⟨_, List.getElem?_eq_getElem hlt⟩
      have hcell : wr.cell? ⟨w.heap.size, k, none⟩ = some (.string x) := by
        rw [hb.cell (p := ⟨w.heap.size, k, none⟩) (Nat.lt_succ_self _)]
        exact cell_of_new w _ xs k x hx
      have hxs := HZ.out x (List.mem_of_getElem? hx)
      have Hx := Lib.hid hx
      clear hx
      cases hn : Wh.isName x.data.toList
      · go_wp2_with (go_at_call 24; refine (isName_any x _ (by omega)).mono ?_; rw [hn]; rintro e w' ⟨rfl, hb2⟩)
        go_ret
        refine ⟨ret_int ?_, ?_⟩
        · rw [hP.out, if_neg]
          rw [Bool.not_eq_true, List.all_eq_false]
          exact ⟨x, List.mem_of_getElem? Hx.out, by simp [hn]⟩
        · have hz := hb.size
          simp at hz
          exact ((bAlloc (Below.refl _ w) _).trans (hb.mono (by omega))).trans (hb2.mono (by omega))
      · go_wp2_with (go_at_call 24; refine (isName_any x _ (by omega)).mono ?_; rw [hn]; rintro e w' ⟨rfl, hb2⟩)
        go_roundg g
        case measure => omega
        case rel =>
          have hz := hb.size
          simp at hz
          exact ⟨k + 1, by omega, by go_num, hb.trans (hb2.mono (by omega)), Lib.hid (by rw [List.take_add_one, Hx.out, List.all_append, HN.out]; simp [hn])⟩
    · go_wp2_with fail
      go_ret
      have hz := hb.size
      simp at hz
      refine ⟨ret_int ?_, (bAlloc (Below.refl _ w) _).trans (hb.mono (by omega))⟩
      have := HN.out
      rw [List.take_of_length_le (by omega)] at this
      rw [hP.out, if_pos this]

end Go.Proofs.YtikegddlbelfaaaGreatDoor
