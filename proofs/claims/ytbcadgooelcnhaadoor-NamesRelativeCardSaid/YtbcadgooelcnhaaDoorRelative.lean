/-
  names.Relative, and the law on it.
-/
import Derived.Test.YtbcadgooelcnhaaDoorRefPaths
namespace Go.Proofs.YtbcadgooelcnhaaDoor
open Go.RowKit

theorem holds_two (w : World) (t : TypeId) (x y : ByteArray) : Holds (w.alloc (.cells #[.string x, .string y] t)) (some ⟨w.heap.size, 0, none⟩) ([x, y].map Value.string) := holds_new w t [x, y]

set_option maxHeartbeats 1000000 in
theorem relative_bad (d p : ByteArray) (w : World) (hE : Env w) (hd : d.size ≤ 9223372036854775807) (hp : p.size ≤ 9223372036854775807) (h : Wh.pathsErr [d, p] = 1) :
    Calls Tryd.prog 20 #[.string d, .string p] w fun e w' => e = .returned (.tuple #[.string ⟨#[]⟩, .int .i64 1]) ∧ Below w.heap.size w w' := by
  have HC := fun W (hW : Env W) (hH : Holds W (some ⟨w.heap.size, 0, none⟩) ([d, p].map Value.string)) => checkAll_any (some ⟨w.heap.size, 0, none⟩) 2 [d, p] W hW (by simp) (by simp [hd, hp]) hH
  rw [h] at HC
  have HC := Lib.hid HC
  have HE := Lib.hid hE
  clear hE
  go_enter Tryd.func20, Tryd.ntmps20
  go_wp2_with fail
  refine (HC.out _ (HE.out.alloc _) (holds_two w _ d p)).mono ?_
  rintro e w' ⟨rfl, hb⟩
  go_wp2_with fail
  go_ret2
  exact ⟨rfl, bTrans (bAlloc (Below.refl _ _) _) hb⟩

theorem cat_slash (d : ByteArray) : (d ++ ⟨#[47]⟩ : ByteArray).data.toList = d.data.toList ++ [47] := by simp [ByteArray.data_append]

set_option maxHeartbeats 1000000 in
theorem relative_root (d p : ByteArray) (w : World) (hE : Env w) (hd : d.size ≤ 9223372036854775807) (hp : p.size ≤ 9223372036854775807) (h : Wh.pathsErr [d, p] = 0) (h0 : d.toList.isEmpty = true) :
    Calls Tryd.prog 20 #[.string d, .string p] w fun e w' => e = .returned (.tuple #[.string p, .int .i64 0]) ∧ Below w.heap.size w w' := by
  have HC := fun W (hW : Env W) (hH : Holds W (some ⟨w.heap.size, 0, none⟩) ([d, p].map Value.string)) => checkAll_any (some ⟨w.heap.size, 0, none⟩) 2 [d, p] W hW (by simp) (by simp [hd, hp]) hH
  rw [h] at HC
  have HC := Lib.hid HC
  have HE := Lib.hid hE
  clear hE h
  go_enter Tryd.func20, Tryd.ntmps20
  go_wp2_with fail
  refine (HC.out _ (HE.out.alloc _) (holds_two w _ d p)).mono ?_
  rintro e w' ⟨rfl, hb⟩
  go_wp2_with fail
  go_ret2
  exact ⟨rfl, bTrans (bAlloc (Below.refl _ _) _) hb⟩

set_option maxHeartbeats 1000000 in
theorem relative_same (d p : ByteArray) (w : World) (hE : Env w) (hd : d.size ≤ 9223372036854775807) (hp : p.size ≤ 9223372036854775807) (h : Wh.pathsErr [d, p] = 0) (h0 : d.toList.isEmpty = false) (h1 : (d.toList == p.toList) = true) :
    Calls Tryd.prog 20 #[.string d, .string p] w fun e w' => e = .returned (.tuple #[.string ⟨#[]⟩, .int .i64 0]) ∧ Below w.heap.size w w' := by
  have HC := fun W (hW : Env W) (hH : Holds W (some ⟨w.heap.size, 0, none⟩) ([d, p].map Value.string)) => checkAll_any (some ⟨w.heap.size, 0, none⟩) 2 [d, p] W hW (by simp) (by simp [hd, hp]) hH
  rw [h] at HC
  have HC := Lib.hid HC
  have HE := Lib.hid hE
  clear hE h
  go_enter Tryd.func20, Tryd.ntmps20
  go_wp2_with fail
  refine (HC.out _ (HE.out.alloc _) (holds_two w _ d p)).mono ?_
  rintro e w' ⟨rfl, hb⟩
  go_wp2_with fail
  go_ret2
  exact ⟨rfl, bTrans (bAlloc (Below.refl _ _) _) hb⟩

set_option maxHeartbeats 1000000 in
theorem relative_in (d p : ByteArray) (w : World) (hE : Env w) (hd : d.size ≤ 9223372036854775807) (hp : p.size ≤ 9223372036854775807) (h : Wh.pathsErr [d, p] = 0) (h0 : d.toList.isEmpty = false) (h1 : (d.toList == p.toList) = false) (h2 : Lib.hasPrefix p.data.toList (d.data.toList ++ [47]) = true) :
    Calls Tryd.prog 20 #[.string d, .string p] w fun e w' => e = .returned (.tuple #[.string (p.extract (d.size + 1) p.size), .int .i64 0]) ∧ Below w.heap.size w w' := by
  have hle := Wh.prefix_le h2
  have hd2 := Wh.pathsErr_size h (x := d) (by simp)
  have HP : Hid (∀ W, Calls Tryd.prog 22 #[.string p, .string (d ++ ⟨#[47]⟩)] W fun e w' => e = .returned (.bool true) ∧ w' = W) := Lib.hid (fun W => by
    refine (Tryd.strings_HasPrefix _ _ _).mono ?_
    rintro e w' ⟨rfl, rfl⟩
    rw [cat_slash, h2]
    exact ⟨rfl, rfl⟩)
  clear h2
  have HC := fun W (hW : Env W) (hH : Holds W (some ⟨w.heap.size, 0, none⟩) ([d, p].map Value.string)) => checkAll_any (some ⟨w.heap.size, 0, none⟩) 2 [d, p] W hW (by simp) (by simp [hd, hp]) hH
  rw [h] at HC
  have HC := Lib.hid HC
  have HE := Lib.hid hE
  clear hE h
  go_enter Tryd.func20, Tryd.ntmps20
  go_wp2_with fail
  refine (HC.out _ (HE.out.alloc _) (holds_two w _ d p)).mono ?_
  rintro e w' ⟨rfl, hb⟩
  go_wp2_with fail
  refine (HP.out _).mono ?_
  rintro e w' ⟨rfl, rfl⟩
  go_wp2_with fail
  go_ret2
  exact ⟨rfl, bTrans (bAlloc (Below.refl _ _) _) hb⟩

set_option maxHeartbeats 1000000 in
theorem relative_out (d p : ByteArray) (w : World) (hE : Env w) (hd : d.size ≤ 9223372036854775807) (hp : p.size ≤ 9223372036854775807) (h : Wh.pathsErr [d, p] = 0) (h0 : d.toList.isEmpty = false) (h1 : (d.toList == p.toList) = false) (h2 : Lib.hasPrefix p.data.toList (d.data.toList ++ [47]) = false) :
    Calls Tryd.prog 20 #[.string d, .string p] w fun e w' => e = .returned (.tuple #[.string ⟨#[]⟩, .int .i64 3]) ∧ Below w.heap.size w w' := by
  have hd2 := Wh.pathsErr_size h (x := d) (by simp)
  have HP : Hid (∀ W, Calls Tryd.prog 22 #[.string p, .string (d ++ ⟨#[47]⟩)] W fun e w' => e = .returned (.bool false) ∧ w' = W) := Lib.hid (fun W => by
    refine (Tryd.strings_HasPrefix _ _ _).mono ?_
    rintro e w' ⟨rfl, rfl⟩
    rw [cat_slash, h2]
    exact ⟨rfl, rfl⟩)
  clear h2
  have HC := fun W (hW : Env W) (hH : Holds W (some ⟨w.heap.size, 0, none⟩) ([d, p].map Value.string)) => checkAll_any (some ⟨w.heap.size, 0, none⟩) 2 [d, p] W hW (by simp) (by simp [hd, hp]) hH
  rw [h] at HC
  have HC := Lib.hid HC
  have HE := Lib.hid hE
  clear hE h
  go_enter Tryd.func20, Tryd.ntmps20
  go_wp2_with fail
  refine (HC.out _ (HE.out.alloc _) (holds_two w _ d p)).mono ?_
  rintro e w' ⟨rfl, hb⟩
  go_wp2_with fail
  refine (HP.out _).mono ?_
  rintro e w' ⟨rfl, rfl⟩
  go_wp2_with fail
  go_ret2
  exact ⟨rfl, bTrans (bAlloc (Below.refl _ _) _) hb⟩


set_option maxHeartbeats 2000000 in
theorem namesRelative_walk (d p : ByteArray) (w : World) (hE : Env w) (hd : d.size ≤ 9223372036854775807) (hp : p.size ≤ 9223372036854775807) :
    Calls Tryd.prog 5 #[.string d, .string p] w fun e w' => e = .returned (.bool true) ∧ Below w.heap.size w w' := by
  have HE := Lib.hid hE
  clear hE
  have HC := fun (b : Nat) W (hW : Env W) (hH : Holds W (some ⟨b, 0, none⟩) ([d, p].map Value.string)) => pathError_any (some ⟨b, 0, none⟩) 2 [d, p] W hW (by simp) (by simp [hd, hp]) hH
  rcases Wh.pathsErr_cases [d, p] with h | h
  · have HR := Lib.hid (fun W hW => relative_bad d p W hW hd hp h)
    rw [h] at HC
    have HC := Lib.hid HC
    clear h
    go_enter Tryd.func5, Tryd.ntmps5
    go_wp2_with fail
    refine (landed_any w HE.out).mono ?_
    rintro e w1 ⟨rfl, hb1⟩
    go_wp2_with fail
    refine (HR.out _ (HE.out.under hb1)).mono ?_
    rintro e w2 ⟨rfl, hb2⟩
    go_wp2_with fail
    refine (HC.out _ _ ((HE.out.under (bTrans hb1 hb2)).alloc _) (holds_two w2 _ d p)).mono ?_
    rintro e w3 ⟨rfl, hb3⟩
    go_wp2_with fail
    go_ret
    exact ⟨rfl, bTrans (bAlloc (bTrans hb1 hb2) _) hb3⟩
  have hd2 := Wh.pathsErr_size h (x := d) (by simp)
  rw [h] at HC
  have HC := Lib.hid HC
  by_cases hdp : d = p
  · subst hdp
    have hdd : (d.toList == d.toList) = true := by simp
    have HR : Hid (∀ W, Env W → Calls Tryd.prog 20 #[.string d, .string d] W fun e w' => e = .returned (.tuple #[.string ⟨#[]⟩, .int .i64 0]) ∧ Below W.heap.size W w') := by
      refine Lib.hid (fun W hW => ?_)
      cases h0 : d.toList.isEmpty
      · exact relative_same d d W hW hd hd h h0 hdd
      · have := relative_root d d W hW hd hd h h0
        have e0 : d = ⟨#[]⟩ := by
          rw [Lib.toList_data] at h0
          obtain ⟨⟨l⟩⟩ := d
          simp at h0
          subst h0
          rfl
        conv at this => rhs; rw [e0]
        exact this
    clear h
    go_enter Tryd.func5, Tryd.ntmps5
    go_wp2_with fail
    refine (landed_any w HE.out).mono ?_
    rintro e w1 ⟨rfl, hb1⟩
    go_wp2_with fail
    refine (HR.out _ (HE.out.under hb1)).mono ?_
    rintro e w2 ⟨rfl, hb2⟩
    go_wp2_with fail
    refine (HC.out _ _ ((HE.out.under (bTrans hb1 hb2)).alloc _) (holds_two w2 _ d d)).mono ?_
    rintro e w3 ⟨rfl, hb3⟩
    go_wp2_with fail
    go_ret
    exact ⟨rfl, bTrans (bAlloc (bTrans hb1 hb2) _) hb3⟩
  have hdp2 : (d.toList == p.toList) = false := Wh.toList_ne hdp
  clear hdp
  cases h0 : d.toList.isEmpty
  · cases h2 : Lib.hasPrefix p.data.toList (d.data.toList ++ [47])
    · have HR := Lib.hid (fun W hW => relative_out d p W hW hd hp h h0 hdp2 h2)
      have HP : Hid (∀ W, Calls Tryd.prog 22 #[.string p, .string (d ++ ⟨#[47]⟩)] W fun e w' => e = .returned (.bool false) ∧ w' = W) := Lib.hid (fun W => by
        refine (Tryd.strings_HasPrefix _ _ _).mono ?_
        rintro e w' ⟨rfl, rfl⟩
        rw [cat_slash, h2]
        exact ⟨rfl, rfl⟩)
      clear h h2
      go_enter Tryd.func5, Tryd.ntmps5
      go_wp2_with fail
      refine (landed_any w HE.out).mono ?_
      rintro e w1 ⟨rfl, hb1⟩
      go_wp2_with fail
      refine (HR.out _ (HE.out.under hb1)).mono ?_
      rintro e w2 ⟨rfl, hb2⟩
      go_wp2_with fail
      refine (HC.out _ _ ((HE.out.under (bTrans hb1 hb2)).alloc _) (holds_two w2 _ d p)).mono ?_
      rintro e w3 ⟨rfl, hb3⟩
      go_wp2_with fail
      refine (HP.out _).mono ?_
      rintro e w4 ⟨rfl, rfl⟩
      go_wp2_with fail
      go_ret
      exact ⟨rfl, bTrans (bAlloc (bTrans hb1 hb2) _) hb3⟩
    · have HR := Lib.hid (fun W hW => relative_in d p W hW hd hp h h0 hdp2 h2)
      have hle := Wh.prefix_le h2
      have HP : Hid (∀ W, Calls Tryd.prog 22 #[.string p, .string (d ++ ⟨#[47]⟩)] W fun e w' => e = .returned (.bool true) ∧ w' = W) := Lib.hid (fun W => by
        refine (Tryd.strings_HasPrefix _ _ _).mono ?_
        rintro e w' ⟨rfl, rfl⟩
        rw [cat_slash, h2]
        exact ⟨rfl, rfl⟩)
      clear h h2
      go_enter Tryd.func5, Tryd.ntmps5
      go_wp2_with fail
      refine (landed_any w HE.out).mono ?_
      rintro e w1 ⟨rfl, hb1⟩
      go_wp2_with fail
      refine (HR.out _ (HE.out.under hb1)).mono ?_
      rintro e w2 ⟨rfl, hb2⟩
      go_wp2_with fail
      refine (HC.out _ _ ((HE.out.under (bTrans hb1 hb2)).alloc _) (holds_two w2 _ d p)).mono ?_
      rintro e w3 ⟨rfl, hb3⟩
      go_wp2_with fail
      refine (HP.out _).mono ?_
      rintro e w4 ⟨rfl, rfl⟩
      go_wp2_with fail
      go_ret
      exact ⟨ret_bool (by simp), bTrans (bAlloc (bTrans hb1 hb2) _) hb3⟩
  · have HR := Lib.hid (fun W hW => relative_root d p W hW hd hp h h0)
    clear h
    go_enter Tryd.func5, Tryd.ntmps5
    go_wp2_with fail
    refine (landed_any w HE.out).mono ?_
    rintro e w1 ⟨rfl, hb1⟩
    go_wp2_with fail
    refine (HR.out _ (HE.out.under hb1)).mono ?_
    rintro e w2 ⟨rfl, hb2⟩
    go_wp2_with fail
    refine (HC.out _ _ ((HE.out.under (bTrans hb1 hb2)).alloc _) (holds_two w2 _ d p)).mono ?_
    rintro e w3 ⟨rfl, hb3⟩
    go_wp2_with fail
    go_ret
    exact ⟨ret_bool (by simp), bTrans (bAlloc (bTrans hb1 hb2) _) hb3⟩
end Go.Proofs.YtbcadgooelcnhaaDoor
