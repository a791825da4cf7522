/-
  The law NamesCheck, walked.
-/
import Derived.Test.YtbcadgooelcnhaaDoorAbove
import Derived.Test.YtbcadgooelcnhaaDoorPlain2
namespace Go.Proofs.YtbcadgooelcnhaaDoor
open Go.RowKit

theorem holds_one (w : World) (t : TypeId) (x : ByteArray) : Holds (w.alloc (.cells #[.string x] t)) (some ⟨w.heap.size, 0, none⟩) ([x].map Value.string) := holds_new w t [x]

set_option maxHeartbeats 2000000 in
set_option maxRecDepth 100000 in
theorem namesCheck_bad (s : ByteArray) (w : World) (hE : Env w) (hs : s.size ≤ 9223372036854775807) (hp : Wh.pathErr s.data.toList = 1) :
    Calls Tryd.prog 10 #[.string s] w fun e w' => e = .returned (.bool true) ∧ Below w.heap.size w w' := by
  have HP := fun (b : Nat) W (hW : Env W) (hH : Holds W (some ⟨b, 0, none⟩) ([s].map Value.string)) => pathError_any (some ⟨b, 0, none⟩) 1 [s] W hW (by simp) (by simp [hs]) hH
  rw [Wh.pathsErr_one, hp] at HP
  have HP := Lib.hid HP
  have HC := fun W (hW : Env W) => check_any s W hW hs
  rw [hp] at HC
  have HC := Lib.hid HC
  have H1 := Lib.hid (fun W hW => parts_bad s W hW hs hp)
  have H2 := Lib.hid (fun W hW => above_bad s W hW hs hp)
  have HE := Lib.hid hE
  clear hE hp
  go_enter Tryd.func10, Tryd.ntmps10
  go_wp2_with fail
  refine (landed_any w HE.out).mono ?_
  rintro e w1 ⟨rfl, hb1⟩
  go_wp2_with fail
  refine (HP.out _ _ ((HE.out.under hb1).alloc _) (holds_one w1 _ s)).mono ?_
  rintro e w2 ⟨rfl, hb2⟩
  have hbb := bTrans (bAlloc hb1 _) hb2
  clear hb1 hb2
  go_wp2_with fail
  refine (H1.out _ (HE.out.under hbb)).mono ?_
  rintro e w3 ⟨rfl, hb3⟩
  have hbb := bTrans hbb hb3
  clear hb3
  go_wp2_with fail
  refine (H2.out _ (HE.out.under hbb)).mono ?_
  rintro e w4 ⟨rfl, hb4⟩
  have hbb := bTrans hbb hb4
  clear hb4
  go_wp2_with fail
  refine (HC.out _ (HE.out.under hbb)).mono ?_
  rintro e w5 ⟨rfl, hb5⟩
  have hbb := bTrans hbb hb5
  clear hb5
  go_wp2_with fail
  refine (fold_any s _ hs).mono ?_
  rintro e w6 ⟨rfl, hb6⟩
  have hbb := bTrans hbb hb6
  clear hb6
  go_wp2_with fail
  refine (lower_any s _ hs).mono ?_
  rintro e w7 ⟨rfl, hb7⟩
  have hbb := bTrans hbb hb7
  clear hb7
  go_wp2_with fail
  go_ret
  exact ⟨rfl, hbb⟩

set_option maxHeartbeats 2000000 in
set_option maxRecDepth 100000 in
theorem namesCheck_root (s : ByteArray) (w : World) (hE : Env w) (hs : s.size ≤ 1024) (hp : Wh.pathErr s.data.toList = 0) (h0 : s.toList.isEmpty = true) :
    Calls Tryd.prog 10 #[.string s] w fun e w' => e = .returned (.bool true) ∧ Below w.heap.size w w' := by
  have HP := fun (b : Nat) W (hW : Env W) (hH : Holds W (some ⟨b, 0, none⟩) ([s].map Value.string)) => pathError_any (some ⟨b, 0, none⟩) 1 [s] W hW (by simp) (by simp; omega) hH
  rw [Wh.pathsErr_one, hp] at HP
  have HP := Lib.hid HP
  have HC := fun W (hW : Env W) => check_any s W hW (by omega)
  rw [hp] at HC
  have HC := Lib.hid HC
  have e0 : Wh.namesOf s = [] := Wh.namesOf_none (by rw [← Lib.toList_data]; exact h0)
  have H1 := fun W hW => parts_good s W hW hs hp
  rw [e0] at H1
  have H1 := Lib.hid H1
  have H2 := Lib.hid (fun W hW => above_root s W hW hs hp h0)
  have HJ := fun (a : Option Addr) (c : Nat) W => namesJoin_any a c [] W (.inl rfl) (Nat.zero_le _) (Nat.zero_le _) (by simp) (by simp [Lib.join_nil])
  have hj := Wh.joinText_path (Wh.pathErr_zero hp)
  rw [e0] at hj
  rw [hj.1, hj.2] at HJ
  have HJ := Lib.hid HJ
  have HE := Lib.hid hE
  clear hE hp e0 hj
  go_enter Tryd.func10, Tryd.ntmps10
  go_wp2_with fail
  refine (landed_any w HE.out).mono ?_
  rintro e w1 ⟨rfl, hb1⟩
  go_wp2_with fail
  refine (HP.out _ _ ((HE.out.under hb1).alloc _) (holds_one w1 _ s)).mono ?_
  rintro e w2 ⟨rfl, hb2⟩
  have hbb := bTrans (bAlloc hb1 _) hb2
  clear hb1 hb2
  go_wp2_with fail
  refine (H1.out _ (HE.out.under hbb)).mono ?_
  rintro e w3 ⟨a, c, rfl, _, _, hb3⟩
  have hbb := bTrans hbb hb3
  clear hb3
  go_wp2_with fail
  refine (H2.out _ (HE.out.under hbb)).mono ?_
  rintro e w4 ⟨rfl, hb4⟩
  have hbb := bTrans hbb hb4
  clear hb4
  go_wp2_with fail
  refine (HC.out _ (HE.out.under hbb)).mono ?_
  rintro e w5 ⟨rfl, hb5⟩
  have hbb := bTrans hbb hb5
  clear hb5
  go_wp2_with fail
  refine (fold_any s _ (by omega)).mono ?_
  rintro e w6 ⟨rfl, hb6⟩
  have hbb := bTrans hbb hb6
  clear hb6
  go_wp2_with fail
  refine (lower_any s _ (by omega)).mono ?_
  rintro e w7 ⟨rfl, hb7⟩
  have hbb := bTrans hbb hb7
  clear hb7
  go_wp2_with fail
  refine (HJ.out _ _ _).mono ?_
  rintro e w8 ⟨rfl, hb8⟩
  have hbb := bTrans hbb hb8
  clear hb8
  go_wp2_with fail
  go_ret
  exact ⟨rfl, hbb⟩

set_option maxHeartbeats 4000000 in
set_option maxRecDepth 100000 in
theorem namesCheck_good (s : ByteArray) (w : World) (hE : Env w) (hs : s.size ≤ 1024) (hp : Wh.pathErr s.data.toList = 0) (h0 : s.toList.isEmpty = false) :
    Calls Tryd.prog 10 #[.string s] w fun e w' => e = .returned (.bool true) ∧ Below w.heap.size w w' := by
  have HP := fun (b : Nat) W (hW : Env W) (hH : Holds W (some ⟨b, 0, none⟩) ([s].map Value.string)) => pathError_any (some ⟨b, 0, none⟩) 1 [s] W hW (by simp) (by simp; omega) hH
  rw [Wh.pathsErr_one, hp] at HP
  have HP := Lib.hid HP
  have HC := fun W (hW : Env W) => check_any s W hW (by omega)
  rw [hp] at HC
  have HC := Lib.hid HC
  have H1 := Lib.hid (fun W hW => parts_good s W hW hs hp)
  have hle := Wh.namesOf_le s
  have hjl := Wh.namesOf_join s
  have hN : (Wh.namesOf s).length ≤ 140737488355328 := by omega
  have hlen : (Lib.join ((Wh.namesOf s).map (·.data.toList)) [47]).length ≤ 140737488355328 := by rw [hjl, ← Lib.size_eq]; omega
  have HJ := fun (a : Option Addr) (c : Nat) W hH hc => namesJoin_any a c (Wh.namesOf s) W hH hc hN (fun x hx => by have := Wh.namesOf_size hx; omega) (fun _ => hlen)
  have hj := Wh.joinText_path (Wh.pathErr_zero hp)
  rw [hj.1, hj.2] at HJ
  have HJ := Lib.hid HJ
  have HJ2 := fun (a : Option Addr) (c : Nat) W hH hc => join_any a c (Wh.namesOf s) ⟨#[47]⟩ W hH hc hN hlen
  have e47 : (⟨#[47]⟩ : ByteArray).data.toList = [47] := rfl
  rw [e47, hjl, Wh.mk_toList] at HJ2
  have HJ2 := Lib.hid HJ2
  have HE := Lib.hid hE
  have hA : ∃ d n, Hid (∀ W, Env W → Calls Tryd.prog 46 #[.string s] W fun e w' => e = .returned (.tuple #[.string d, .string n, .int .i64 0]) ∧ Below W.heap.size W w') ∧
      ∃ k : Int, Lib.lastIndexByte s 47 = k ∧ -1 ≤ k ∧ k < s.size ∧ d = s.extract 0 (max k 0).toNat ∧ n = s.extract (k + 1).toNat s.size := by
    rcases lastIndex_cases s with hi | ⟨i, hlt, hi⟩
    · refine ⟨⟨#[]⟩, s, Lib.hid (fun W hW => above_flat s W hW hs hp h0 hi), -1, hi, by omega, by omega, ?_, ?_⟩
      · exact (Wh.extract_none s).symm
      · exact (Wh.extract_whole s).symm
    · refine ⟨_, _, Lib.hid (fun W hW => above_deep s i W hW hs hp h0 hi hlt), i, hi, by omega, by omega, ?_, ?_⟩
      · congr 1; omega
      · congr 1
  obtain ⟨d, n, HA, k, hk, hk1, hk2, hd, hn⟩ := hA
  have HL := fun W => Tryd.strings_LastIndexByte s 47 (by omega) W
  rw [hk] at HL
  have HL := Lib.hid HL
  subst hd
  subst hn
  clear hE hp hj hjl hlen e47 hk
  go_enter Tryd.func10, Tryd.ntmps10
  go_wp2_with fail
  refine (landed_any w HE.out).mono ?_
  rintro e w1 ⟨rfl, hb1⟩
  go_wp2_with fail
  refine (HP.out _ _ ((HE.out.under hb1).alloc _) (holds_one w1 _ s)).mono ?_
  rintro e w2 ⟨rfl, hb2⟩
  have hbb := bTrans (bAlloc hb1 _) hb2
  clear hb1 hb2
  go_wp2_with fail
  refine (H1.out _ (HE.out.under hbb)).mono ?_
  rintro e w3 ⟨a, c, rfl, hc, hH, hb3⟩
  have HH := Lib.hid hH
  clear hH
  have hbb := bTrans hbb hb3
  clear hb3
  go_wp2_with fail
  refine (HA.out _ (HE.out.under hbb)).mono ?_
  rintro e w4 ⟨rfl, hb4⟩
  have HH4 := Lib.hid (HH.out.under hb4)
  have hbb := bTrans hbb hb4
  clear hb4 HH
  go_wp2_with fail
  refine (HC.out _ (HE.out.under hbb)).mono ?_
  rintro e w5 ⟨rfl, hb5⟩
  have HH5 := Lib.hid (HH4.out.under hb5)
  have hbb := bTrans hbb hb5
  clear hb5 HH4
  go_wp2_with fail
  refine (fold_any s _ (by omega)).mono ?_
  rintro e w6 ⟨rfl, hb6⟩
  have HH6 := Lib.hid (HH5.out.under hb6)
  have hbb := bTrans hbb hb6
  clear hb6 HH5
  go_wp2_with fail
  refine (lower_any s _ (by omega)).mono ?_
  rintro e w7 ⟨rfl, hb7⟩
  have HH7 := Lib.hid (HH6.out.under hb7)
  have hbb := bTrans hbb hb7
  clear hb7 HH6
  go_wp2_with fail
  refine (HJ.out _ _ _ HH7.out hc).mono ?_
  rintro e w8 ⟨rfl, hb8⟩
  have HH8 := Lib.hid (HH7.out.under hb8)
  have hbb := bTrans hbb hb8
  clear hb8 HH7
  go_wp2_with fail
  refine (HL.out _).mono ?_
  rintro e w9 ⟨rfl, rfl⟩
  go_wp2_with fail
  refine (HJ2.out _ _ _ HH8.out hc).mono ?_
  rintro e w10 ⟨rfl, hb10⟩
  have hbb := bTrans hbb hb10
  clear hb10 HH8
  go_wp2_with fail
  go_ret
  exact ⟨ret_bool (by simp), hbb⟩

theorem namesCheck_walk (s : ByteArray) (w : World) (hE : Env w) (hs : s.size ≤ 9223372036854775807) :
    Calls Tryd.prog 10 #[.string s] w fun e w' => e = .returned (.bool true) ∧ Below w.heap.size w w' := by
  rcases Wh.pathErr_cases s.data.toList with hp | hp
  · exact namesCheck_bad s w hE hs hp
  · have hz := Wh.path_size (Wh.pathErr_zero hp)
    cases h0 : s.toList.isEmpty
    · exact namesCheck_good s w hE hz hp h0
    · exact namesCheck_root s w hE hz hp h0
end Go.Proofs.YtbcadgooelcnhaaDoor
