/-
  What the reference's ParseSize calls: strings.Cut at a point, strconv.ParseUint, strings.Trim, fraction.
-/
import Derived.Test.YtjfnkkpmmebnfaaDoorSize1
import Derived.Test.YtjfnkkpmmebnfaaDoorParseUint
import Derived.Lib.IndexLaws
import Derived.Shelf.Strings.SlTrimAscii
namespace Go.Proofs.YtjfnkkpmmebnfaaDoor
open Go.RowKit

/-- The library's variable ErrRange holds a value of an interface type. -/
def EnvE (w : World) : Prop := ∃ ev, w.cell? ⟨2, 0, none⟩ = some ev ∧ (ev = .nilIface ∨ ∃ te pe, ev = .iface te pe)

theorem EnvE.under {w w' : World} (h : EnvE w) (hb : Below w.heap.size w w') : EnvE w' := by
  obtain ⟨ev, h1, h2⟩ := h
  exact ⟨ev, by rw [hb.cell (p := ⟨2, 0, none⟩) (cell_lt (p := ⟨2, 0, none⟩) h1)]; exact h1, h2⟩

theorem below_bytesWorld (w : World) (e : TypeId) (t : ByteArray) : Below w.heap.size w (Lib.bytesWorld w e t) := (bytesWorld_facts w e t).1

set_option maxHeartbeats 1000000 in
theorem parseUint63_ok (t : ByteArray) (w : World) (hne : ¬ t.size = 0) (hmax : t.size ≤ 9223372036854775806) (hd : t.data.toList.all Wh.digit = true) (h : Wh.dval t.data.toList < 9223372036854775808) :
    Calls Tryd.prog 93 #[.string t, .int .i64 10, .int .i64 63] w fun e w' => e = .returned (.tuple #[.int .u64 (Wh.dval t.data.toList : Nat), .nilIface]) ∧ Below w.heap.size w w' := by
  have H := Lib.hid (parseUint_inner t w hne hmax hd)
  rw [uint63_ok h] at H
  have HB := Lib.hid (below_bytesWorld w 5 t)
  clear hd hne h
  generalize Lib.bytesWorld w 5 t = w1 at *
  generalize Wh.dval t.data.toList = n at *
  go_enter Tryd.func93, Tryd.ntmps93
  go_wp2_with (go_at_call 142; refine H.out.mono ?_; rintro e w' ⟨rfl, hw'⟩; subst w')
  go_ret2
  exact ⟨rfl, HB.out⟩

/-- An error comes back. -/
def UintErr (w : World) (e : Ending) (w' : World) : Prop := ∃ ad, e = .returned (.tuple #[.int .u64 9223372036854775807, .iface 226 (.pointer (some ad))]) ∧ Below w.heap.size w w'

set_option maxHeartbeats 1000000 in
theorem parseUint63_big (t : ByteArray) (w : World) (hE : EnvE w) (hne : ¬ t.size = 0) (hmax : t.size ≤ 281474976710656) (hd : t.data.toList.all Wh.digit = true) (h : ¬ Wh.dval t.data.toList < 9223372036854775808) :
    Calls Tryd.prog 93 #[.string t, .int .i64 10, .int .i64 63] w (UintErr w) := by
  have H := Lib.hid (parseUint_inner t w hne (by omega) hd)
  rw [uint63_big h] at H
  have HB := Lib.hid (below_bytesWorld w 5 t)
  have HE := Lib.hid (hE.under HB.out)
  clear hd hne h hE
  generalize Lib.bytesWorld w 5 t = w1 at *
  obtain ⟨ev, hv, hev⟩ := HE.out
  have HT := Lib.hid (Tryd.strconv_toError_range ⟨#[80, 97, 114, 115, 101, 85, 105, 110, 116]⟩ t 10 63 ev w1 hmax hv hev)
  clear hv hev HE
  go_enter Tryd.func93, Tryd.ntmps93
  go_wp2_with (first | (go_at_call 142; refine H.out.mono ?_; rintro e w' ⟨rfl, hw'⟩; subst w') | (go_at_call 143; refine HT.out.mono ?_; rintro e w2 ⟨N, rfl, _, _, hb2⟩))
  go_ret2
  exact ⟨_, rfl, bTrans HB.out hb2⟩

/-- What strings.Cut at a point returns. -/
def CutPost (s : ByteArray) (w : World) (e : Ending) (w' : World) : Prop :=
  ∃ a b : ByteArray, e = .returned (.tuple #[.string a, .string b, .bool (Wh.hasDot s.data.toList)]) ∧ a.data.toList = s.data.toList.takeWhile (· != 46) ∧ b.data.toList = (s.data.toList.dropWhile (· != 46)).drop 1 ∧ Below w.heap.size w w'

set_option maxHeartbeats 1000000 in
theorem cutLite_dot (s : ByteArray) (w : World) (hs : s.size ≤ 9223372036854775806) : Calls Tryd.prog 145 #[.string s, .string ⟨#[46]⟩] w (CutPost s w) := by
  have HI := Lib.hid (fun W => Tryd.stringslite_Index_one s 46 W)
  have hge := Lib.indexByte_ge s.data.toList 46
  have HN := Lib.hid (@Lib.indexByte_none s.data.toList 46)
  have HS : Hid (∀ o : Nat, Lib.indexByte s.data.toList 46 = o → s.data.toList[o]? = some 46 ∧ ∀ (k : Nat), k < o → s.data.toList[k]? ≠ some 46) := Lib.hid (fun o h => Lib.indexByte_some h)
  generalize Lib.indexByte s.data.toList 46 = v at *
  by_cases hv : v = -1
  · have HC : Hid (Wh.hasDot s.data.toList = false ∧ s.data.toList.takeWhile (· != 46) = s.data.toList ∧ s.data.toList.dropWhile (· != 46) = []) := Lib.hid (by
      have h1 : ∀ b ∈ s.data.toList, b ≠ 46 := fun b hb => by
        obtain ⟨k, hk⟩ := List.getElem?_of_mem hb
        exact fun hbc => HN.out hv k (hbc ▸ hk)
      refine ⟨?_, ?_, ?_⟩
      · rw [Bool.eq_false_iff]
        intro hc
        exact h1 46 (by simpa [Wh.hasDot] using hc) rfl
      · exact Wh.takeWhile_all (fun b hb => by simpa using h1 b hb)
      · exact Wh.dropWhile_nil.2 (fun b hb => by simpa using h1 b hb))
    subst hv
    clear hge HN HS
    go_enter Tryd.func145, Tryd.ntmps145
    go_wp2_with (go_at_call 182; refine (HI.out _).mono ?_; rintro e w' ⟨rfl, hw'⟩; subst w')
    go_ret3
    exact ⟨_, _, by rw [HC.out.1]; rfl, by rw [HC.out.2.1], by rw [HC.out.2.2]; rfl, Below.refl _ _⟩
  · obtain ⟨k, rfl⟩ : ∃ k : Nat, v = k := ⟨v.toNat, by omega⟩
    obtain ⟨h1, h2⟩ := HS.out k rfl
    have hkl : k < s.size := by
      have := (List.getElem?_eq_some_iff.1 h1).1
      rw [← Lib.size_eq] at this
      exact this
    have hw := while_at (fun b : UInt8 => b != 46) s.data.toList k (by
      rw [List.all_eq_true]
      intro b hb
      obtain ⟨j, hj⟩ := List.getElem?_of_mem hb
      have hjk : j < k := by
        have := (List.getElem?_eq_some_iff.1 hj).1
        simp at this
        omega
      rw [List.getElem?_take_of_lt hjk] at hj
      have := h2 j hjk
      simp only [bne_iff_ne, ne_eq]
      rintro rfl
      exact this hj) (fun b hb => by rw [h1] at hb; cases hb; rfl)
    have HW := Lib.hid hw
    have HC : Hid (Wh.hasDot s.data.toList = true) := Lib.hid (by
      have := List.mem_of_getElem? h1
      simpa [Wh.hasDot] using this)
    clear hw h1 h2 hv hge HN HS
    have hk0 : (0 : Int) ≤ (k : Int) := by omega
    have hk1 : (k : Int) ≤ (s.size : Int) := by omega
    have hk2 : (0 : Int) ≤ (k : Int) + 1 := by omega
    have hk3 : (k : Int) + 1 ≤ (s.size : Int) := by omega
    have hwr : IntKind.i64.wrap ((k : Int) + 1) = (k : Int) + 1 := IntWalk.i64_in _ (by omega)
    have htn : ((k : Int) + 1).toNat = k + 1 := by omega
    go_enter Tryd.func145, Tryd.ntmps145
    go_wp2_with (go_at_call 182; refine (HI.out _).mono ?_; rintro e w' ⟨rfl, hw'⟩; subst w')
    go_quiet (fail)
    go_wp2_with fail
    go_ret3
    exact ⟨_, _, by rw [HC.out]; rfl, by rw [HW.out.1]; simp, by rw [HW.out.2, List.drop_drop]; exact Lib.extract_to_end s (k + 1), bDrewN (Below.refl _ _) _⟩

set_option maxHeartbeats 1000000 in
theorem cut_dot (s : ByteArray) (w : World) (hs : s.size ≤ 9223372036854775806) : Calls Tryd.prog 95 #[.string s, .string ⟨#[46]⟩] w (CutPost s w) := by
  have H := Lib.hid (cutLite_dot s w hs)
  go_enter Tryd.func95, Tryd.ntmps95
  go_wp2_with (go_at_call 145; refine H.out.mono ?_; rintro e w' ⟨a, b, rfl, h1, h2, hb⟩; have H1 := Lib.hid h1; have H2 := Lib.hid h2; clear h1 h2)
  go_ret3
  exact ⟨_, _, rfl, H1.out, H2.out, hb⟩

abbrev digitSet : List UInt8 := [48, 49, 50, 51, 52, 53, 54, 55, 56, 57]

theorem digitSet_contains (c : UInt8) : digitSet.contains c = Wh.digit c := by
  have h : ∀ n : Fin 256, digitSet.contains (UInt8.ofNat n.1) = Wh.digit (UInt8.ofNat n.1) := by decide +kernel
  have := h ⟨c.toNat, c.toNat_lt⟩
  simpa using this

theorem trimS_digits (l : List UInt8) : (Lib.trimS l digitSet).isEmpty = l.all Wh.digit := by
  have e : (fun c => digitSet.contains c) = Wh.digit := by funext c; exact digitSet_contains c
  unfold Lib.trimS Lib.trimLeftS Lib.trimRightS
  rw [e, Bool.eq_iff_iff, List.isEmpty_iff, Wh.dropWhile_nil, List.all_eq_true]
  constructor
  · intro h
    have h1 : l.reverse.dropWhile Wh.digit = [] := by
      cases hx : l.reverse.dropWhile Wh.digit with
      | nil => rfl
      | cons b r =>
        have hb : Wh.digit b = false := Wh.dropWhile_head hx
        have := h b (by rw [List.mem_reverse, hx]; simp)
        rw [hb] at this
        cases this
    rw [Wh.dropWhile_nil] at h1
    exact fun x hx => h1 x (List.mem_reverse.2 hx)
  · intro h x hx
    rw [List.mem_reverse] at hx
    exact h x (List.mem_reverse.1 (List.dropWhile_sublist _ |>.subset hx))

/-- strings.Trim at the digits. -/
theorem trim_digits (s : ByteArray) (w : World) (hs : s.size ≤ 9223372036854775807) :
    Calls Tryd.prog 96 #[.string s, .string ⟨#[48, 49, 50, 51, 52, 53, 54, 55, 56, 57]⟩] w fun e w' => e = .returned (.string ⟨(Lib.trimS s.data.toList digitSet).toArray⟩) ∧ Below w.heap.size w w' :=
  Any.strings_Trim_laid Tryd.lays160 (by kernel_rfl) s ⟨#[48, 49, 50, 51, 52, 53, 54, 55, 56, 57]⟩ w hs (by decide) (fun j b hb => by
    have h : ([48, 49, 50, 51, 52, 53, 54, 55, 56, 57] : List UInt8).all (fun b => decide (b.toNat < 128)) = true := by decide
    exact of_decide_eq_true (List.all_eq_true.1 h b (List.mem_of_getElem? hb)))
end Go.Proofs.YtjfnkkpmmebnfaaDoor
