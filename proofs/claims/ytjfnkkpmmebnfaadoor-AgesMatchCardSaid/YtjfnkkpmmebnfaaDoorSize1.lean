/-
  names.leading, names.number, names.times.
-/
import Derived.Test.YtjfnkkpmmebnfaaDoorPlainSize
import Derived.Test.YtjfnkkpmmebnfaaDoorBytes
namespace Go.Proofs.YtjfnkkpmmebnfaaDoor
open Go.RowKit

theorem while_at {α : Type} (p : α → Bool) (l : List α) (k : Nat) (h1 : (l.take k).all p = true) (h2 : ∀ b, l[k]? = some b → p b = false) : l.takeWhile p = l.take k ∧ l.dropWhile p = l.drop k := by
  have e : l = l.take k ++ l.drop k := (List.take_append_drop k l).symm
  have h3 : (l.drop k).takeWhile p = [] := by
    cases h : l.drop k with
    | nil => rfl
    | cons b r =>
      have : l[k]? = some b := by
        have := congrArg (·[0]?) h
        simpa using this
      simp [h2 b this]
  have h4 : (l.drop k).dropWhile p = l.drop k := by
    cases h : l.drop k with
    | nil => rfl
    | cons b r =>
      have : l[k]? = some b := by
        have := congrArg (·[0]?) h
        simpa using this
      simp [h2 b this]
  have h5 : ∀ x ∈ l.take k, p x = true := fun x hx => List.all_eq_true.1 h1 x hx
  constructor
  · conv => lhs; rw [e]
    rw [List.takeWhile_append_of_pos h5, h3, List.append_nil]
  · conv => lhs; rw [e]
    rw [List.dropWhile_append_of_pos h5, h4]

/-- What names.leading returns. -/
def LeadPost (s : ByteArray) (w : World) (e : Ending) (w' : World) : Prop :=
  ∃ d r : ByteArray, e = .returned (.tuple #[.string d, .string r]) ∧ d.data.toList = s.data.toList.takeWhile Wh.digit ∧ r.data.toList = s.data.toList.dropWhile Wh.digit ∧ Below w.heap.size w w'

set_option maxHeartbeats 1000000 in
theorem leading_any (s : ByteArray) (w : World) (hs : s.size ≤ 9223372036854775807) : Calls Tryd.prog 86 #[.string s] w (LeadPost s w) := by
  go_enter Tryd.func86, Tryd.ntmps86
  go_wp2_with fail
  go_loopg [4] s.size (fun g s4 wx => ∃ k : Nat, k + g = s.size ∧ s4 = .int .i64 k ∧ wx = w ∧ Hid ((s.data.toList.take k).all Wh.digit = true))
  case atStart => exact ⟨0, by omega, rfl, rfl, Lib.hid rfl⟩
  case round =>
    obtain ⟨k, hk, rfl, hw, HD⟩ := hrel
    subst wr
    have hk0 : (0 : Int) ≤ (k : Int) := by omega
    have hk1 : (k : Int) ≤ (s.size : Int) := by omega
    by_cases hlt : k < s.size
    · obtain ⟨g, rfl⟩ : ∃ g, gk = g + 1 := ⟨gk - 1, by omega⟩
      obtain ⟨x, hx⟩ : ∃ x : UInt8, s[k]'hlt = x := ⟨_, rfl⟩
      have hxl : s.data.toList[k]? = some x := by rw [← hx]; exact Lib.data_getElem? s k hlt
      have HX := Lib.hid hxl
      clear hxl
      have hB := fun W => digit_any x W
      cases hdx : Wh.digit x
      · have HW := Lib.hid (while_at Wh.digit s.data.toList k HD.out (fun b hb => by rw [HX.out] at hb; cases hb; exact hdx))
        rw [hdx] at hB
        have HB := Lib.hid hB
        clear hB hdx HD
        go_wp2_with (go_at_call 136; refine (HB.out _).mono ?_; rintro e w' ⟨rfl, hw'⟩; subst w')
        go_quiet (fail)
        go_wp2_with fail
        go_ret2
        exact ⟨_, _, rfl, by rw [HW.out.1]; simp, by rw [HW.out.2]; exact Lib.extract_to_end s k, bDrewN (Below.refl _ _) _⟩
      · have HN : Hid ((s.data.toList.take (k + 1)).all Wh.digit = true) := Lib.hid (by rw [List.take_add_one, HX.out]; simp [HD.out, hdx])
        rw [hdx] at hB
        have HB := Lib.hid hB
        clear hB hdx HD
        go_wp2_with (go_at_call 136; refine (HB.out _).mono ?_; rintro e w' ⟨rfl, hw'⟩; subst w')
        go_roundg g
        case measure => omega
        case rel => exact ⟨k + 1, by omega, by go_num, rfl, HN⟩
    · have HW := Lib.hid (while_at Wh.digit s.data.toList k HD.out (fun b hb => by
        have := (List.getElem?_eq_some_iff.1 hb).1
        rw [← Lib.size_eq] at this
        omega))
      clear HD
      go_wp2_with fail
      go_quiet (fail)
      go_wp2_with fail
      go_ret2
      exact ⟨_, _, rfl, by rw [HW.out.1]; simp, by rw [HW.out.2]; exact Lib.extract_to_end s k, bDrewN (Below.refl _ _) _⟩

theorem toList_isEmpty (s : ByteArray) : s.toList.isEmpty = decide (s.size = 0) := by
  rw [Bool.eq_iff_iff, Lib.toList_data, List.isEmpty_iff, decide_eq_true_eq, Lib.size_eq, List.length_eq_zero_iff]

theorem head_at {s : ByteArray} (h : 0 < s.size) : s.data.toList.head? = some (s[0]'h) := by
  rw [List.head?_eq_getElem?]
  exact Lib.data_getElem? s 0 h

set_option maxHeartbeats 1000000 in
theorem number_bad (s : ByteArray) (w : World) (h : Wh.numOk s.data.toList = false) :
    Calls Tryd.prog 87 #[.string s] w fun e w' => e = .returned (.tuple #[.int .i64 0, .bool false]) ∧ w' = w := by
  have q := toList_isEmpty s
  have hsz := Lib.size_eq s
  by_cases h0 : s.size = 0
  · have q1 : s.toList.isEmpty = true := by rw [q]; simpa using h0
    have q2 : s.toList = [] := List.isEmpty_iff.1 q1
    clear q hsz h h0
    go_enter Tryd.func87, Tryd.ntmps87
    go_wp2_with fail
    go_ret2
    exact ⟨rfl, rfl⟩
  · have q1 : s.toList.isEmpty = false := by rw [q]; simpa using h0
    have hp : 0 < s.size := by omega
    have hh := head_at hp
    have hne : s.data.toList.isEmpty = false := by
      cases hl : s.data.toList with
      | nil => rw [hl] at hsz; exact absurd hsz h0
      | cons _ _ => rfl
    unfold Wh.numOk at h
    rw [hne, hh, ← hsz] at h
    simp at h
    have h1 : 1 < s.size := h.1
    have h48 : ((s[0]'hp).toNat : Int) == 48 := by rw [h.2]; rfl
    clear q hsz h h0 hh hne
    go_enter Tryd.func87, Tryd.ntmps87
    go_wp2_with fail
    go_ret2
    exact ⟨rfl, rfl⟩

theorem numV_big {d : List UInt8} (h : Wh.most < Wh.dval d) : Wh.numV d = Wh.most + 1 := by unfold Wh.numV; rw [if_neg (Nat.not_le.2 h)]
theorem numV_small {d : List UInt8} (h : Wh.dval d ≤ Wh.most) : Wh.numV d = Wh.dval d := by unfold Wh.numV; rw [if_pos h]

set_option maxHeartbeats 2000000 in
set_option maxRecDepth 100000 in
theorem number_ok (s : ByteArray) (w : World) (hs : s.size ≤ 9223372036854775807) (hd : s.data.toList.all Wh.digit = true) (h : Wh.numOk s.data.toList = true) :
    Calls Tryd.prog 87 #[.string s] w fun e w' => e = .returned (.tuple #[.int .i64 (Wh.numV s.data.toList : Nat), .bool true]) ∧ w' = w := by
  have q := toList_isEmpty s
  have hsz := Lib.size_eq s
  have h0 : ¬ s.size = 0 := by
    intro h0
    have : s.data.toList = [] := List.eq_nil_of_length_eq_zero (by omega)
    rw [this] at h
    simp [Wh.numOk] at h
  have q1 : s.toList.isEmpty = false := by rw [q]; simpa using h0
  have hp : 0 < s.size := by omega
  have hh := head_at hp
  unfold Wh.numOk at h
  rw [hh, ← hsz] at h
  simp at h
  have hor : s.size ≤ 1 ∨ (1 < s.size ∧ (((s[0]'hp).toNat : Int) == 48) = false) := by
    rcases Nat.lt_or_ge 1 s.size with h1 | h1
    · refine .inr ⟨h1, ?_⟩
      rw [Wh.byte_is (s[0]'hp) 48 48 rfl]
      rcases h.2 with h2 | h2
      · omega
      · simpa using h2
    · exact .inl h1
  have HB := Lib.hid (@numV_big s.data.toList)
  have HS := Lib.hid (@numV_small s.data.toList)
  have HD := Lib.hid hd
  have HSz := Lib.hid hsz
  clear q h0 hh h hd hsz
  generalize Wh.numV s.data.toList = NV at *
  rcases hor with h1 | ⟨h1, h48⟩
  all_goals
    go_enter Tryd.func87, Tryd.ntmps87
    go_wp2_with fail
    go_loopg [4, 21] s.size (fun g s4 s21 wx => ∃ k : Nat, k + g = s.size ∧ s21 = .int .i64 k ∧ wx = w ∧ ∃ n : Nat, n ≤ 4611686018427387904 ∧ s4 = .int .i64 n ∧ Hid (Wh.dval (s.data.toList.take k) = n))
    case atStart => exact ⟨0, by omega, rfl, rfl, 0, by omega, rfl, Lib.hid rfl⟩
    case round =>
      obtain ⟨k, hk, rfl, hw, n, hn, rfl, HV⟩ := hrel
      subst wr
      by_cases hlt : k < s.size
      · obtain ⟨g, rfl⟩ : ∃ g, gk = g + 1 := ⟨gk - 1, by omega⟩
        obtain ⟨x, hx⟩ : ∃ x : UInt8, s[k]'hlt = x := ⟨_, rfl⟩
        have hxl : s.data.toList[k]? = some x := by rw [← hx]; exact Lib.data_getElem? s k hlt
        have hdx : 48 ≤ x.toNat ∧ x.toNat ≤ 57 := by
          have := List.all_eq_true.1 HD.out x (List.mem_of_getElem? hxl)
          simpa [Wh.digit] using this
        obtain ⟨hd1, hd2⟩ := hdx
        have HN : Hid (Wh.dval (s.data.toList.take (k + 1)) = 10 * n + (x.toNat - 48)) := Lib.hid (by rw [List.take_add_one, hxl, Option.toList_some, Wh.dval_snoc, HV.out]; rfl)
        clear hxl HV
        by_cases hbig : 4611686018427387904 < 10 * n + (x.toNat - 48)
        · have HK : Hid (NV = 4611686018427387905) := Lib.hid (by
            refine HB.out ?_
            have := Wh.dval_mono (s.data.toList.take (k + 1)) (s.data.toList.drop (k + 1))
            rw [List.take_append_drop, HN.out] at this
            exact Nat.lt_of_lt_of_le hbig this)
          have hq : (4611686018427387904 - ((x.toNat : Int) - 48)) / 10 < (n : Int) := by omega
          go_wp2_with fail
          go_ret2
          exact ⟨by rw [HK.out]; rfl, rfl⟩
        · have hq : ¬ (4611686018427387904 - ((x.toNat : Int) - 48)) / 10 < (n : Int) := by omega
          go_wp2_with fail
          go_roundg g
          case measure => omega
          case rel => exact ⟨k + 1, by omega, by go_num, rfl, 10 * n + (x.toNat - 48), by omega, by go_num, HN⟩
      · have HK : Hid (NV = n) := Lib.hid (by
          have h2 := HV.out
          rw [List.take_of_length_le (by rw [← HSz.out]; omega)] at h2
          rw [← h2]
          exact HS.out (by rw [h2]; exact hn))
        go_wp2_with fail
        go_ret2
        exact ⟨by rw [HK.out]; rfl, rfl⟩

set_option maxHeartbeats 1000000 in
theorem times_any (n u : Nat) (w : World) (hu : 1 ≤ u) (hu2 : u ≤ 4611686018427387904) :
    Calls Tryd.prog 89 #[.int .i64 n, .int .i64 u] w fun e w' => e = .returned (.int .i64 (Wh.timesV n u : Nat)) ∧ w' = w := by
  have hle : n ≤ Wh.most / u ↔ n * u ≤ Wh.most := Nat.le_div_iff_mul_le hu
  by_cases h : n * u ≤ Wh.most
  · have HT : Hid (Wh.timesV n u = n * u) := Lib.hid (by unfold Wh.timesV; rw [if_pos (hle.2 h)])
    have hp : ((n * u : Nat) : Int) ≤ 4611686018427387904 := Int.ofNat_le.2 h
    have hq : 0 ≤ ((n * u : Nat) : Int) := Int.natCast_nonneg _
    rw [Int.natCast_mul] at hp hq
    have hd : ¬ (4611686018427387904 : Int) / (u : Int) < (n : Int) := by
      have h1 : n ≤ 4611686018427387904 / u := hle.2 h
      have h2 : ((4611686018427387904 / u : Nat) : Int) = (4611686018427387904 : Int) / (u : Int) := Int.natCast_ediv _ _
      rw [← h2]
      exact Int.not_lt.2 (Int.ofNat_le.2 h1)
    clear hle h
    generalize Wh.timesV n u = T at *
    go_enter Tryd.func89, Tryd.ntmps89
    go_wp2_with fail
    go_ret
    exact ⟨ret_int (by rw [HT.out, Int.natCast_mul]), rfl⟩
  · have HT : Hid (Wh.timesV n u = 4611686018427387905) := Lib.hid (by unfold Wh.timesV; rw [if_neg (fun hh => h (hle.1 hh))])
    have hd : (4611686018427387904 : Int) / (u : Int) < (n : Int) := by
      have h1 : ¬ n ≤ 4611686018427387904 / u := fun hh => h (hle.1 hh)
      have h2 : ((4611686018427387904 / u : Nat) : Int) = (4611686018427387904 : Int) / (u : Int) := Int.natCast_ediv _ _
      rw [← h2]
      exact Int.ofNat_lt.2 (Nat.lt_of_not_le h1)
    clear hle h
    generalize Wh.timesV n u = T at *
    go_enter Tryd.func89, Tryd.ntmps89
    go_wp2_with fail
    go_ret
    exact ⟨ret_int (by rw [HT.out]; rfl), rfl⟩
end Go.Proofs.YtjfnkkpmmebnfaaDoor
