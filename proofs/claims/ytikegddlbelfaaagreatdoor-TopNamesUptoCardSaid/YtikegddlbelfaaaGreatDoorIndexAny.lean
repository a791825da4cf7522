/-
  strings.ContainsAny at every string and an ASCII set of bytes.
-/
import Derived.Test.YtikegddlbelfaaaGreatDoorBase
namespace Go.Proofs.YtikegddlbelfaaaGreatDoor
open Go.RowKit

theorem decode_high (s : ByteArray) (i : Nat) (hi : i < s.size) (h : 128 ≤ (s[i]'hi).toNat) :
    128 ≤ (Utf8.decode s i).1 ∧ 1 ≤ (Utf8.decode s i).2 ∧ ∀ k, k < (Utf8.decode s i).2 → ∃ hk : i + k < s.size, 128 ≤ (s[i + k]'hk).toNat := by
  have hg : (s.get! (i + 0)).toNat = (s[i]'hi).toNat := by
    have : s.get! (i + 0) = s[i]'hi := by
      show s.data[i]! = s.data[i]
      exact getElem!_pos s.data i hi
    rw [this]
  have hone : ∀ k, k < 1 → ∃ hk : i + k < s.size, 128 ≤ (s[i + k]'hk).toNat := by
    intro k hk
    obtain rfl : k = 0 := by omega
    exact ⟨hi, h⟩
  have hcont : ∀ k, (decide (i + k < s.size) && (s.get! (i + k)).toNat / 64 == 2) = true → ∃ hk : i + k < s.size, 128 ≤ (s[i + k]'hk).toNat := by
    intro k hk
    simp only [Bool.and_eq_true, decide_eq_true_eq, beq_iff_eq] at hk
    obtain ⟨h1, h2⟩ := hk
    refine ⟨h1, ?_⟩
    have : s.get! (i + k) = s[i + k]'h1 := by
      show s.data[i + k]! = s.data[i + k]
      exact getElem!_pos s.data (i + k) h1
    rw [this] at h2
    omega
  unfold Utf8.decode
  simp only [hg]
  rw [if_neg (by omega)]
  have hE : (128 : Nat) ≤ Utf8.runeError := by decide
  by_cases c2 : ((s[i]'hi).toNat / 32 == 6 && (decide (i + 1 < s.size) && (s.get! (i + 1)).toNat / 64 == 2)) = true
  · rw [if_pos c2]
    rw [Bool.and_eq_true] at c2
    split
    · rename_i hc
      refine ⟨hc, by show 1 ≤ 2; omega, fun k hk => ?_⟩
      have hk' : k < 2 := hk
      rcases (by omega : k = 0 ∨ k = 1) with rfl | rfl
      · exact ⟨hi, h⟩
      · exact hcont 1 c2.2
    · exact ⟨hE, Nat.le_refl _, hone⟩
  · rw [if_neg c2]
    by_cases c3 : ((s[i]'hi).toNat / 16 == 14 && (decide (i + 1 < s.size) && (s.get! (i + 1)).toNat / 64 == 2) && (decide (i + 2 < s.size) && (s.get! (i + 2)).toNat / 64 == 2)) = true
    · rw [if_pos c3]
      simp only [Bool.and_eq_true] at c3
      split
      · rename_i hc
        simp only [Bool.and_eq_true, decide_eq_true_eq] at hc
        refine ⟨by omega, by show 1 ≤ 3; omega, fun k hk => ?_⟩
        have hk' : k < 3 := hk
        rcases (by omega : k = 0 ∨ k = 1 ∨ k = 2) with rfl | rfl | rfl
        · exact ⟨hi, h⟩
        · exact hcont 1 (by simp only [Bool.and_eq_true]; exact c3.1.2)
        · exact hcont 2 (by simp only [Bool.and_eq_true]; exact c3.2)
      · exact ⟨hE, Nat.le_refl _, hone⟩
    · rw [if_neg c3]
      by_cases c4 : ((s[i]'hi).toNat / 8 == 30 && (decide (i + 1 < s.size) && (s.get! (i + 1)).toNat / 64 == 2) && (decide (i + 2 < s.size) && (s.get! (i + 2)).toNat / 64 == 2) && (decide (i + 3 < s.size) && (s.get! (i + 3)).toNat / 64 == 2)) = true
      · rw [if_pos c4]
        simp only [Bool.and_eq_true] at c4
        split
        · rename_i hc
          simp only [Bool.and_eq_true, decide_eq_true_eq] at hc
          refine ⟨by omega, by show 1 ≤ 4; omega, fun k hk => ?_⟩
          have hk' : k < 4 := hk
          rcases (by omega : k = 0 ∨ k = 1 ∨ k = 2 ∨ k = 3) with rfl | rfl | rfl | rfl
          · exact ⟨hi, h⟩
          · exact hcont 1 (by simp only [Bool.and_eq_true]; exact c4.1.1.2)
          · exact hcont 2 (by simp only [Bool.and_eq_true]; exact c4.1.2)
          · exact hcont 3 (by simp only [Bool.and_eq_true]; exact c4.2)
        · exact ⟨hE, Nat.le_refl _, hone⟩
      · rw [if_neg c4]
        exact ⟨hE, Nat.le_refl _, hone⟩

set_option maxHeartbeats 1000000 in
set_option maxRecDepth 100000 in
theorem indexRune_error (s : ByteArray) (w : World) (hs : ∀ b ∈ s.data.toList, b.toNat < 128) :
    Calls Tryz.prog 77 #[.string s, .int .i32 65533] w fun e w' => e = .returned (.int .i64 (-1)) ∧ Below w.heap.size w w' := by
  have HS := Lib.hid hs
  clear hs
  go_enter Tryz.func77, Tryz.ntmps77
  go_wp2
  go_loopg [5, 6] s.size (fun g _ _ wx => ∃ i : Nat, i + g = s.size ∧ wx = w.iter s i)
  case atStart => exact ⟨0, by omega, rfl⟩
  case round =>
    obtain ⟨i, hig, rfl⟩ := hrel
    cases gk with
    | zero =>
      obtain rfl : i = s.size := by omega
      have hnx := run_next_end (P := Tryz.prog) w s s.size
      go_wp2
      go_ret
      exact ⟨rfl, (Below.refl _ _).alloc (Nat.le_refl _) _⟩
    | succ g =>
      have hi : i < s.size := by omega
      obtain ⟨x, hx⟩ : ∃ x : UInt8, s[i]'hi = x := ⟨_, rfl⟩
      have hxl : s.data.toList[i]? = some x := by rw [← hx]; exact Lib.data_getElem? s i hi
      have hx128 : x.toNat < 128 := HS.out x (List.mem_of_getElem? hxl)
      have hnx := fun ty => run_next_ascii (P := Tryz.prog) w s i ty hi (by rw [hx]; exact hx128)
      rw [hx] at hnx
      clear hxl hx
      have hne : ((x.toNat : Int) == 65533) = false := beq_eq_false_iff_ne.2 (by omega)
      go_wp2
      go_roundg g
      case measure => omega
      case rel => exact ⟨i + 1, by omega, rfl⟩

set_option maxHeartbeats 1000000 in
set_option maxRecDepth 100000 in
theorem indexRune_bad (s : ByteArray) (r : Int) (w : World) (h0 : 128 ≤ r) (hne : r ≠ 65533) (hv : Lib.validRune r = false) :
    Calls Tryz.prog 77 #[.string s, .int .i32 r] w fun e w' => e = .returned (.int .i64 (-1)) ∧ Below w.heap.size w w' := by
  have hr : (r == 65533) = false := beq_eq_false_iff_ne.2 hne
  clear hne
  go_enter Tryz.func77, Tryz.ntmps77
  go_wp2_with (go_at_call 103; refine (Tryz.utf8_ValidRune _ _).mono ?_; rw [hv]; rintro e w' ⟨rfl, rfl⟩)
  go_ret
  exact ⟨rfl, Below.refl _ _⟩

set_option maxHeartbeats 1000000 in
set_option maxRecDepth 100000 in
theorem indexRune_good (s : ByteArray) (r : Int) (w : World) (h0 : 128 ≤ r) (hne : r ≠ 65533) (hv : Lib.validRune r = true) (hs : ∀ b ∈ s.data.toList, b.toNat < 128) (hsz : s.size < 4294967281) :
    Calls Tryz.prog 77 #[.string s, .int .i32 r] w fun e w' => e = .returned (.int .i64 (-1)) ∧ Below w.heap.size w w' := by
  have hr : (r == 65533) = false := beq_eq_false_iff_ne.2 hne
  have h128 : decide (r < 128) = false := decide_eq_false (by omega)
  have HS := Lib.hid hs
  obtain ⟨f1, f2, f3⟩ := encode_facts r (by rw [validRune_eq]; exact hv) h0
  clear hne hs
  go_enter Tryz.func77, Tryz.ntmps77
  go_wp2_with (go_at_call 103; refine (Tryz.utf8_ValidRune _ _).mono ?_; rw [hv]; rintro e w' ⟨rfl, rfl⟩)
  go_step3
  go_wp2_with fail
  generalize Utf8.encode r = rs at *
  obtain ⟨n, hn⟩ : ∃ n, n = rs.size - 1 := ⟨_, rfl⟩
  have e1 : ((rs.size : Int) - 1) = (n : Int) := by omega
  simp only [e1]
  have hnr : n < rs.size := by omega
  have hy : 128 ≤ (rs[n]'hnr).toNat := by
    have := f3 (by omega)
    simpa [hn] using this
  obtain ⟨y, hyy⟩ : ∃ y, rs[n]'hnr = y := ⟨_, rfl⟩
  rw [hyy] at hy
  clear f1 f2 f3 e1 hn
  refine wp_loop_rounds 1 ?_
  rw [rounds_succ]
  by_cases hlt : n < s.size
  · obtain ⟨x, hxx⟩ : ∃ x, s[n]'hlt = x := ⟨_, rfl⟩
    have hx : x.toNat < 128 := HS.out x (by rw [← hxx]; exact Array.getElem_mem_toList (xs := s.data) hlt)
    have hne : (x != y) = true := by rw [bne_iff_ne]; rintro rfl; omega
    have hib : ∀ W, Calls Tryz.prog 54 #[.string (s.extract (n + 1) s.size), .int .u8 (y.toNat : Int)] W fun e w' => e = .returned (.int .i64 (-1)) ∧ w' = W := fun W => by
      refine (Tryz.strings_IndexByte _ _ _).mono ?_
      rintro e w' ⟨rfl, rfl⟩
      refine ⟨ret_int ?_, rfl⟩
      rw [indexByte_miss]
      intro b hb
      have := HS.out b (mem_extract hb)
      intro hh
      subst hh
      simp at this
      omega
    have HI := Lib.hid hib
    clear hib
    go_wp2_with fail
    go_step3
    go_wp2_with fail
    go_quiet (fail)
    go_wp2_with fail
    go_quiet ((go_at_call 54; exact quietAfter (HI.out _)))
    go_wp2_with fail
    rw [Exit.noGoto_ret]
    go_wp2_with fail
    rw [Exit.noGoto_ret]
    go_ret
    exact ⟨rfl, bDrewN (Below.refl _ _) _⟩
  · go_wp2_with fail
    rw [Exit.noGoto_ret]
    go_ret
    exact ⟨rfl, Below.refl _ _⟩

/-- A rune beyond ASCII stands nowhere in an ASCII text. -/
theorem indexRune_high (s : ByteArray) (r : Int) (w : World) (h0 : 128 ≤ r) (hs : ∀ b ∈ s.data.toList, b.toNat < 128) (hsz : s.size < 4294967281) :
    Calls Tryz.prog 77 #[.string s, .int .i32 r] w fun e w' => e = .returned (.int .i64 (-1)) ∧ Below w.heap.size w w' := by
  by_cases hr : r = 65533
  · subst hr; exact indexRune_error s w hs
  · cases hv : Lib.validRune r
    · exact indexRune_bad s r w h0 hr hv
    · exact indexRune_good s r w h0 hr hv hs hsz

theorem noAny_high {s : ByteArray} {chars : List UInt8} {i n : Nat} (h : Lib.NoAny s.data.toList chars i) (hc : ∀ b ∈ chars, b.toNat < 128)
    (hh : ∀ k, k < n → ∃ hk : i + k < s.size, 128 ≤ (s[i + k]'hk).toNat) : Lib.NoAny s.data.toList chars (i + n) := by
  induction n with
  | zero => exact h
  | succ n ih =>
    have ih := ih (fun k hk => hh k (by omega))
    obtain ⟨hk, hx⟩ := hh n (by omega)
    refine ih.succ (x := s[i + n]'hk) (Lib.data_getElem? s _ hk) ?_
    cases hcc : chars.contains (s[i + n]'hk) with
    | false => rfl
    | true =>
      have := hc _ (List.contains_iff_mem.1 hcc)
      omega

set_option maxHeartbeats 1000000 in
set_option maxRecDepth 100000 in
theorem indexAny_short (s chars : ByteArray) (w : World) (h2 : 2 ≤ chars.size) (h8 : s.size ≤ 8) (hcz : chars.size < 4294967281) (hc : ∀ b ∈ chars.data.toList, b.toNat < 128) :
    Calls Tryz.prog 56 #[.string s, .string chars] w fun e w' => e = .returned (.int .i64 (Lib.indexAny s.data.toList chars.data.toList)) ∧ Below w.heap.size w w' := by
  have HC := Lib.hid hc
  clear hc
  have hemp : chars.toList.isEmpty = false := by
    rw [Lib.toList_data]
    cases h : chars.data.toList with
    | nil => have := Lib.size_eq chars; rw [h, List.length_nil] at this; omega
    | cons _ _ => rfl
  have hn1 : ((chars.size : Int) == 1) = false := beq_eq_false_iff_ne.2 (by omega)
  have h8z : decide ((8 : Int) < (s.size : Int)) = false := decide_eq_false (by omega)
  go_enter Tryz.func56, Tryz.ntmps56
  go_wp2_with (go_at_call 78; refine (Tryz.strings_shouldUseASCIISet _ _).mono ?_; rintro e w' ⟨rfl, hw⟩; rw [hw, h8z])
  go_loopg [9, 10] s.size (fun g _ _ wx => ∃ pos : Nat, wx.heap[w.heap.size]? = some (.stringIter s pos) ∧ Below w.heap.size w wx ∧ pos ≤ s.size ∧ s.size ≤ pos + g ∧ Hid (Lib.NoAny s.data.toList chars.data.toList pos))
  case atStart => exact ⟨0, World.iter_heap w s 0, (Below.refl _ w).alloc (Nat.le_refl _) _, by omega, by omega, Lib.hid (Lib.NoAny.zero _ _)⟩
  case round =>
    obtain ⟨pos, hit, hbw, hps, hpg, HN⟩ := hrel
    have hsz : w.heap.size < wr.heap.size := (Array.getElem?_eq_some_iff.1 hit).1
    by_cases hp : pos < s.size
    · obtain ⟨g, rfl⟩ : ∃ g, gk = g + 1 := ⟨gk - 1, by omega⟩
      have hnx : ∀ ty, (Instr.next (.pointer (some ⟨w.heap.size, 0, none⟩)) true ty).run Tryz.prog wr = _ := fun ty => Lib.run_next_any_at wr w.heap.size s pos ty hit hp
      obtain ⟨x, hx⟩ : ∃ x : UInt8, s[pos]'hp = x := ⟨_, rfl⟩
      have hxl : s.data.toList[pos]? = some x := by rw [← hx]; exact Lib.data_getElem? s pos hp
      have Hx := Lib.hid hxl
      clear hxl
      by_cases h128 : x.toNat < 128
      · rw [decode_ascii s pos hp (by rw [hx]; exact h128), hx] at hnx
        have hit2 := Lib.iterAt_heap wr w.heap.size s pos (pos + 1) hit
        have hbw2 := Lib.below_iterAt hbw (k := w.heap.size) (Nat.le_refl _) s (pos + 1)
        obtain ⟨W, hWd⟩ : ∃ W, wr.iterAt w.heap.size s (pos + 1) = W := ⟨_, rfl⟩
        simp only [hWd] at hnx hit2 hbw2
        have hcon := Lib.contains_iff_indexByte chars.data.toList x
        have hback : ((x.toNat : Int)).toNat.toUInt8 = x := by simp
        clear hx hWd
        cases hin : chars.data.toList.contains x
        · rw [hin] at hcon
          have hlt : ¬ ((0 : Int) ≤ Lib.indexByte chars.data.toList x) := of_decide_eq_false hcon.symm
          clear hcon
          go_wp2_with (go_at_call 77; refine (Tryz.strings_IndexRune_ascii _ _ _ (by omega) (by omega)).mono ?_; rintro e w' ⟨rfl, hw⟩; rw [hw, hback])
          go_roundg g
          case measure => omega
          case rel => exact ⟨pos + 1, hit2, hbw2, by omega, by omega, Lib.hid (HN.out.succ Hx.out hin)⟩
        · rw [hin] at hcon
          have hge : (0 : Int) ≤ Lib.indexByte chars.data.toList x := of_decide_eq_true hcon.symm
          clear hcon
          go_wp2_with (go_at_call 77; refine (Tryz.strings_IndexRune_ascii _ _ _ (by omega) (by omega)).mono ?_; rintro e w' ⟨rfl, hw⟩; rw [hw, hback])
          go_ret
          exact ⟨by rw [Lib.indexAny_hit HN.out Hx.out hin]; rfl, hbw2⟩
      · obtain ⟨d1, d2, d3⟩ := decode_high s pos hp (by rw [hx]; omega)
        have hno := noAny_high HN.out HC.out d3
        have hle : pos + (Utf8.decode s pos).2 ≤ s.size := by
          obtain ⟨hk, _⟩ := d3 ((Utf8.decode s pos).2 - 1) (by omega)
          omega
        clear d3
        have HN2 := Lib.hid hno
        clear hno
        generalize (Utf8.decode s pos).1 = R at *
        generalize (Utf8.decode s pos).2 = K at *
        have hit2 := Lib.iterAt_heap wr w.heap.size s pos (pos + K) hit
        have hbw2 := Lib.below_iterAt hbw (k := w.heap.size) (Nat.le_refl _) s (pos + K)
        obtain ⟨W, hWd⟩ : ∃ W, wr.iterAt w.heap.size s (pos + K) = W := ⟨_, rfl⟩
        simp only [hWd] at hnx hit2 hbw2
        clear hx hWd
        have hWs : w.heap.size < W.heap.size := (Array.getElem?_eq_some_iff.1 hit2).1
        go_wp2_with (go_at_call 77; refine (indexRune_high chars (R : Int) _ (by omega) HC.out hcz).mono ?_; rintro e w' ⟨rfl, hb⟩)
        go_roundg g
        case measure => omega
        case rel => exact ⟨pos + K, (hb.block w.heap.size hWs).trans hit2, hbw2.trans (hb.mono (by omega)), by omega, by omega, HN2⟩
    · have hnx : ∀ ty, (Instr.next (.pointer (some ⟨w.heap.size, 0, none⟩)) true ty).run Tryz.prog wr = _ := fun ty => Lib.run_next_end_at wr w.heap.size s pos ty hit hp
      obtain rfl : pos = s.size := by omega
      go_wp2
      go_ret
      exact ⟨by rw [Lib.indexAny_none (by rw [← Lib.size_eq]; exact HN.out)]; rfl, hbw⟩

theorem ascii_at {l : List UInt8} (h : ∀ b ∈ l, b.toNat < 128) (j : Nat) (b : UInt8) (hj : l[j]? = some b) : b.toNat < 128 := h b (List.mem_of_getElem? hj)

theorem zero256 : ∀ w, (zeroValue 123).run Tryz.prog w = .ok (.agg (Array.replicate 256 (.bool false))) w := fun w => by kernel_rfl

/-- strings.IndexAny at every text and an ASCII set of bytes. -/
theorem indexAny_any (s chars : ByteArray) (w : World) (hs : s.size < 4294967281) (hcs : chars.size < 4294967281) (hc : ∀ b ∈ chars.data.toList, b.toNat < 128) :
    Calls Tryz.prog 56 #[.string s, .string chars] w fun e w' => e = .returned (.int .i64 (Lib.indexAny s.data.toList chars.data.toList)) ∧ Below w.heap.size w w' := by
  by_cases h0 : chars.size = 0
  · exact (Tryz.strings_IndexAny_none s chars w h0).mono fun e w' ⟨h1, h2⟩ => ⟨h1, h2 ▸ Below.refl _ _⟩
  by_cases h1 : chars.size = 1
  · exact (Tryz.strings_IndexAny_one s chars w h1 (ascii_at hc)).mono fun e w' ⟨h1, h2⟩ => ⟨h1, h2 ▸ Below.refl _ _⟩
  by_cases h8 : s.size ≤ 8
  · exact indexAny_short s chars w (by omega) h8 hcs hc
  · refine (Tryz.strings_IndexAny_long zero256 s chars w (by omega) (by omega) hs hcs (ascii_at hc)).mono fun e w' ⟨h1, h2⟩ => ⟨h1, ?_⟩
    rw [h2]
    exact bAlloc (bAlloc (Below.refl _ _) _) _

set_option maxHeartbeats 1000000 in
/-- strings.ContainsAny at every text and an ASCII set of bytes. -/
theorem containsAny_any (s chars : ByteArray) (w : World) (hs : s.size < 4294967281) (hcs : chars.size < 4294967281) (hc : ∀ b ∈ chars.data.toList, b.toNat < 128) :
    Calls Tryz.prog 26 #[.string s, .string chars] w fun e w' => e = .returned (.bool (Lib.containsAny s.data.toList chars.data.toList)) ∧ Below w.heap.size w w' := by
  have HC := Lib.hid hc
  clear hc
  go_enter Tryz.func26, Tryz.ntmps26
  go_wp2_with (go_at_call 56; refine (indexAny_any s chars _ hs hcs HC.out).mono ?_; rintro e w' ⟨rfl, hw⟩)
  go_ret
  exact ⟨rfl, hw⟩
end Go.Proofs.YtikegddlbelfaaaGreatDoor
