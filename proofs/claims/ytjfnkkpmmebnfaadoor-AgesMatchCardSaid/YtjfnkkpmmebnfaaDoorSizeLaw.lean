/-
  The law SizesMatch, walked.
-/
import Derived.Test.YtjfnkkpmmebnfaaDoorSize5
import Derived.Test.YtjfnkkpmmebnfaaDoorPlainSize3
namespace Go.Proofs.YtjfnkkpmmebnfaaDoor
open Go.RowKit

theorem numS_data {n : Int} (h : 0 ≤ n) : (numS n).data.toList = Lib.decDigits n.toNat := by
  have : (numS n).data.toList = Lib.itoa n := by unfold numS; simp
  rw [this, Lib.itoa, if_neg (by omega)]

theorem numS_cat {n : Int} (h : 0 ≤ n) (c : UInt8) : (numS n ++ ⟨#[c]⟩ : ByteArray).data.toList = Lib.decDigits n.toNat ++ [c] := by
  rw [ByteArray.data_append, Array.toList_append, numS_data h]

theorem read_cat (n : Int) (h0 : 0 < n) (h1 : n ≤ 4611686018427387904) (i : Nat) (c : UInt8) (u : Nat) (hu : u = 1024 ^ i) (hu1 : 1 ≤ u) (hc : Wh.unitIdx c = some i) (q : (n % (u : Int) == 0) = true) :
    Wh.parseSz (numS (n / (u : Int)) ++ ⟨#[c]⟩ : ByteArray).data.toList = (n, 0) := by
  have hd : 0 ≤ n / (u : Int) := Int.ediv_nonneg (by omega) (by omega)
  have hm : n / (u : Int) * (u : Int) = n := Int.ediv_mul_cancel (Int.dvd_of_emod_eq_zero (by simpa using q))
  have hx : (((n / (u : Int)).toNat * u : Nat) : Int) = n := by
    rw [Int.natCast_mul, Int.toNat_of_nonneg hd]
    exact hm
  rw [numS_cat hd, Wh.read_unit _ i c hc (by rw [← hu]; show _ ≤ 4611686018427387904; omega), ← hu, hx]

/-- What is written is read. -/
theorem print_read (n : Int) (h0 : 0 ≤ n) (h1 : n ≤ 4611686018427387904) : Wh.parseSz (printT n).data.toList = (n, 0) := by
  have hbare : Wh.parseSz (numS n).data.toList = (n, 0) := by
    rw [numS_data h0, Wh.read_bare _ (by show _ ≤ 4611686018427387904; omega), Int.toNat_of_nonneg h0]
  unfold printT
  rw [if_neg (by omega)]
  by_cases hz : n = 0
  · rw [if_pos hz]; exact hbare
  rw [if_neg hz]
  split
  · rename_i q; exact read_cat n (by omega) h1 4 84 1099511627776 (by decide) (by decide) (by decide) q
  split
  · rename_i q; exact read_cat n (by omega) h1 3 71 1073741824 (by decide) (by decide) (by decide) q
  split
  · rename_i q; exact read_cat n (by omega) h1 2 77 1048576 (by decide) (by decide) (by decide) q
  split
  · rename_i q; exact read_cat n (by omega) h1 1 107 1024 (by decide) (by decide) (by decide) q
  exact hbare

theorem printT_size (n : Int) (h0 : 0 ≤ n) (h1 : n ≤ 4611686018427387904) : (printT n).size ≤ 100 := by
  have hn := numS_size n (by omega) (by omega)
  have hc : ∀ (u : Int) (c : UInt8), 1 ≤ u → (numS (n / u) ++ ⟨#[c]⟩ : ByteArray).size ≤ 100 := fun u c hu => by
    have h2 : 0 ≤ n / u := Int.ediv_nonneg h0 (by omega)
    have h3 : n / u ≤ n := Int.ediv_le_self _ h0
    have := numS_size (n / u) (by omega) (by omega)
    rw [ByteArray.size_append]
    have e : (⟨#[c]⟩ : ByteArray).size = 1 := rfl
    omega
  unfold printT
  rw [if_neg (by omega)]
  split
  · omega
  split
  · exact hc _ _ (by decide)
  split
  · exact hc _ _ (by decide)
  split
  · exact hc _ _ (by decide)
  split
  · exact hc _ _ (by decide)
  omega

set_option maxHeartbeats 2000000 in
set_option maxRecDepth 100000 in
theorem sizesMatch_walk (s : ByteArray) (n : Int) (w : World) (hE : Env w) (hR : EnvE w) (hT : EnvT w) (hs : s.size ≤ 140737488351232) :
    Calls Tryd.prog 10 #[.string s, .int .i64 n] w fun e w' => e = .returned (.bool true) ∧ Below w.heap.size w w' := by
  have HL := Lib.hid (landed_any w hE)
  have H1 := Lib.hid (fun W => parseSize_any s W (by omega))
  have H2 := Lib.hid (fun W (hb : Below w.heap.size w W) => refParseSize_any s W (hR.under hb) (by omega))
  have H3 := Lib.hid (fun W (hb : Below w.heap.size w W) => printSize_any n W (hT.under hb))
  have H4 := Lib.hid (fun W (hb : Below w.heap.size w W) => refPrintSize_any n W (hT.under hb))
  have H5 := Lib.hid (fun h0 h1 W => parseSize_any (printT n) W (by have := printT_size n h0 h1; omega))
  have HRd := Lib.hid (print_read n)
  clear hE hR hT
  unfold SizePost at H1 H2 H5
  unfold PrintPost at H3 H4
  generalize (Wh.parseSz s.data.toList).1 = P1 at *
  generalize (Wh.parseSz s.data.toList).2 = P2 at *
  generalize printT n = T at *
  have hor : ((if n < 0 ∨ 4611686018427387904 < n then (7 : Int) else 0) = 7) ∨ ((if n < 0 ∨ 4611686018427387904 < n then (7 : Int) else 0) = 0 ∧ 0 ≤ n ∧ n ≤ 4611686018427387904) := by
    by_cases ho : n < 0 ∨ 4611686018427387904 < n
    · exact .inl (if_pos ho)
    · exact .inr ⟨if_neg ho, by omega, by omega⟩
  generalize (if n < 0 ∨ 4611686018427387904 < n then (7 : Int) else 0) = E0 at *
  have HOr := Lib.hid hor
  clear hor
  go_enter Tryd.func10, Tryd.ntmps10
  go_wp2_with fail
  refine HL.out.mono ?_
  rintro e w1 ⟨rfl, hb1⟩
  go_wp2_with fail
  refine (H1.out _).mono ?_
  rintro e w2 ⟨rfl, hb2⟩
  replace hb1 := bTrans hb1 hb2
  clear hb2
  go_wp2_with fail
  refine (H2.out _ hb1).mono ?_
  rintro e w3 ⟨rfl, hb3⟩
  replace hb1 := bTrans hb1 hb3
  clear hb3
  go_wp2_with fail
  refine (H3.out _ hb1).mono ?_
  rintro e w4 ⟨rfl, hb4⟩
  replace hb1 := bTrans hb1 hb4
  clear hb4
  go_wp2_with fail
  refine (H4.out _ hb1).mono ?_
  rintro e w5 ⟨rfl, hb5⟩
  replace hb1 := bTrans hb1 hb5
  clear hb5 H1 H2 H3 H4
  rcases HOr.out with h7 | ⟨h7, h0, h1⟩
  · subst h7
    clear HOr
    go_wp2_with fail
    go_ret
    exact ⟨rfl, hb1⟩
  · subst h7
    have H6 := Lib.hid (H5.out h0 h1)
    rw [HRd.out h0 h1] at H6
    clear H5 HRd h0 h1 HOr
    go_wp2_with fail
    refine (H6.out _).mono ?_
    rintro e w6 ⟨rfl, hb6⟩
    go_wp2_with fail
    go_ret
    exact ⟨rfl, bTrans hb1 hb6⟩
end Go.Proofs.YtjfnkkpmmebnfaaDoor
