/-
  The law AgesMatch, walked.
-/
import Derived.Test.YtjfnkkpmmebnfaaDoorAge3
import Derived.Test.YtjfnkkpmmebnfaaDoorPlainAge2
import Derived.Test.YtjfnkkpmmebnfaaDoorSizeLaw
namespace Go.Proofs.YtjfnkkpmmebnfaaDoor
open Go.RowKit

theorem agePrint_data : ∀ (g k : Nat) (n : Int) (out : ByteArray), 0 ≤ n → (agePrint g k n out).data.toList = out.data.toList ++ Wh.ageL g k n.toNat
  | 0, _, _, out, _ => by simp [agePrint, Wh.ageL]
  | g + 1, k, n, out, h => by
    have hp := (Wh.uSize_pos k).1
    unfold agePrint Wh.ageL
    by_cases hge : (Wh.uSize k : Int) ≤ n
    · have hd : 0 ≤ n / (Wh.uSize k : Int) := Int.ediv_nonneg h (by omega)
      have hm : 0 ≤ n % (Wh.uSize k : Int) := Int.emod_nonneg _ (by omega)
      have e1 : (n / (Wh.uSize k : Int)).toNat = n.toNat / Wh.uSize k := by
        apply Int.ofNat_inj.1
        rw [Int.toNat_of_nonneg hd, Int.natCast_ediv, Int.toNat_of_nonneg h]
      have e2 : (n % (Wh.uSize k : Int)).toNat = n.toNat % Wh.uSize k := by
        apply Int.ofNat_inj.1
        rw [Int.toNat_of_nonneg hm, Int.natCast_emod, Int.toNat_of_nonneg h]
      rw [if_pos hge, if_pos (by omega), agePrint_data g (k + 1) _ _ hm, ByteArray.data_append, Array.toList_append, ByteArray.data_append, Array.toList_append, numS_data hd, uB_data, e1, e2]
      simp
    · rw [if_neg hge, if_neg (by omega), agePrint_data g (k + 1) n out h]

theorem agePrint_size : ∀ (g k : Nat) (n : Int) (out : ByteArray), 0 ≤ n → n ≤ 4611686018427387904 → (agePrint g k n out).size ≤ out.size + 40 * g
  | 0, _, _, out, _, _ => by simp [agePrint]
  | g + 1, k, n, out, h, h1 => by
    have hp := (Wh.uSize_pos k).1
    unfold agePrint
    by_cases hge : (Wh.uSize k : Int) ≤ n
    · have hd : 0 ≤ n / (Wh.uSize k : Int) := Int.ediv_nonneg h (by omega)
      have hd1 : n / (Wh.uSize k : Int) ≤ n := Int.ediv_le_self _ h
      have hm : 0 ≤ n % (Wh.uSize k : Int) := Int.emod_nonneg _ (by omega)
      have hm1 : n % (Wh.uSize k : Int) ≤ n := by have := Int.emod_lt_of_pos n (by omega : 0 < (Wh.uSize k : Int)); omega
      have i1 := agePrint_size g (k + 1) (n % (Wh.uSize k : Int)) (out ++ (numS (n / (Wh.uSize k : Int)) ++ uB k)) hm (by omega)
      have i2 := numS_size (n / (Wh.uSize k : Int)) (by omega) (by omega)
      have i3 := uB_size k
      rw [if_pos hge]
      rw [ByteArray.size_append, ByteArray.size_append] at i1
      omega
    · rw [if_neg hge]
      have := agePrint_size g (k + 1) n out h h1
      omega

theorem ageText_size (n : Int) (h0 : 0 ≤ n) (h1 : n ≤ 4611686018427387904) : (ageText n).size ≤ 400 := by
  unfold ageText
  rw [if_neg (by omega)]
  split
  · decide
  · have := agePrint_size 8 0 n ⟨#[]⟩ h0 h1
    have e : (⟨#[]⟩ : ByteArray).size = 0 := rfl
    omega

theorem ageText_read (n : Int) (h0 : 0 ≤ n) (h1 : n ≤ 4611686018427387904) : Wh.parseAg (ageText n).data.toList = (n, 0) := by
  unfold ageText
  rw [if_neg (by omega)]
  by_cases hz : n = 0
  · rw [if_pos hz, hz]
    exact Wh.zero_parse
  · rw [if_neg hz, agePrint_data 8 0 n _ h0]
    have := Wh.ageL_parse n.toNat (by omega) (by show _ ≤ 4611686018427387904; omega)
    rw [Int.toNat_of_nonneg h0] at this
    exact this

set_option maxHeartbeats 2000000 in
set_option maxRecDepth 100000 in
theorem agesMatch_walk (s : ByteArray) (n : Int) (w : World) (hE : Env w) (hR : EnvE w) (hT : EnvT w) (hs : s.size ≤ 140737488351232) :
    Calls Tryd.prog 9 #[.string s, .int .i64 n] w fun e w' => e = .returned (.bool true) ∧ Below w.heap.size w w' := by
  have HL := Lib.hid (landed_any w hE)
  have H1 := Lib.hid (fun W => parseAge_any s W (by omega))
  have H2 := Lib.hid (fun W (hb : Below w.heap.size w W) => refParseAge_any s W (hR.under hb) (by omega))
  have H3 := Lib.hid (fun W (hb : Below w.heap.size w W) => printAge_any n W (hT.under hb))
  have H4 := Lib.hid (fun W (hb : Below w.heap.size w W) => refPrintAge_any n W (hT.under hb))
  have H5 := Lib.hid (fun h0 h1 W => parseAge_any (ageText n) W (by have := ageText_size n h0 h1; omega))
  have HRd := Lib.hid (ageText_read n)
  clear hE hR hT
  unfold AgePost at H1 H2 H5
  unfold PrintPost at H3 H4
  generalize (Wh.parseAg s.data.toList).1 = P1 at *
  generalize (Wh.parseAg s.data.toList).2 = P2 at *
  generalize ageText n = T at *
  have hor : ((if n < 0 ∨ 4611686018427387904 < n then (7 : Int) else 0) = 7) ∨ ((if n < 0 ∨ 4611686018427387904 < n then (7 : Int) else 0) = 0 ∧ 0 ≤ n ∧ n ≤ 4611686018427387904) := by
    by_cases ho : n < 0 ∨ 4611686018427387904 < n
    · exact .inl (if_pos ho)
    · exact .inr ⟨if_neg ho, by omega, by omega⟩
  generalize (if n < 0 ∨ 4611686018427387904 < n then (7 : Int) else 0) = E0 at *
  have HOr := Lib.hid hor
  clear hor
  go_enter Tryd.func9, Tryd.ntmps9
  go_wp2_with fail
  refine HL.out.mono ?_
  rintro e w1 ⟨rfl, hb1⟩
  go_wp2_with fail
  refine (H1.out _).mono ?_
  rintro e w2 ⟨rfl, hb2⟩
  replace hb1 := bTrans hb1 hb2
  clear hb2
  go_wp2_with fail
  refine (H2.out _ hb1).mono ?_
  rintro e w3 ⟨rfl, hb3⟩
  replace hb1 := bTrans hb1 hb3
  clear hb3
  go_wp2_with fail
  refine (H3.out _ hb1).mono ?_
  rintro e w4 ⟨rfl, hb4⟩
  replace hb1 := bTrans hb1 hb4
  clear hb4
  go_wp2_with fail
  refine (H4.out _ hb1).mono ?_
  rintro e w5 ⟨rfl, hb5⟩
  replace hb1 := bTrans hb1 hb5
  clear hb5 H1 H2 H3 H4
  rcases HOr.out with h7 | ⟨h7, h0, h1⟩
  · subst h7
    clear HOr
    go_wp2_with fail
    go_ret
    exact ⟨rfl, hb1⟩
  · subst h7
    have H6 := Lib.hid (H5.out h0 h1)
    rw [HRd.out h0 h1] at H6
    clear H5 HRd h0 h1 HOr
    go_wp2_with fail
    refine (H6.out _).mono ?_
    rintro e w6 ⟨rfl, hb6⟩
    go_wp2_with fail
    go_ret
    exact ⟨rfl, bTrans hb1 hb6⟩
end Go.Proofs.YtjfnkkpmmebnfaaDoor
