/-
  names.CheckGlob, wherryref1.CheckGlob.
-/
import Derived.Test.YtnpcbcnclncniaaGreatDoorGlob11
import Derived.Test.YtnpcbcnclncniaaGreatDoorGlob12
import Derived.Test.YtnpcbcnclncniaaGreatDoorGlobR3
namespace Go.Proofs.YtnpcbcnclncniaaGreatDoor
open Go.RowKit

/-- What CheckGlob returns. -/
def ckG (rooted dirs : Bool) (n : Nat) (xs : List (P n)) : Int :=
  if 200 < cntL n xs ∨ 5 < dpL n xs then 8 else if chk n xs ≠ 0 then chk n xs else if xs = [] then 21 else if meet n xs then 6 else if 200 < (gtxtN rooted dirs n xs).length then 8 else 0
theorem gtxt_len (rooted dirs : Bool) (n : Nat) (xs : List (P n)) : (gtxtN rooted dirs n xs).length ≤ 6 * szL n xs + 5 := by
  have h := txt_len n false xs
  unfold gtxtN wrapG preG suffN
  generalize txt n false xs = T at *
  have h1 : (if !dirs && lastSl n xs then T.dropLast ++ [92, 47] else T).length ≤ T.length + 2 := by
    split <;> simp
  generalize (if !dirs && lastSl n xs then T.dropLast ++ [92, 47] else T) = S1 at *
  have h2 : (if !rooted && S1.head? == some 47 then 92 :: S1 else S1).length ≤ S1.length + 1 := by
    split <;> simp
  generalize (if !rooted && S1.head? == some 47 then 92 :: S1 else S1) = S2 at *
  rw [List.length_append]
  have h3 : (if rooted then 47 :: S2 else S2).length ≤ S2.length + 1 := by
    split <;> simp
  have h4 : (if dirs then [(47 : UInt8)] else []).length ≤ 1 := by
    split <;> simp
  omega

set_option maxHeartbeats 4000000 in
set_option maxRecDepth 100000 in
theorem checkGlob_any (n : Nat) (s : Sl (P n)) (rooted dirs : Bool) (w : World) (hs : SOk w n s) (hz : szL n s.xs ≤ 1048576) :
    Calls Tryz.prog 17 #[globVal rooted dirs s] w fun e w' => e = .returned (.int .i64 (ckG rooted dirs n s.xs)) ∧ Below w.heap.size w w' := by
  have hlen : s.xs.length ≤ 1048576 := Nat.le_trans (len_le_sz n s.xs) hz
  have HPC := Lib.hid (fun W (hb : Below w.heap.size w W) => partCount_any n s W (hs.under hb) hz hlen)
  have HCK := Lib.hid (fun W (hb : Below w.heap.size w W) => checkParts_any n s W (hs.under hb) hz)
  have HSM := Lib.hid (fun W (hb : Below w.heap.size w W) => starsMeet_any n s W (hs.under hb) hz)
  have HGT : Hid (chk n s.xs = 0 → s.xs ≠ [] → ∀ W (_ : Below w.heap.size w W), Calls Tryz.prog 47 #[globVal rooted dirs s] W fun e w' => e = .returned (.string ⟨(gtxtN rooted dirs n s.xs).toArray⟩) ∧ Below W.heap.size W w') := Lib.hid (fun h0 hne W hb => by
    have hg := good_of_chk n s.xs h0
    cases n with
    | zero =>
      obtain ⟨a, c, xs⟩ := s
      cases xs with
      | cons x _ => exact nomatch x
      | nil => exact absurd rfl hne
    | succ n => exact globText_any n s rooted dirs W (hs.under hb) hg hne hz)
  have HK : Hid (ckG rooted dirs n s.xs = if 200 < cntL n s.xs ∨ 5 < dpL n s.xs then 8 else if chk n s.xs ≠ 0 then chk n s.xs else if s.xs = [] then 21 else if meet n s.xs then 6 else if 200 < (gtxtN rooted dirs n s.xs).length then 8 else 0) := Lib.hid rfl
  have hgl := gtxt_len rooted dirs n s.xs
  have HTz : Hid ((⟨(gtxtN rooted dirs n s.xs).toArray⟩ : ByteArray).size = (gtxtN rooted dirs n s.xs).length) := Lib.hid (by rw [Lib.size_eq])
  have hts : (⟨(gtxtN rooted dirs n s.xs).toArray⟩ : ByteArray).size ≤ 10000000 := by rw [HTz.out]; omega
  generalize (⟨(gtxtN rooted dirs n s.xs).toArray⟩ : ByteArray) = TB at *
  generalize (gtxtN rooted dirs n s.xs).length = tl at *
  generalize ckG rooted dirs n s.xs = K at *
  generalize hcnt : cntL n s.xs = cn at *
  generalize hdep : dpL n s.xs = de at *
  have hcb : cn ≤ 1048576 := by rw [← hcnt]; exact Nat.le_trans (cntL_le n s.xs) hz
  have hdb : de ≤ 1048576 := by rw [← hdep]; exact Nat.le_trans (dpL_le n s.xs) hz
  generalize chk n s.xs = C at *
  generalize meet n s.xs = M at *
  have hb1 : Below w.heap.size w (w.alloc (.cells (globArr rooted dirs s) 24)) := bAlloc (Below.refl _ _) _
  have HQ := Lib.hid (BoxIs.new w (globArr rooted dirs s) 24)
  clear hs hcnt hdep hz
  obtain ⟨sa, sc, xs⟩ := s
  simp only [] at *
  go_enter Tryz.func17, Tryz.ntmps17
  go_upto_region 1 with fail
  generalize w.alloc (.cells (globArr rooted dirs (⟨sa, sc, xs⟩ : Sl (P n))) 24) = w1 at *
  have c2 := HQ.out.cell (j := 2) rfl
  go_wp2_with fail
  refine (HPC.out _ hb1).mono ?_
  rintro e w2 ⟨rfl, hb2⟩
  have HQ2 := Lib.hid (HQ.out.under hb2)
  replace hb2 := bTrans hb1 hb2
  clear c2 HPC HQ hb1
  have c2 := HQ2.out.cell (j := 2) rfl
  go_upto_region 2 with fail
  by_cases h1 : 200 < cn
  · have HR : Hid (K = 8) := Lib.hid (by rw [HK.out, if_pos (.inl h1)])
    clear HK
    go_wp2_with fail
    go_ret
    exact ⟨ret_int HR.out.symm, hb2⟩
  by_cases h2 : 5 < de
  · have HR : Hid (K = 8) := Lib.hid (by rw [HK.out, if_pos (.inr h2)])
    clear HK
    go_wp2_with fail
    go_ret
    exact ⟨ret_int HR.out.symm, hb2⟩
  replace HK := Lib.hid (HK.out.trans (if_neg (by omega)))
  by_cases hC : C = 0
  case neg =>
    have HR : Hid (K = C) := Lib.hid (HK.out.trans (if_pos hC))
    have hC' : (C != 0) = true := by simp [hC]
    clear HK hC HGT
    go_wp2_with fail
    refine (HCK.out _ hb2).mono ?_
    rintro e w3 ⟨rfl, hb3⟩
    go_wp2_with fail
    go_ret
    exact ⟨ret_int HR.out.symm, bTrans hb2 hb3⟩
  subst hC
  replace HK := Lib.hid (HK.out.trans (if_neg (by decide)))
  go_wp2_with fail
  refine (HCK.out _ hb2).mono ?_
  rintro e w3 ⟨rfl, hb3⟩
  have HQ3 := Lib.hid (HQ2.out.under hb3)
  replace hb3 := bTrans hb2 hb3
  clear c2 HCK HQ2 hb2 h1 h2
  have c2 := HQ3.out.cell (j := 2) rfl
  by_cases hx : xs = []
  · have HR : Hid (K = 21) := Lib.hid (HK.out.trans (if_pos hx))
    have hx0 : ((xs.length : Int) == 0) = true := by rw [hx]; rfl
    clear HK hx HGT
    go_wp2_with fail
    go_ret
    exact ⟨ret_int HR.out.symm, hb3⟩
  replace HK := Lib.hid (HK.out.trans (if_neg hx))
  have hx0 : ((xs.length : Int) == 0) = false := by
    have : xs.length ≠ 0 := fun e => hx (List.length_eq_zero_iff.1 e)
    simpa using this
  have HGT := Lib.hid (HGT.out (by first | rfl | trivial) hx)
  clear hx
  go_wp2_with fail
  refine (HSM.out _ hb3).mono ?_
  rintro e w4 ⟨rfl, hb4⟩
  have HQ4 := Lib.hid (HQ3.out.under hb4)
  replace hb4 := bTrans hb3 hb4
  clear c2 HSM HQ3 hb3
  cases M
  case true =>
    have HR : Hid (K = 6) := Lib.hid (HK.out.trans (if_pos rfl))
    clear HK HGT
    go_wp2_with fail
    go_ret
    exact ⟨ret_int HR.out.symm, hb4⟩
  replace HK := Lib.hid (HK.out.trans (if_neg (by decide)))
  have c0 := HQ4.out.cell (j := 0) rfl
  have c1 := HQ4.out.cell (j := 1) rfl
  have c2 := HQ4.out.cell (j := 2) rfl
  go_wp2_with fail
  refine (HGT.out _ hb4).mono ?_
  rintro e w5 ⟨rfl, hb5⟩
  clear c0 c1 c2
  by_cases hl : 200 < TB.size
  · have HR : Hid (K = 8) := Lib.hid (HK.out.trans (if_pos (by have := HTz.out; omega)))
    clear HK
    go_wp2_with fail
    go_ret
    exact ⟨ret_int HR.out.symm, bTrans hb4 hb5⟩
  · have HR : Hid (K = 0) := Lib.hid (HK.out.trans (if_neg (by have := HTz.out; omega)))
    clear HK
    go_wp2_with fail
    go_ret
    exact ⟨ret_int HR.out.symm, bTrans hb4 hb5⟩

set_option maxHeartbeats 4000000 in
set_option maxRecDepth 100000 in
theorem refCheckGlob_any (n : Nat) (s : Sl (P n)) (rooted dirs : Bool) (w : World) (hs : SOk w n s) (hz : szL n s.xs ≤ 1048576) :
    Calls Tryz.prog 7 #[globVal rooted dirs s] w fun e w' => e = .returned (.int .i64 (ckG rooted dirs n s.xs)) ∧ Below w.heap.size w w' := by
  have hlen : s.xs.length ≤ 1048576 := Nat.le_trans (len_le_sz n s.xs) hz
  have HPC := Lib.hid (fun W (hb : Below w.heap.size w W) => globSize_any n s W (hs.under hb) hz hlen)
  have HCK := Lib.hid (fun W (hb : Below w.heap.size w W) => refCheckParts_any n s W (hs.under hb) hz)
  rw [rchk_eq] at HCK
  have HSM := Lib.hid (fun W (hb : Below w.heap.size w W) => starsTogether_any n s W (hs.under hb) hz)
  have HGT : Hid (chk n s.xs = 0 → s.xs ≠ [] → ∀ W (_ : Below w.heap.size w W), Calls Tryz.prog 22 #[globVal rooted dirs s] W fun e w' => e = .returned (.string ⟨(gtxtN rooted dirs n s.xs).toArray⟩) ∧ Below W.heap.size W w') := Lib.hid (fun h0 hne W hb => by
    have hg := good_of_chk n s.xs h0
    cases n with
    | zero =>
      obtain ⟨a, c, xs⟩ := s
      cases xs with
      | cons x _ => exact nomatch x
      | nil => exact absurd rfl hne
    | succ n => rw [← gtxt_eq rooted dirs (n + 1) s.xs hg hne]; exact showGlob_any n s rooted dirs W (hs.under hb) hg hz)
  have HK : Hid (ckG rooted dirs n s.xs = if 200 < cntL n s.xs ∨ 5 < dpL n s.xs then 8 else if chk n s.xs ≠ 0 then chk n s.xs else if s.xs = [] then 21 else if meet n s.xs then 6 else if 200 < (gtxtN rooted dirs n s.xs).length then 8 else 0) := Lib.hid rfl
  have hgl := gtxt_len rooted dirs n s.xs
  have HTz : Hid ((⟨(gtxtN rooted dirs n s.xs).toArray⟩ : ByteArray).size = (gtxtN rooted dirs n s.xs).length) := Lib.hid (by rw [Lib.size_eq])
  have hts : (⟨(gtxtN rooted dirs n s.xs).toArray⟩ : ByteArray).size ≤ 10000000 := by rw [HTz.out]; omega
  generalize (⟨(gtxtN rooted dirs n s.xs).toArray⟩ : ByteArray) = TB at *
  generalize (gtxtN rooted dirs n s.xs).length = tl at *
  generalize ckG rooted dirs n s.xs = K at *
  generalize hcnt : cntL n s.xs = cn at *
  generalize hdep : dpL n s.xs = de at *
  have hcb : cn ≤ 1048576 := by rw [← hcnt]; exact Nat.le_trans (cntL_le n s.xs) hz
  have hdb : de ≤ 1048576 := by rw [← hdep]; exact Nat.le_trans (dpL_le n s.xs) hz
  generalize chk n s.xs = C at *
  generalize meet n s.xs = M at *
  have hb1 : Below w.heap.size w (w.alloc (.cells (globArr rooted dirs s) 24)) := bAlloc (Below.refl _ _) _
  have HQ := Lib.hid (BoxIs.new w (globArr rooted dirs s) 24)
  clear hs hcnt hdep hz
  obtain ⟨sa, sc, xs⟩ := s
  simp only [] at *
  go_enter Tryz.func7, Tryz.ntmps7
  go_upto_region 1 with fail
  generalize w.alloc (.cells (globArr rooted dirs (⟨sa, sc, xs⟩ : Sl (P n))) 24) = w1 at *
  have c2 := HQ.out.cell (j := 2) rfl
  go_wp2_with fail
  refine (HPC.out _ hb1).mono ?_
  rintro e w2 ⟨rfl, hb2⟩
  have HQ2 := Lib.hid (HQ.out.under hb2)
  replace hb2 := bTrans hb1 hb2
  clear c2 HPC HQ hb1
  have c2 := HQ2.out.cell (j := 2) rfl
  go_upto_region 2 with fail
  by_cases h1 : 200 < cn
  · have HR : Hid (K = 8) := Lib.hid (by rw [HK.out, if_pos (.inl h1)])
    clear HK
    go_wp2_with fail
    go_ret
    exact ⟨ret_int HR.out.symm, hb2⟩
  by_cases h2 : 5 < de
  · have HR : Hid (K = 8) := Lib.hid (by rw [HK.out, if_pos (.inr h2)])
    clear HK
    go_wp2_with fail
    go_ret
    exact ⟨ret_int HR.out.symm, hb2⟩
  replace HK := Lib.hid (HK.out.trans (if_neg (by omega)))
  by_cases hC : C = 0
  case neg =>
    have HR : Hid (K = C) := Lib.hid (HK.out.trans (if_pos hC))
    have hC' : (C != 0) = true := by simp [hC]
    clear HK hC HGT
    go_wp2_with fail
    refine (HCK.out _ hb2).mono ?_
    rintro e w3 ⟨rfl, hb3⟩
    go_wp2_with fail
    go_ret
    exact ⟨ret_int HR.out.symm, bTrans hb2 hb3⟩
  subst hC
  replace HK := Lib.hid (HK.out.trans (if_neg (by decide)))
  go_wp2_with fail
  refine (HCK.out _ hb2).mono ?_
  rintro e w3 ⟨rfl, hb3⟩
  have HQ3 := Lib.hid (HQ2.out.under hb3)
  replace hb3 := bTrans hb2 hb3
  clear c2 HCK HQ2 hb2 h1 h2
  have c2 := HQ3.out.cell (j := 2) rfl
  by_cases hx : xs = []
  · have HR : Hid (K = 21) := Lib.hid (HK.out.trans (if_pos hx))
    have hx0 : ((xs.length : Int) == 0) = true := by rw [hx]; rfl
    clear HK hx HGT
    go_wp2_with fail
    go_ret
    exact ⟨ret_int HR.out.symm, hb3⟩
  replace HK := Lib.hid (HK.out.trans (if_neg hx))
  have hx0 : ((xs.length : Int) == 0) = false := by
    have : xs.length ≠ 0 := fun e => hx (List.length_eq_zero_iff.1 e)
    simpa using this
  have HGT := Lib.hid (HGT.out (by first | rfl | trivial) hx)
  clear hx
  go_wp2_with fail
  refine (HSM.out _ hb3).mono ?_
  rintro e w4 ⟨rfl, hb4⟩
  have HQ4 := Lib.hid (HQ3.out.under hb4)
  replace hb4 := bTrans hb3 hb4
  clear c2 HSM HQ3 hb3
  cases M
  case true =>
    have HR : Hid (K = 6) := Lib.hid (HK.out.trans (if_pos rfl))
    clear HK HGT
    go_wp2_with fail
    go_ret
    exact ⟨ret_int HR.out.symm, hb4⟩
  replace HK := Lib.hid (HK.out.trans (if_neg (by decide)))
  have c0 := HQ4.out.cell (j := 0) rfl
  have c1 := HQ4.out.cell (j := 1) rfl
  have c2 := HQ4.out.cell (j := 2) rfl
  go_wp2_with fail
  refine (HGT.out _ hb4).mono ?_
  rintro e w5 ⟨rfl, hb5⟩
  clear c0 c1 c2
  by_cases hl : 200 < TB.size
  · have HR : Hid (K = 8) := Lib.hid (HK.out.trans (if_pos (by have := HTz.out; omega)))
    clear HK
    go_wp2_with fail
    go_ret
    exact ⟨ret_int HR.out.symm, bTrans hb4 hb5⟩
  · have HR : Hid (K = 0) := Lib.hid (HK.out.trans (if_neg (by have := HTz.out; omega)))
    clear HK
    go_wp2_with fail
    go_ret
    exact ⟨ret_int HR.out.symm, bTrans hb4 hb5⟩
end Go.Proofs.YtnpcbcnclncniaaGreatDoor
