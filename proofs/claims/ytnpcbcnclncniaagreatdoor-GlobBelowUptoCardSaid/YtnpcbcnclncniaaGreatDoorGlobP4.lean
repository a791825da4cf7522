/-
  names.globText.
-/
import Derived.Test.YtnpcbcnclncniaaGreatDoorGlobP3
namespace Go.Proofs.YtnpcbcnclncniaaGreatDoor
open Go.RowKit

theorem hasPre_one (l : List UInt8) (c : UInt8) : Lib.hasPrefix l [c] = (l.head? == some c) := by
  cases l with
  | nil => rfl
  | cons x l =>
    show ([c].isPrefixOf (x :: l)) = (some x == some c)
    simp only [List.isPrefixOf, Bool.and_true]
    show (c == x) = (x == c)
    exact Bool.eq_iff_iff.2 ⟨fun h => by simpa using (by simpa using h : c = x).symm, fun h => by simpa using (by simpa using h : x = c).symm⟩
theorem hasSuf_one (l : List UInt8) (c : UInt8) : Lib.hasSuffix l [c] = (l.getLast? == some c) := by
  show ([c].isSuffixOf l) = _
  unfold List.isSuffixOf
  have := hasPre_one l.reverse c
  unfold Lib.hasPrefix at this
  rw [List.reverse_singleton, this, List.head?_reverse]
theorem run_add (a b : ByteArray) (W : World) (h : a.size + b.size ≤ 100000000) : (Op.stringOp .add a b).run Tryz.prog W = .ok (.string ⟨(a.data.toList ++ b.data.toList).toArray⟩) W := by
  rw [run_string_add_sum W _ _ (by omega)]
  congr 2
theorem take_ext (s : ByteArray) (k : Nat) : (s.extract 0 k).data.toList = s.data.toList.take k := by
  rw [Lib.extract_data]
  simp

abbrev globVal {α : Type} (rooted dirs : Bool) (s : Sl α) : Value := .agg #[.bool rooted, .bool dirs, .slice s.a s.xs.length s.c]
abbrev globArr {α : Type} (rooted dirs : Bool) (s : Sl α) : Array Value := #[.bool rooted, .bool dirs, .slice s.a s.xs.length s.c]

set_option maxHeartbeats 4000000 in
set_option maxRecDepth 100000 in
theorem globText_any (n : Nat) (s : Sl (P (n + 1))) (rooted dirs : Bool) (w : World) (hs : SOk w (n + 1) s) (hg : Good (n + 1) s.xs) (hne : s.xs ≠ []) (hz : szL (n + 1) s.xs ≤ 1048576) :
    Calls Tryz.prog 47 #[globVal rooted dirs s] w fun e w' => e = .returned (.string ⟨(gtxtN rooted dirs (n + 1) s.xs).toArray⟩) ∧ Below w.heap.size w w' := by
  have hlen : s.xs.length ≤ 1048576 := Nat.le_trans (len_le_sz (n + 1) s.xs) hz
  have hTl := txt_len (n + 1) false s.xs
  obtain ⟨m, hm⟩ : ∃ m : Nat, (s.xs.length : Int) - 1 = (m : Int) := ⟨s.xs.length - 1, by have : 0 < s.xs.length := List.length_pos_iff.2 hne; omega⟩
  have hml : m < s.xs.length := by omega
  obtain ⟨p, hx⟩ : ∃ p : P (n + 1), s.xs[m]? = some p := ⟨_, List.getElem?_eq_getElem hml⟩
  have htx : (pt n p).text.size ≤ maxLen := (hs.2 p (List.mem_of_getElem? hx)).1.1
  have HL : Hid (lastSl (n + 1) s.xs = (decide ((pt n p).kind = 1) && (pt n p).text.data.toList.getLast? == some 47)) := Lib.hid (by
    unfold lastSl
    have : s.xs.getLast? = some p := by rw [List.getLast?_eq_getElem?, show s.xs.length - 1 = m by omega, hx]
    show (match s.xs.getLast? with | none => false | some p => decide ((pt n p).kind = 1) && (pt n p).text.data.toList.getLast? == some 47) = _
    rw [this])
  have hb1 : Below w.heap.size w (w.alloc (.cells (globArr rooted dirs s) 24)) := bAlloc (Below.refl _ _) _
  have HC := Lib.hid (printParts_any (n + 1) s false _ _ _ [] (Bld.fresh (w.alloc (.cells (globArr rooted dirs s) 24))) (hs.under hb1) hg hz (by simp only [List.length_nil]; omega))
  have HQ := Lib.hid (BoxIs.new w (globArr rooted dirs s) 24)
  have hsz : (w.alloc (.cells (globArr rooted dirs s) 24)).heap.size = w.heap.size + 1 := by simp
  have HS := Lib.hid hs
  have hHS := Lib.hid (fun W (hb : Below w.heap.size w W) => partRow (p := pt n p) ((hs.under hb).1) hx)
  have HG : Hid (gtxtN rooted dirs (n + 1) s.xs = wrapG rooted dirs (preG rooted (suffN dirs (lastSl (n + 1) s.xs) (txt (n + 1) false s.xs)))) := Lib.hid rfl
  have HTs : Hid (lastSl (n + 1) s.xs = true → txt (n + 1) false s.xs ≠ []) := Lib.hid (fun h e => by
    obtain ⟨s0, h1, _⟩ := txt_slash (n + 1) false s.xs h
    rw [e] at h1
    simp at h1)
  generalize gtxtN rooted dirs (n + 1) s.xs = G at *
  rw [List.nil_append] at HC
  generalize txt (n + 1) false s.xs = T at *
  generalize lastSl (n + 1) s.xs = L at *
  obtain ⟨sa, sc, xs⟩ := s
  simp only [] at *
  clear hg hne hx hs
  generalize pt n p = q at *
  go_enter Tryz.func47, Tryz.ntmps47
  go_upto_region 2 with fail
  rw [hsz] at HC
  generalize w.alloc (.cells (globArr rooted dirs (⟨sa, sc, xs⟩ : Sl (P (n + 1)))) 24) = wb at *
  have c2 := (HQ.out.under (bAlloc (Below.refl _ _) (.cells #[.pointer none, .slice none 0 0] 118))).cell (j := 2) rfl
  generalize wb.alloc _ = w1 at *
  go_wp2_with fail
  refine HC.out.mono ?_
  rintro e w2 ⟨rfl, hB2, hK2⟩
  have HB2 := Lib.hid hB2
  clear HC hB2 hK2 c2
  have HD := Lib.hid (buildString_any HB2.out)
  go_wp2_with fail
  refine HD.out.mono ?_
  rintro e w3 ⟨rfl, hB3⟩
  have hb3 := bTrans hb1 hB3.below
  have HQ3 := Lib.hid (HQ.out.under hB3.below)
  clear HD HB2 hB3 HQ hb1
  have c0 := HQ3.out.cell (j := 0) rfl
  have c1 := HQ3.out.cell (j := 1) rfl
  have c2 := HQ3.out.cell (j := 2) rfl
  obtain ⟨ba, off, ha, hba, r0, r1, r2, r3, r4⟩ := hHS.out w3 hb3
  subst ha
  have HT : Hid ((⟨T.toArray⟩ : ByteArray).data.toList = T) := Lib.hid rfl
  have HTz : Hid ((⟨T.toArray⟩ : ByteArray).size = T.length) := Lib.hid (by rw [Lib.size_eq])
  generalize (⟨T.toArray⟩ : ByteArray) = TB at *
  have HBx := Lib.hid (partBox_new w3 q 92)
  have hbx : Below w3.heap.size w3 (w3.alloc (.cells #[.int .i64 q.kind, .string q.text, .bool q.neg, .slice q.rg.a q.rg.xs.length q.rg.c, .slice q.ways.a q.ways.xs.length q.ways.c] 92)) := bAlloc (Below.refl _ _) _
  have HQ4 := Lib.hid (HQ3.out.under hbx)
  go_upto_region 5 with fail
  generalize w3.alloc _ = w4 at *
  have hb4 := bTrans hb3 hbx
  clear r0 r1 r2 r3 r4 c0 c1 c2 HQ3 hHS HS hml
  obtain ⟨p0, p1, p2, p3, p4, p5⟩ := HBx.out
  have c0 := HQ4.out.cell (j := 0) rfl
  have c1 := HQ4.out.cell (j := 1) rfl
  have HSf := Lib.hid (fun W => Tryz.strings_HasSuffix q.text ⟨#[47]⟩ W (by unfold maxLen at htx; omega))
  have HSf : Hid (∀ W, Calls Tryz.prog 84 #[.string q.text, .string ⟨#[47]⟩] W fun e w' => e = .returned (.bool (q.text.data.toList.getLast? == some 47)) ∧ w' = W) := Lib.hid (fun W => by rw [← hasSuf_one]; exact HSf.out W)
  generalize (q.text.data.toList.getLast? == some 47) = bL at *
  go_cut [30] (fun s30 wx => s30 = .bool (!dirs && L) ∧ w4 = wx)
  case first =>
    cases dirs
    · by_cases k1 : q.kind = 1
      · have q1 : (q.kind == 1) = true := by simp [k1]
        have HL2 : Hid (L = bL) := Lib.hid (by rw [HL.out, decide_eq_true k1]; rfl)
        clear k1
        go_wp2_with (go_at_call 84; refine (HSf.out _).mono ?_; rintro e w' ⟨rfl, hw'⟩; subst w')
        go_meet
        exact ⟨by rw [HL2.out]; rfl, rfl⟩
      · have q1 : (q.kind == 1) = false := by simp [k1]
        have HL2 : Hid (L = false) := Lib.hid (by rw [HL.out, decide_eq_false k1]; rfl)
        clear k1
        go_wp2_with fail
        go_meet
        exact ⟨by rw [HL2.out]; rfl, rfl⟩
    · go_wp2_with fail
      go_meet
      exact ⟨rfl, rfl⟩
  case rest =>
  obtain ⟨rfl, rfl⟩ := hcut
  clear HSf HBx p0 p1 p2 p3 p4 p5 HL
  obtain ⟨X, hX⟩ : ∃ X, (!dirs && L) = X := ⟨_, rfl⟩
  have HS1 : Hid (suffN dirs L T = if X then T.dropLast ++ [92, 47] else T) := Lib.hid (by unfold suffN; rw [hX])
  have hne1 : X = true → T ≠ [] := fun h => HTs.out (by rw [← hX] at h; simpa using (Bool.and_eq_true_iff.1 h).2)
  rw [hX]
  clear hX HTs
  generalize suffN dirs L T = S1 at *
  go_upto_if 30 with fail
  go_cut [4] (fun s4 wx => ∃ B1 : ByteArray, s4 = .string B1 ∧ w4 = wx ∧ Hid (B1.data.toList = S1))
  case first =>
    cases X
    · go_wp2_with fail
      go_meet
      exact ⟨TB, rfl, rfl, Lib.hid (by rw [HS1.out, HT.out]; rfl)⟩
    · have h1 : 0 < T.length := List.length_pos_iff.2 (hne1 rfl)
      obtain ⟨k, hk⟩ : ∃ k : Nat, (TB.size : Int) - 1 = (k : Int) := ⟨TB.size - 1, by have := HTz.out; omega⟩
      have hk2 : k ≤ TB.size := by omega
      have hk3 : k ≤ 10000000 := by have := HTz.out; omega
      have hadd := fun W => run_add (TB.extract 0 k) ⟨#[92, 47]⟩ W (by rw [ByteArray.size_extract]; show _ + 2 ≤ _; have := HTz.out; omega)
      have HF : Hid ((TB.extract 0 k).data.toList ++ (⟨#[92, 47]⟩ : ByteArray).data.toList = S1) := Lib.hid (by
        rw [take_ext, HT.out, HS1.out, if_pos rfl, List.dropLast_eq_take, show T.length - 1 = k by have := HTz.out; omega])
      generalize (TB.extract 0 k).data.toList ++ (⟨#[92, 47]⟩ : ByteArray).data.toList = Y at *
      clear hne1
      go_wp2_with fail
      go_meet
      exact ⟨_, rfl, rfl, Lib.hid (by rw [← HF.out])⟩
  case rest =>
  obtain ⟨B1, rfl, rfl, HB1⟩ := hcut
  have HZ1 : Hid (B1.size ≤ 7000000) := Lib.hid (by
    have h1 := Lib.size_eq B1
    have h2 := HS1.out
    rw [HB1.out, h2] at h1
    have h3 : (if X then T.dropLast ++ [92, 47] else T).length ≤ T.length + 2 := by
      cases X <;> simp
    omega)
  clear HS1 HT HTz hne1 hTl
  generalize w4.heap.size = z4 at *
  have HG1 : Hid (G = wrapG rooted dirs (preG rooted B1.data.toList)) := Lib.hid (by rw [HB1.out]; exact HG.out)
  clear HG HB1
  generalize TB = TB0 at *
  have c0 := HQ4.out.cell (j := 0) rfl
  have c1 := HQ4.out.cell (j := 1) rfl
  have HPf := Lib.hid (fun W => Tryz.strings_HasPrefix B1 ⟨#[47]⟩ W)
  have HPf : Hid (∀ W, Calls Tryz.prog 59 #[.string B1, .string ⟨#[47]⟩] W fun e w' => e = .returned (.bool (B1.data.toList.head? == some 47)) ∧ w' = W) := Lib.hid (fun W => by rw [← hasPre_one]; exact HPf.out W)
  have HPr : Hid (preG rooted B1.data.toList = if !rooted && B1.data.toList.head? == some 47 then 92 :: B1.data.toList else B1.data.toList) := Lib.hid rfl
  generalize (B1.data.toList.head? == some 47) = bL at *
  have HZ2 : Hid ((preG rooted B1.data.toList).length ≤ 7000001) := Lib.hid (by
    have h1 := Lib.size_eq B1
    have h2 := HZ1.out
    rw [HPr.out]
    split <;> simp <;> omega)
  generalize preG rooted B1.data.toList = S2 at *
  have hadd1 := fun W => run_add ⟨#[92]⟩ B1 W (by have := HZ1.out; show 1 + _ ≤ _; omega)
  go_upto_region 7 with fail
  go_cut [43] (fun s43 wx => s43 = .bool (!rooted && bL) ∧ w4 = wx)
  case first =>
    cases rooted
    · go_wp2_with (go_at_call 59; refine (HPf.out _).mono ?_; rintro e w' ⟨rfl, hw'⟩; subst w')
      go_meet
      exact ⟨rfl, rfl⟩
    · go_wp2_with fail
      go_meet
      exact ⟨rfl, rfl⟩
  case rest =>
  obtain ⟨rfl, rfl⟩ := hcut
  clear HPf
  generalize (!rooted && bL) = X2 at *
  go_upto_if 43 with fail
  go_cut [4] (fun s4 wx => ∃ B2 : ByteArray, s4 = .string B2 ∧ w4 = wx ∧ Hid (B2.data.toList = S2))
  case first =>
    cases X2
    · go_wp2_with fail
      go_meet
      exact ⟨B1, rfl, rfl, Lib.hid (by rw [HPr.out]; rfl)⟩
    · go_wp2_with fail
      go_meet
      exact ⟨_, rfl, rfl, Lib.hid (by rw [HPr.out]; rfl)⟩
  case rest =>
  obtain ⟨B2, rfl, rfl, HB2⟩ := hcut
  have HZ3 : Hid (B2.size ≤ 7000001) := Lib.hid (by rw [Lib.size_eq, HB2.out]; exact HZ2.out)
  rw [← HB2.out] at HG1
  clear hadd1 HZ1 HZ2 HPr HB2
  generalize B1 = TB1 at *
  have hadd2 := fun W => run_add ⟨#[47]⟩ B2 W (by have := HZ3.out; show 1 + _ ≤ _; omega)
  go_upto_if 47 with fail
  go_cut [4] (fun s4 wx => ∃ B3 : ByteArray, s4 = .string B3 ∧ w4 = wx ∧ Hid (B3.data.toList = if rooted then 47 :: B2.data.toList else B2.data.toList))
  case first =>
    cases rooted
    · go_wp2_with fail
      go_meet
      exact ⟨B2, rfl, rfl, Lib.hid rfl⟩
    · go_wp2_with fail
      go_meet
      exact ⟨_, rfl, rfl, Lib.hid rfl⟩
  case rest =>
  obtain ⟨B3, rfl, rfl, HB3⟩ := hcut
  have HZ4 : Hid (B3.size ≤ 7000002) := Lib.hid (by
    have h1 := Lib.size_eq B2
    have h2 := HZ3.out
    rw [Lib.size_eq, HB3.out]
    split <;> simp <;> omega)
  have hadd3 := fun W => run_add B3 ⟨#[47]⟩ W (by have := HZ4.out; show _ + 1 ≤ _; omega)
  have HG4 : Hid (G = B3.data.toList ++ (if dirs then [47] else [])) := Lib.hid (by rw [HG1.out, HB3.out]; rfl)
  clear HG1 HB3 hadd2 HZ3 HZ4
  cases dirs
  · go_wp2_with fail
    go_ret
    refine ⟨?_, hb4⟩
    rw [HG4.out]
    simp
  · go_wp2_with fail
    go_ret
    refine ⟨?_, hb4⟩
    rw [HG4.out]
    rfl
end Go.Proofs.YtnpcbcnclncniaaGreatDoor
