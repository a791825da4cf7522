/-
  Boxes that a call writes to; the words of a plan's line: fail, word, number, next.
-/
import Derived.Test.YtfenmeacimfiaaaGreatDoorPu8
import Derived.Test.YtfenmeacimfiaaaGreatDoorBoxIs
import Derived.Test.YtfenmeacimfiaaaGreatDoorNum
namespace Wh
open Go

/-- A text cut at its first blank. -/
theorem cut_sp (l : List UInt8) : ∃ a r m, Lib.cut l [32] = (a, r, m) ∧ (∀ b ∈ a, b ≠ 32) ∧ ((m = false ∧ l = a ∧ r = []) ∨ (m = true ∧ l = a ++ 32 :: r)) := by
  have hi := Lib.index_one l 32
  have hge := Lib.indexByte_ge l 32
  by_cases hv : Lib.indexByte l 32 = -1
  · refine ⟨l, [], false, ?_, ?_, .inl ⟨rfl, rfl, rfl⟩⟩
    · unfold Lib.cut
      rw [hi, hv]
      rfl
    · intro b hb e
      obtain ⟨k, hk⟩ := List.getElem?_of_mem hb
      exact Lib.indexByte_none hv k (e ▸ hk)
  · obtain ⟨k, hk⟩ : ∃ k : Nat, Lib.indexByte l 32 = k := ⟨(Lib.indexByte l 32).toNat, by omega⟩
    obtain ⟨h1, h2⟩ := Lib.indexByte_some hk
    have hkl := (List.getElem?_eq_some_iff.1 h1).1
    refine ⟨l.take k, l.drop (k + 1), true, ?_, ?_, .inr ⟨rfl, ?_⟩⟩
    · unfold Lib.cut
      rw [hi, hk, if_pos (by omega)]
      rfl
    · intro b hb e
      obtain ⟨j, hj⟩ := List.getElem?_of_mem hb
      have hjk : j < k := by
        have := (List.getElem?_eq_some_iff.1 hj).1
        simp at this
        omega
      rw [List.getElem?_take_of_lt hjk] at hj
      exact h2 j hjk (e ▸ hj)
    · have h3 := (List.getElem?_eq_some_iff.1 h1).2
      rw [← h3, ← List.drop_eq_getElem_cons hkl, List.take_append_drop]

theorem cutW_uniq {l w r v q : List UInt8} (h : CutW l w r) (k : CutW l v q) : w = v ∧ r = q := by
  obtain ⟨h1, h2⟩ := h
  obtain ⟨k1, k2⟩ := k
  rcases h2 with ⟨rfl, rfl⟩ | ⟨rfl, hr⟩ <;> rcases k2 with ⟨k3, rfl⟩ | ⟨k3, hq⟩
  · exact ⟨k3, rfl⟩
  · exact absurd rfl (h1 32 (by rw [k3]; simp))
  · exact absurd rfl (k1 32 (by rw [← k3]; simp))
  · exact first_sep h1 k1 k3
end Wh

namespace Go.Proofs.YtfenmeacimfiaaaGreatDoor
open Go.RowKit

/-- Of the elder blocks b alone may have changed. -/
structure Aside (b : Nat) (w w' : World) : Prop where
  os : w'.os = w.os
  tape : w'.tape = w.tape
  output : w'.output = w.output
  size : w.heap.size ≤ w'.heap.size
  block : ∀ k, k < w.heap.size → k ≠ b → w'.heap[k]? = w.heap[k]?
theorem Aside.refl (b : Nat) (w : World) : Aside b w w := ⟨rfl, rfl, rfl, Nat.le_refl _, fun _ _ _ => rfl⟩
theorem Aside.trans {b : Nat} {u v w : World} (h : Aside b u v) (k : Aside b v w) : Aside b u w :=
  ⟨k.os.trans h.os, k.tape.trans h.tape, k.output.trans h.output, Nat.le_trans h.size k.size, fun i hi hb => (k.block i (Nat.lt_of_lt_of_le hi h.size) hb).trans (h.block i hi hb)⟩
theorem Aside.of {b : Nat} {w w' : World} (h : Below w.heap.size w w') : Aside b w w' := ⟨h.os, h.tape, h.output, h.size, fun k hk _ => h.block k hk⟩
theorem Aside.set {b : Nat} {w w' : World} (h : Aside b w w') (i : Nat) (v : Value) : Aside b w (w'.setCell ⟨b, i, none⟩ v) :=
  ⟨h.os, h.tape, h.output, by simp [World.setCell]; exact h.size, fun k hk hb => (Below.heap_setCell _ _ _ _ hb).trans (h.block k hk hb)⟩
theorem Aside.drew {b : Nat} {w w' : World} (h : Aside b w w') (n : Nat) : Aside b w (w'.drewN n) := ⟨h.os, h.tape, h.output, h.size, h.block⟩
theorem Aside.below {b z : Nat} {w w' : World} (h : Aside b w w') (hb : z ≤ b) (hz : z ≤ w.heap.size) : Below z w w' := ⟨h.os, h.tape, h.output, h.size, fun k hk => h.block k (by omega) (by omega)⟩
theorem BoxIs.aside {w w' : World} {b k : Nat} {vs : Array Value} {t : TypeId} (h : BoxIs w k vs t) (ha : Aside b w w') (hne : k ≠ b) : BoxIs w' k vs t := (ha.block k h.lt hne).trans h
theorem BoxIs.set0 {w : World} {b : Nat} {u v : Value} {t : TypeId} (h : BoxIs w b #[u, v] t) (x : Value) : BoxIs (w.setCell ⟨b, 0, none⟩ x) b #[x, v] t := by
  unfold BoxIs at *
  simp [World.setCell, Array.getElem?_modify, h]
theorem BoxIs.set1 {w : World} {b : Nat} {u v : Value} {t : TypeId} (h : BoxIs w b #[u, v] t) (x : Value) : BoxIs (w.setCell ⟨b, 1, none⟩ x) b #[u, x] t := by
  unfold BoxIs at *
  simp [World.setCell, Array.getElem?_modify, h]

/-- The world in which a reader works: the reader's own block is new since w0. -/
structure Ctx (w0 : World) (b : Nat) (w : World) : Prop where
  env : Env w0
  envX : EnvX w0
  envT : EnvT w0
  new : w0.heap.size ≤ b
  below : Below w0.heap.size w0 w
theorem Ctx.aside {w0 : World} {b : Nat} {w w' : World} (h : Ctx w0 b w) (ha : Aside b w w') : Ctx w0 b w' := ⟨h.env, h.envX, h.envT, h.new, h.below.trans (ha.below h.new h.below.size)⟩

/-- A reader of words: what is left of the line, and whether something was wrong. -/
def WordsIs (w : World) (b : Nat) (rest : ByteArray) (bad : Bool) : Prop := BoxIs w b #[.string rest, .bool bad] 53

set_option maxHeartbeats 1000000 in
theorem fail_any (b : Nat) (rest : ByteArray) (bad : Bool) (w : World) (h : WordsIs w b rest bad) :
    Calls Tryz.prog 71 #[.pointer (some ⟨b, 0, none⟩)] w fun e w' => e = .returned (.tuple #[]) ∧ WordsIs w' b rest true ∧ Aside b w w' := by
  have hf := Lib.frozen_of_heap h 1
  have c1 := h.cell (j := 1) rfl
  have HR : Hid (WordsIs (w.setCell ⟨b, 1, none⟩ (.bool true)) b rest true ∧ Aside b w (w.setCell ⟨b, 1, none⟩ (.bool true))) := Lib.hid ⟨h.set1 _, (Aside.refl b w).set 1 _⟩
  clear h
  go_enter Tryz.func71, Tryz.ntmps71
  go_wp2_with fail
  go_end0
  exact ⟨rfl, HR.out⟩

/-- What word returns. -/
def WordPost (b : Nat) (rest : ByteArray) (bad : Bool) (w : World) (e : Ending) (w' : World) : Prop :=
  ∃ (s r : ByteArray) (bad' : Bool), e = .returned (.string s) ∧ WordsIs w' b r bad' ∧ Aside b w w' ∧ s.size ≤ rest.size ∧ r.size ≤ rest.size ∧
    (bad' = false → bad = false ∧ Wh.CutW rest.data.toList s.data.toList r.data.toList) ∧ (bad = false → ∀ v q, Wh.CutW rest.data.toList v q → bad' = false)

set_option maxHeartbeats 2000000 in
theorem word_any (w0 : World) (b : Nat) (rest : ByteArray) (bad : Bool) (w : World) (hc : Ctx w0 b w) (h : WordsIs w b rest bad) (hs : rest.size ≤ 2000000) :
    Calls Tryz.prog 23 #[.pointer (some ⟨b, 0, none⟩)] w (WordPost b rest bad w) := by
  obtain ⟨m, hm⟩ := hc.env.below hc.below (Nat.le_refl _)
  have HC := Lib.hid (Tryz.strings_Cut rest ⟨#[32]⟩ m w (by omega) hm)
  obtain ⟨a, r, mo, hcut, hno, hcase⟩ := Wh.cut_sp rest.data.toList
  change Hid (Calls _ _ _ _ fun e w' => e = .returned (.tuple #[.string ⟨(Lib.cut rest.data.toList [32]).1.toArray⟩, .string ⟨(Lib.cut rest.data.toList [32]).2.1.toArray⟩, .bool (Lib.cut rest.data.toList [32]).2.2]) ∧ _) at HC
  rw [hcut] at HC
  simp only [] at HC
  have hsz := Lib.size_eq rest
  have hA : (⟨a.toArray⟩ : ByteArray).data.toList = a := by simp
  have hR : (⟨r.toArray⟩ : ByteArray).data.toList = r := by simp
  have hAz : (⟨a.toArray⟩ : ByteArray).size ≤ rest.size ∧ (⟨r.toArray⟩ : ByteArray).size ≤ rest.size := by
    have e1 := Lib.size_eq (⟨a.toArray⟩ : ByteArray)
    have e2 := Lib.size_eq (⟨r.toArray⟩ : ByteArray)
    rw [hA] at e1
    rw [hR] at e2
    rcases hcase with ⟨_, h1, h2⟩ | ⟨_, h1⟩
    · have e3 : r.length = 0 := by rw [h2]; rfl
      rw [h1] at hsz
      omega
    · rw [h1] at hsz
      simp at hsz
      omega
  have hem : (⟨r.toArray⟩ : ByteArray).toList.isEmpty = r.isEmpty := by rw [Lib.toList_data, hR]
  have HK : Hid (∀ bad', bad' = (bad || (mo && r.isEmpty)) → (bad' = false → bad = false ∧ Wh.CutW rest.data.toList a r) ∧ (bad = false → ∀ v q, Wh.CutW rest.data.toList v q → bad' = false)) := Lib.hid (by
    rintro bad' rfl
    refine ⟨fun hb => ?_, fun hb v q hq => ?_⟩
    · rw [Bool.or_eq_false_iff] at hb
      refine ⟨hb.1, hno, ?_⟩
      rcases hcase with ⟨_, h1, h2⟩ | ⟨h1, h2⟩
      · exact .inl ⟨h1, h2⟩
      · refine .inr ⟨h2, fun hr => ?_⟩
        rw [h1, hr] at hb
        exact absurd hb.2 (by decide)
    · rw [hb, Bool.false_or]
      rcases hcase with ⟨h1, _, _⟩ | ⟨h1, h2⟩
      · rw [h1]; rfl
      · rw [h1, Bool.true_and]
        cases r with
        | cons x y => rfl
        | nil =>
          obtain ⟨hv, hq2⟩ := hq
          rcases hq2 with ⟨h3, _⟩ | ⟨h3, h4⟩
          · exact absurd rfl (hv 32 (by rw [← h3, h2]; simp))
          · rw [h2] at h3
            exact absurd (Wh.first_sep hno hv h3).2.symm h4)
  have HA : Hid ((⟨a.toArray⟩ : ByteArray).data.toList = a ∧ (⟨r.toArray⟩ : ByteArray).data.toList = r ∧ (⟨a.toArray⟩ : ByteArray).size ≤ rest.size ∧ (⟨r.toArray⟩ : ByteArray).size ≤ rest.size) := Lib.hid ⟨hA, hR, hAz⟩
  clear hcase hno hcut hA hR hAz hsz hm hc
  generalize (⟨a.toArray⟩ : ByteArray) = sA at *
  generalize (⟨r.toArray⟩ : ByteArray) = sR at *
  have c0 := h.cell (j := 0) rfl
  have HW := Lib.hid h
  have hf := Lib.frozen_of_heap h 0
  clear h
  have HN : Hid (∀ n, WordsIs ((w.drewN n).setCell ⟨b, 0, none⟩ (.string sR)) b sR bad ∧ Aside b w ((w.drewN n).setCell ⟨b, 0, none⟩ (.string sR))) := Lib.hid (fun n => ⟨BoxIs.set0 (w := w.drewN n) HW.out _, ((Aside.refl b w).drew n).set 0 _⟩)
  go_enter Tryz.func23, Tryz.ntmps23
  go_upto_region 3 with (go_at_call 70; refine HC.out.mono ?_; rintro e w1 ⟨rfl, n, rfl⟩)
  obtain ⟨hN1, hN2⟩ := HN.out n
  generalize (w.drewN n).setCell _ _ = w2 at *
  have HN1 := Lib.hid hN1
  have HN2 := Lib.hid hN2
  clear hN1 hN2 c0 hf HN
  cases mo
  · go_wp2_with fail
    go_ret
    exact ⟨sA, sR, bad, rfl, HN1.out, HN2.out, HA.out.2.2.1, HA.out.2.2.2, by rw [HA.out.1, HA.out.2.1]; exact (HK.out bad (by simp)).1, (HK.out bad (by simp)).2⟩
  · cases hre : r.isEmpty
    · rw [hre] at hem
      go_wp2_with fail
      go_ret
      exact ⟨sA, sR, bad, rfl, HN1.out, HN2.out, HA.out.2.2.1, HA.out.2.2.2, by rw [HA.out.1, HA.out.2.1]; exact (HK.out bad (by simp [hre])).1, (HK.out bad (by simp [hre])).2⟩
    · rw [hre] at hem
      have HF := Lib.hid (fail_any b sR bad w2 HN1.out)
      go_wp2_with (go_at_call 71; refine HF.out.mono ?_; rintro e w3 ⟨rfl, hw3, ha3⟩)
      go_ret
      exact ⟨sA, sR, true, rfl, hw3, HN2.out.trans ha3, HA.out.2.2.1, HA.out.2.2.2, by rw [HA.out.1, HA.out.2.1]; exact (HK.out true (by simp [hre])).1, (HK.out true (by simp [hre])).2⟩

/-- Two ways in which a number is written and read. -/
def numOf (l : List UInt8) (v : Int) : Prop := l = Lib.itoa v ∧ -9223372036854775808 ≤ v ∧ v ≤ 9223372036854775807

/-- What strconv.Atoi returns: a number that is written so, or none is. -/
def AtoiPost (s : ByteArray) (w : World) (e : Ending) (w' : World) : Prop :=
  ((∃ v : Int, e = .returned (.tuple #[.int .i64 v, .nilIface]) ∧ -9223372036854775808 ≤ v ∧ v ≤ 9223372036854775807 ∧ ∀ u, numOf s.data.toList u → u = v) ∨
    (∃ (v : Int) (ad : Addr), e = .returned (.tuple #[.int .i64 v, .iface 270 (.pointer (some ad))]) ∧ ∀ u, ¬ numOf s.data.toList u)) ∧ Below w.heap.size w w'

theorem parse_digits : ∀ (l : List UInt8) (acc : Nat), l.all Wh.digit = true → l.foldl (fun n c => 10 * n + Wh.dv c) acc < 18446744073709551616 → Lib.parseUint10 acc l = .ok (l.foldl (fun n c => 10 * n + Wh.dv c) acc)
  | [], _, _, _ => rfl
  | c :: r, acc, h, hl => by
    rw [List.all_cons, Bool.and_eq_true] at h
    have hc : 48 ≤ c.toNat ∧ c.toNat ≤ 57 := by simpa [Wh.digit] using h.1
    rw [List.foldl_cons] at hl
    have hge := Wh.dval_ge r (10 * acc + Wh.dv c)
    have hdv : Wh.dv c = c.toNat - 48 := rfl
    have hlt : 10 * acc + (c.toNat - 48) < 18446744073709551616 := by rw [← hdv]; omega
    rw [Lib.parseUint10, if_pos hc, if_neg (by omega), if_neg (by omega), List.foldl_cons, hdv, Nat.mul_comm acc 10]
    rw [hdv] at hl
    exact parse_digits r _ h.2 hl
theorem parseMag_dec (m : Nat) (h : m < 18446744073709551616) : Lib.parseMag (Lib.decDigits m) = .ok m := by
  obtain ⟨h1, h2, h3⟩ := Wh.dec_all m
  unfold Lib.parseMag
  rw [if_neg h3, parse_digits _ 0 h1 (by unfold Wh.dval at h2; rw [h2]; exact h)]
  unfold Wh.dval at h2
  rw [h2]
theorem atoiAll_itoa (v : Int) (h0 : -9223372036854775808 ≤ v) (h1 : v ≤ 9223372036854775807) : Lib.atoiAll (Lib.itoa v) = .ok v := by
  unfold Lib.itoa
  split
  · rw [Lib.atoiAll_minus, parseMag_dec _ (by omega)]
    show (if 9223372036854775808 < v.natAbs then Lib.NumEnd.range else Lib.NumEnd.ok (-(v.natAbs : Int))) = _
    rw [if_neg (by omega)]
    congr 1
    omega
  · obtain ⟨hd, _, hne⟩ := Wh.dec_all v.toNat
    have hp := parseMag_dec v.toNat (by omega)
    cases hl : Lib.decDigits v.toNat with
    | nil => exact absurd hl hne
    | cons c r =>
      rw [hl] at hd hp
      rw [List.all_cons, Bool.and_eq_true] at hd
      have hc : 48 ≤ c.toNat ∧ c.toNat ≤ 57 := by simpa [Wh.digit] using hd.1
      rw [Lib.atoiAll_plain c r (by omega) (by omega), hp]
      show (if 9223372036854775808 ≤ v.toNat then Lib.NumEnd.range else Lib.NumEnd.ok (v.toNat : Int)) = _
      rw [if_neg (by omega)]
      congr 1
      omega

set_option maxHeartbeats 1000000 in
theorem atoi_any (s : ByteArray) (w : World) (hX : EnvX w) (hs : s.size ≤ 2000000) : Calls Tryz.prog 72 #[.string s] w (AtoiPost s w) := by
  have key : ∀ u, numOf s.data.toList u → Lib.atoiAll s.data.toList = .ok u := fun u hu => by rw [hu.1]; exact atoiAll_itoa u hu.2.1 hu.2.2
  obtain ⟨⟨ev, hv, hev⟩, eu, hu, heu⟩ := hX
  cases hA : Lib.atoiAll s.data.toList
  · rename_i v
    obtain ⟨b0, b1⟩ := Lib.atoiAll_bounds hA
    refine (Tryz.strconv_Atoi_ok s (by omega) v hA w).mono ?_
    rintro e w' ⟨rfl, hw'⟩
    refine ⟨.inl ⟨v, rfl, b0, b1, fun u hu => ?_⟩, ?_⟩
    · have := key u hu
      rw [hA] at this
      injection this with this
      exact this.symm
    · rcases hw' with rfl | ⟨t, rfl⟩
      · exact Below.refl _ _
      · exact (bytesWorld_facts w _ t).1
  · refine (Tryz.strconv_Atoi_syntax s (by omega) hA eu w hu heu).mono ?_
    rintro e w' ⟨N, rfl, _, _, hb⟩
    exact ⟨.inr ⟨_, _, rfl, fun u hu => by have := key u hu; rw [hA] at this; cases this⟩, hb⟩
  · refine (Tryz.strconv_Atoi_range s (by omega) hA ev w hv hev).mono ?_
    rintro e w' ⟨N, rfl, _, _, hb⟩
    exact ⟨.inr ⟨_, _, rfl, fun u hu => by have := key u hu; rw [hA] at this; cases this⟩, hb⟩
end Go.Proofs.YtfenmeacimfiaaaGreatDoor
