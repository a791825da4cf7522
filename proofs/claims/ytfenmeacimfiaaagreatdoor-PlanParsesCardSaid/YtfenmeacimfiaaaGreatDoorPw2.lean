/-
  The words of a plan's line: number, next; bytes of the call's own beside a box that is written to.
-/
import Derived.Test.YtfenmeacimfiaaaGreatDoorPw1
namespace Go.Proofs.YtfenmeacimfiaaaGreatDoor
open Go.RowKit

theorem numS_list (v : Int) : (numS v).data.toList = Lib.itoa v := by unfold numS; simp

/-- What number returns. -/
def NumberPost (b : Nat) (rest : ByteArray) (bad : Bool) (w : World) (e : Ending) (w' : World) : Prop :=
  ∃ (v : Int) (r : ByteArray) (bad' : Bool), e = .returned (.int .i64 v) ∧ WordsIs w' b r bad' ∧ Aside b w w' ∧ r.size ≤ rest.size ∧ -9223372036854775808 ≤ v ∧ v ≤ 9223372036854775807 ∧
    (bad' = false → bad = false ∧ Wh.CutW rest.data.toList (Lib.itoa v) r.data.toList) ∧
    (bad = false → ∀ u q, -9223372036854775808 ≤ u → u ≤ 9223372036854775807 → Wh.CutW rest.data.toList (Lib.itoa u) q → bad' = false)

set_option maxHeartbeats 2000000 in
theorem number_any (w0 : World) (b : Nat) (rest : ByteArray) (bad : Bool) (w : World) (hc : Ctx w0 b w) (h : WordsIs w b rest bad) (hs : rest.size ≤ 2000000) :
    Calls Tryz.prog 24 #[.pointer (some ⟨b, 0, none⟩)] w (NumberPost b rest bad w) := by
  have HW := Lib.hid (word_any w0 b rest bad w hc h hs)
  have HCt := Lib.hid hc
  clear h hc
  go_enter Tryz.func24, Tryz.ntmps24
  go_upto_region 2 with (go_at_call 23; refine HW.out.mono ?_; rintro e w1 ⟨s, r, bad1, rfl, hw1, ha1, hs1, hr1, hk1, hk2⟩; have H1 := Lib.hid hw1; have HA1 := Lib.hid ha1; have HK1 := Lib.hid hk1; have HK2 := Lib.hid hk2; clear hw1 ha1 hk1 hk2)
  have HC1 := Lib.hid (HCt.out.aside HA1.out)
  have HAt := Lib.hid (atoi_any s w1 (HC1.out.envX.under HC1.out.below) (by omega))
  go_upto_region 3 with (go_at_call 72; refine HAt.out.mono ?_; rintro e w2 ⟨hp, hb2⟩; have HB2 := Lib.hid hb2; clear hb2; rcases hp with ⟨v, rfl, v0, v1, hu⟩ | ⟨v, ad, rfl, hu⟩)
  · have HU := Lib.hid hu
    clear hu
    have HI := Lib.hid (itoa_any v w2 ((HC1.out.envT.under HC1.out.below).under HB2.out) v0 v1)
    have HV : Hid ((numS v).data.toList = Lib.itoa v) := Lib.hid (numS_list v)
    generalize numS v = nv at *
    cases hq : (nv.toList == s.toList)
    · have HQ : Hid (s.data.toList ≠ Lib.itoa v) := Lib.hid (fun e => by
        rw [← HV.out] at e
        rw [Lib.toList_data, Lib.toList_data, e] at hq
        simp at hq)
      have HF := Lib.hid (fun W hW => fail_any b r bad1 W hW)
      go_wp2_with (first | (go_at_call 73; refine HI.out.mono ?_; rintro e w3 ⟨rfl, hb3⟩; have HB3 := Lib.hid hb3; clear hb3) | (go_at_call 71; refine (HF.out _ ((H1.out.under HB2.out).under HB3.out)).mono ?_; rintro e w4 ⟨rfl, hw4, ha4⟩))
      go_ret
      refine ⟨0, r, true, rfl, hw4, HA1.out.trans ((Aside.of (bTrans HB2.out HB3.out)).trans ha4), hr1, by omega, by omega, fun hh => (by cases hh), fun hb u q u0 u1 hq2 => ?_⟩
      exfalso
      have h3 := HK2.out hb _ _ hq2
      have h4 := Wh.cutW_uniq (HK1.out h3).2 hq2
      have h5 := HU.out u ⟨h4.1, u0, u1⟩
      exact HQ.out (by rw [h4.1, h5])
    · have HQ : Hid (s.data.toList = Lib.itoa v) := Lib.hid (by
        rw [Lib.toList_data, Lib.toList_data] at hq
        rw [← HV.out]
        exact (beq_iff_eq.1 hq).symm)
      go_wp2_with (go_at_call 73; refine HI.out.mono ?_; rintro e w3 ⟨rfl, hb3⟩; have HB3 := Lib.hid hb3; clear hb3)
      go_ret
      refine ⟨v, r, bad1, rfl, (H1.out.under HB2.out).under HB3.out, HA1.out.trans (Aside.of (bTrans HB2.out HB3.out)), hr1, v0, v1, fun hh => ?_, fun hb u q u0 u1 hq2 => HK2.out hb _ _ hq2⟩
      have h3 := HK1.out hh
      rw [HQ.out] at h3
      exact h3
  · have HU := Lib.hid hu
    clear hu
    have HF := Lib.hid (fun W hW => fail_any b r bad1 W hW)
    go_wp2_with (go_at_call 71; refine (HF.out _ (H1.out.under HB2.out)).mono ?_; rintro e w4 ⟨rfl, hw4, ha4⟩)
    go_ret
    refine ⟨0, r, true, rfl, hw4, HA1.out.trans ((Aside.of HB2.out).trans ha4), hr1, by omega, by omega, fun hh => (by cases hh), fun hb u q u0 u1 hq2 => ?_⟩
    exfalso
    have h3 := HK2.out hb _ _ hq2
    have h4 := Wh.cutW_uniq (HK1.out h3).2 hq2
    exact HU.out u ⟨h4.1, u0, u1⟩

/-- CutPrefix at one byte. -/
theorem cutPre_one (rest : ByteArray) (c : UInt8) (w : World) : Calls Tryz.prog 141 #[.string rest, .string ⟨#[c]⟩] w fun e w' =>
    ∃ (t : ByteArray) (m : Bool), e = .returned (.tuple #[.string t, .bool m]) ∧ w' = w ∧ t.size ≤ rest.size ∧ ((m = true ∧ rest.data.toList = c :: t.data.toList) ∨ (m = false ∧ t = rest ∧ ∀ q, rest.data.toList ≠ c :: q)) := by
  refine (Tryz.strings_CutPrefix rest ⟨#[c]⟩ w).mono ?_
  rintro e w' ⟨rfl, rfl⟩
  have hc : (⟨#[c]⟩ : ByteArray).data.toList = [c] := rfl
  rw [hc]
  have hsz := Lib.size_eq rest
  cases hl : rest.data.toList with
  | nil =>
    refine ⟨_, _, rfl, rfl, ?_, .inr ⟨rfl, ?_, fun q e => by cases e⟩⟩
    · rw [Lib.size_eq]; simp [Lib.trimPrefix, Lib.hasPrefix]
    · have : (Lib.trimPrefix [] [c]).toArray = rest.data := by
        rw [← Array.toArray_toList (xs := rest.data), hl]
        simp [Lib.trimPrefix, Lib.hasPrefix]
      rw [this]
  | cons x q =>
    by_cases hx : x = c
    · subst hx
      have ht : Lib.trimPrefix (x :: q) [x] = q := by simp [Lib.trimPrefix, Lib.hasPrefix]
      have hp : Lib.hasPrefix (x :: q) [x] = true := by simp [Lib.hasPrefix]
      rw [ht, hp]
      refine ⟨_, _, rfl, rfl, ?_, .inl ⟨rfl, by simp⟩⟩
      rw [Lib.size_eq, hsz, hl]
      simp
    · have hp : Lib.hasPrefix (x :: q) [c] = false := by
        simp only [Lib.hasPrefix, List.isPrefixOf, Bool.and_true]
        simpa using fun e => hx e.symm
      have ht : Lib.trimPrefix (x :: q) [c] = x :: q := by unfold Lib.trimPrefix; rw [hp]; rfl
      rw [ht, hp, ← hl]
      refine ⟨_, _, rfl, rfl, by simp, .inr ⟨rfl, by simp, fun r e => ?_⟩⟩
      rw [hl] at e
      injection e with e _
      exact hx e

/-- What next does. -/
def NextPost (b : Nat) (rest : ByteArray) (bad : Bool) (w : World) (e : Ending) (w' : World) : Prop :=
  ∃ (r : ByteArray) (bad' : Bool), e = .returned (.tuple #[]) ∧ WordsIs w' b r bad' ∧ Aside b w w' ∧ r.size ≤ rest.size ∧
    (bad' = false → bad = false ∧ rest.data.toList = 32 :: r.data.toList) ∧ (bad = false → ∀ q, rest.data.toList = 32 :: q → bad' = false)

set_option maxHeartbeats 2000000 in
theorem next_any (b : Nat) (rest : ByteArray) (bad : Bool) (w : World) (h : WordsIs w b rest bad) :
    Calls Tryz.prog 145 #[.pointer (some ⟨b, 0, none⟩)] w (NextPost b rest bad w) := by
  have HC := Lib.hid (cutPre_one rest 32 w)
  have c0 := h.cell (j := 0) rfl
  have H := Lib.hid h
  clear h
  go_enter Tryz.func145, Tryz.ntmps145
  go_upto_region 1 with (go_at_call 141; refine HC.out.mono ?_; rintro e w1 ⟨t, m, rfl, hw1, hts, hk⟩; subst w1; have HK := Lib.hid hk; clear hk)
  rcases HK.out with ⟨rfl, hk⟩ | ⟨rfl, ht, hk⟩
  · have HK2 := Lib.hid hk
    clear hk HK
    have hf := Lib.frozen_of_heap H.out 0
    have HR : Hid (WordsIs (w.setCell ⟨b, 0, none⟩ (.string t)) b t bad ∧ Aside b w (w.setCell ⟨b, 0, none⟩ (.string t))) := Lib.hid ⟨BoxIs.set0 H.out _, (Aside.refl b w).set 0 _⟩
    go_wp2_with fail
    go_end0
    refine ⟨t, bad, rfl, HR.out.1, HR.out.2, hts, fun hb => ⟨hb, HK2.out⟩, fun hb q _ => hb⟩
  · subst ht
    have HK2 := Lib.hid hk
    clear hk HK
    have HF := Lib.hid (fail_any b t bad w H.out)
    go_wp2_with (go_at_call 71; refine HF.out.mono ?_; rintro e w4 ⟨rfl, hw4, ha4⟩; have hf := Lib.frozen_of_heap hw4 0; have c0 := hw4.cell (j := 0) rfl; have HW4 := Lib.hid hw4; clear hw4)
    go_end0
    refine ⟨t, true, rfl, HW4.out.set0 _, ha4.set 0 _, hts, fun hb => (by cases hb), fun _ q hq => absurd hq (HK2.out q)⟩

/-- Bytes of the call's own, above a height. -/
def OwnN (z : Nat) (wx : World) (a : Option Addr) (cap : Nat) (out : List UInt8) : Prop := wx.ownsRow z 5 1 (.slice a out.length cap) out.length (out.map vb)
theorem OwnN.nil (z : Nat) (wx : World) : OwnN z wx none 0 [] := ⟨rfl, .inl ⟨rfl, rfl⟩⟩
theorem OwnN.keep {z : Nat} {wx w' : World} {a : Option Addr} {cap : Nat} {out : List UInt8} (h : OwnN z wx a cap out) (hk : ∀ k, z ≤ k → k < wx.heap.size → w'.heap[k]? = wx.heap[k]?) : OwnN z w' a cap out := by
  refine ⟨h.1, ?_⟩
  rcases h.2 with hn | ⟨g, c, cur, hv, h1, h2, h3⟩
  · exact .inl hn
  · refine .inr ⟨g, c, cur, hv, h1, ?_, h3⟩
    rw [hk g h1 (Array.getElem?_eq_some_iff.1 h2).1]
    exact h2
theorem OwnN.under {z : Nat} {wx w' : World} {a : Option Addr} {cap : Nat} {out : List UInt8} (h : OwnN z wx a cap out) (hb : Below wx.heap.size wx w') : OwnN z w' a cap out := h.keep (fun k _ hk => hb.block k hk)
theorem OwnN.aside {z b : Nat} {wx w' : World} {a : Option Addr} {cap : Nat} {out : List UInt8} (h : OwnN z wx a cap out) (hb : Aside b wx w') (hz : b < z) : OwnN z w' a cap out := h.keep (fun k h1 hk => hb.block k hk (by omega))

set_option maxRecDepth 100000 in
theorem wp_app1N {ops : Array Oper} {rest : List Oper} {o : Oper} {act : Act} {Q : Exit → Act → World → Prop} {te : TypeId} {z : Nat} {wx : World} {a : Option Addr} {cap : Nat} {out : List UInt8}
    (hz : z ≤ wx.heap.size) (hO : OwnN z wx a cap out) (y : UInt8) (hby : out.length + 1 ≤ 140737488355328) (hgd : o.guard = none) (s x : Operand)
    (ho : o.op = .call { callee := .builtin .append, args := #[s, x], argTypes := #[137, 137] }) (hs : act.eval s = .slice a out.length cap) (hx : act.eval x = .slice (some ⟨wx.heap.size, 0, none⟩) 1 1)
    (h : ∀ a' cap' w', OwnN z w' a' cap' (out ++ [y]) → Below z wx w' → wpList Tryz.prog ops Q rest (act.put o.dst (.slice a' (out.length + 1) cap')) w') :
    wpList Tryz.prog ops Q (o :: rest) act (wx.alloc (.cells #[Value.int .u8 y.toNat] te)) := by
  obtain ⟨i, ht, hi, hz0, hz1, hz2, hz3⟩ := elem_byte
  have hba : z ≤ (wx.alloc (.cells #[Value.int .u8 y.toNat] te)).heap.size := by simp; omega
  refine wpList_append_lies _ hgd s x 137 ho z 5 i (.int .u8 0) 1 1 ht hi hz0 hz1 hz2 hz3 (by decide) _ out.length (out.map vb) hs (World.ownsRow.alloc hO _) ⟨wx.heap.size, 0, none⟩ 1 1 [vb y] hx rfl (World.news_of_block (heap_alloc_new wx (.cells #[Value.int .u8 y.toNat] te))) (by simp [Value.oneCell']) (by decide) (by unfold maxLen; omega) (by omega) hba _ rfl ?_
  intro g cap' w' hown hgrow hat hlt
  refine h _ cap' w' ?_ (((Below.refl z wx).alloc hz _).grown hgrow hba (fun kk hkk => own_base hO kk hkk))
  unfold OwnN
  rw [List.map_append, List.length_append]
  exact hown

set_option maxRecDepth 100000 in
theorem convN {z : Nat} {wx : World} {a : Option Addr} {cap : Nat} {out : List UInt8} (h : OwnN z wx a cap out) :
    (convert 137 9 (.slice a out.length cap)).run Tryz.prog wx = .ok (.string ⟨out.toArray⟩) wx := by
  have hh := own_holds h
  rcases h.2 with ⟨hv, h0⟩ | ⟨g, cap', cur, hv, _⟩
  · injection hv with e1 e2 e3
    rw [List.length_eq_zero_iff] at h0
    subst e1 h0
    rw [List.length_nil, run_convert_bytes_string wx 137 9 5 none 0 cap Tryz.underlying137 Tryz.underlying5 Tryz.underlying9]
    simp [Conv.bytesToString]
    rfl
  · injection hv with e1 e2 e3
    subst e1
    refine run_convert_bytes_back wx 137 9 5 ⟨g, 0, none⟩ cap out Tryz.underlying137 Tryz.underlying5 Tryz.underlying9 fun j hj => ?_
    have e : (⟨g, 0, none⟩ : Addr).add j = ⟨g, j, none⟩ := by unfold Addr.add; split <;> simp_all
    rw [e]
    rcases hh with hh | ⟨g', o, hg, _, hc⟩
    · have : (out.map vb).length = 0 := by rw [hh]; rfl
      simp at this
      subst this
      simp at hj
    · injection hg with hg
      injection hg with hg1 hg2
      have := hc j (vb out[j]) (by simp [List.getElem?_eq_getElem hj])
      rw [← hg1, ← hg2, Nat.zero_add] at this
      exact this
end Go.Proofs.YtfenmeacimfiaaaGreatDoor
