/-
  slices.Concat of texts.
-/
import Derived.Test.YtjcpcmiijadmcaaDoorOwn
import Derived.Maps.AppendAt
import Derived.Lib.AppendZeros
namespace Go.Proofs.YtjcpcmiijadmcaaDoor
open Go.RowKit

section
variable {P : Program}

/-- append of a slice that came in (nil, empty or not) to a row of the call's own. -/
theorem run_app_in {t e ty : TypeId} {z : Value} {bytes : Nat} {w0 wx : World} {a : Option Addr} {n cap : Nat} {xs : List Value}
    (hE : ElemOk P t e z bytes) (hO : Own e w0 wx a n cap xs) (A : Option Addr) (m c : Nat) (news : List Value) (hl : news.length = m) (hN : Holds wx A news) (h1 : ∀ u ∈ news, u.oneCell' = true)
    (h63 : n + m ≤ 9223372036854775807) (hby : (n + m) * bytes ≤ 140737488355328) :
    ∃ a' cap' w', (Builtin.append_ #[t, t] ty #[.slice a n cap, .slice A m c]).run P wx = .ok (.slice a' (n + m) cap') w' ∧ Own e w0 w' a' (n + m) cap' (xs ++ news) := by
  obtain ⟨i, ht, hi, hz0, hz1, hz2, hz3⟩ := hE
  have hba : w0.heap.size ≤ wx.heap.size := hO.2.size
  cases A with
  | none =>
    have hn : news = [] := by
      rcases hN with h | ⟨b, off, h, _⟩
      · exact h
      · cases h
    subst hn
    obtain rfl : m = 0 := hl.symm
    refine ⟨a, cap, wx, ?_, by simpa using hO⟩
    rcases hO.1.2 with ⟨hv, rfl⟩ | ⟨g, cap', cur, hv, _, _, hnc, _⟩
    · rw [hv]
      simp [Builtin.append_, run_underlying ht, sizeOf, typeInfo, hi, Builtin.lenOf, Builtin.firstCells]
    · rw [hv]
      simp [Builtin.append_, run_underlying ht, sizeOf, typeInfo, hi, Builtin.lenOf, Builtin.firstCells, hnc, storeCells]
      injection hv with e1 _ e3
      exact ⟨e1.symm, e3.symm⟩
  | some ad =>
    have hcells : ∀ (j : Nat) u, news[j]? = some u → wx.cell? (ad.add j) = some u := by
      intro j u hu
      obtain ⟨b, off, ha, _, hc⟩ := hN.at hu
      injection ha with ha
      subst ha
      have e2 : (⟨b, off, Option.none⟩ : Addr).add j = ⟨b, off + j, Option.none⟩ := by unfold Addr.add; split <;> simp_all
      rw [e2]
      exact hc
    obtain ⟨v', w', hrun, h2, h3, _, _⟩ := run_append_own_at (P := P) wx w0.heap.size t ty e i z 1 bytes ht hi hz0 hz1 hz2 hz3 (by decide) (.slice a n cap) n xs hO.1 ad m c news (by simpa using hl) hcells h1 (by unfold maxLen; omega) hby hba
    obtain ⟨a', cap', rfl, _⟩ := own_form h2
    exact ⟨a', cap', w', hrun, h2, hO.2.grown h3 hba (fun kk hkk => own_base hO.1 kk hkk)⟩
end

/-- A slice of texts that came in. -/
structure Part where
  a : Option Addr
  c : Nat
  xs : List ByteArray
def Part.val (p : Part) : Value := .slice p.a p.xs.length p.c
def Part.ok (w : World) (p : Part) : Prop := Holds w p.a (p.xs.map Value.string)
def partsOut (ps : List Part) : List ByteArray := (ps.map (·.xs)).flatten

theorem partsOut_take {ps : List Part} {k : Nat} {p : Part} (h : ps[k]? = some p) : partsOut (ps.take (k + 1)) = partsOut (ps.take k) ++ p.xs := by
  unfold partsOut
  rw [List.take_add_one, h]
  simp

theorem partsOut_le {ps : List Part} (k : Nat) : (partsOut (ps.take k)).length ≤ (partsOut ps).length := by
  have : partsOut ps = partsOut (ps.take k) ++ partsOut (ps.drop k) := by
    unfold partsOut
    rw [← List.flatten_append, ← List.map_append, List.take_append_drop]
  rw [this, List.length_append]
  omega

set_option maxHeartbeats 1000000 in
theorem growStr_any (n : Nat) (w : World) (hn : n ≤ 1099511627776) :
    Calls Tryd.prog 65 #[.slice none 0 0, .int .i64 n] w fun e w' => ∃ a cap, e = .returned (.slice a 0 cap) ∧ OwnS w w' a cap [] := by
  rcases Nat.eq_zero_or_pos n with rfl | h0
  · go_enter Tryd.func65, Tryd.ntmps65
    go_wp2_with fail
    go_ret
    exact ⟨_, _, rfl, OwnS.nil (Below.refl _ _)⟩
  · obtain ⟨i, ht, hi, hz0, hz1, hz2, hz3⟩ := elem_str
    have hrun := fun ty => Lib.run_append_nil_zeros (P := Tryd.prog) w 24 3 ty 9 i (.string ⟨#[]⟩) .i64 .i64 ht Tryd.underlying3 hi hz0 n h0 (by omega) (by omega) (by rw [hz2]; omega)
    have hG : n ≤ grownCap w n 0 9 := grownCap_ge _ _ _ _
    have hG2 : grownCap w n 0 9 ≤ maxLen := grownCap_le_maxLen _ _ _ _ (by unfold maxLen; omega)
    have HR := Lib.hid hrun
    clear hrun hi ht hz0 hz1 hz2 hz3
    generalize grownCap w n 0 9 = G at *
    go_enter Tryd.func65, Tryd.ntmps65
    go_wp2_with (at_builtin; refine Lib.wpList_append_run _ rfl (.tmp 20) (.tmp 21) 24 3 rfl _ _ rfl rfl _ _ (HR.out _) ?_)
    go_ret
    refine ⟨_, _, rfl, ?_, ?_⟩
    · refine ⟨rfl, .inr ⟨w.heap.size, G, _, rfl, Nat.le_refl _, heap_alloc_new w.drew _, Nat.zero_le _, hG2, ?_, rfl⟩⟩
      simp [Builtin.zeroCells]
      omega
    · have := bAlloc (Below.refl w.heap.size w) (.cells (Builtin.zeroCells (Value.string ⟨#[]⟩).cells n ++ Builtin.zeroCells (Value.string ⟨#[]⟩).cells (G - n)) 9)
      exact ⟨this.os, this.tape, this.output, this.size, this.block⟩

set_option maxHeartbeats 1000000 in
set_option maxRecDepth 100000 in
theorem concat_any (ps : List Part) (A : Option Addr) (C : Nat) (w : World) (hA : Holds w A (ps.map Part.val)) (hp : ∀ p ∈ ps, Part.ok w p) (hl : (partsOut ps).length ≤ 1099511627776) (hl2 : ps.length ≤ 1000) :
    Calls Tryd.prog 32 #[.slice A ps.length C] w fun e w' => ∃ a cap, e = .returned (.slice a (partsOut ps).length cap) ∧ OwnS w w' a cap (partsOut ps) := by
  have HA := Lib.hid hA
  have HP := Lib.hid hp
  have HT := Lib.hid (fun k => partsOut_le (ps := ps) k)
  clear hA hp
  go_enter Tryd.func32, Tryd.ntmps32
  go_wp2_with fail
  go_loopg [3, 11] ps.length (fun g s i wx => ∃ k m : Nat, k + g = ps.length ∧ i = .int .i64 k ∧ s = .int .i64 m ∧ m ≤ 1099511627776 ∧ w = wx ∧ Hid (m = (partsOut (ps.take k)).length))
  case atStart => exact ⟨0, 0, by omega, rfl, rfl, by omega, rfl, Lib.hid rfl⟩
  case round =>
    obtain ⟨k, m, hk, rfl, rfl, hm, rfl, HM⟩ := hrel
    by_cases hlt : k < ps.length
    · obtain ⟨g, rfl⟩ : ∃ g, gk = g + 1 := ⟨gk - 1, by omega⟩
      obtain ⟨p, hx⟩ : ∃ p, ps[k]? = some p := ⟨_, List.getElem?_eq_getElem hlt⟩
      obtain ⟨b, off, ha, hb, hc⟩ := HA.out.at (k := k) (u := p.val) (by simp [hx])
      subst ha
      have HS := Lib.hid (partsOut_take hx)
      have hs2 : m + p.xs.length ≤ 1099511627776 := by
        have := HT.out (k + 1)
        rw [HS.out, List.length_append, ← HM.out] at this
        omega
      have HM2 : Hid (m + p.xs.length = (partsOut (ps.take (k + 1))).length) := Lib.hid (by rw [HS.out, List.length_append, ← HM.out])
      clear hx
      unfold Part.val at hc
      go_wp2_with fail
      go_roundg g
      case measure => omega
      case rel => exact ⟨k + 1, m + p.xs.length, by omega, by go_num, by go_num, hs2, rfl, HM2⟩
    · have HM2 : Hid (m = (partsOut ps).length) := Lib.hid (by rw [HM.out, List.take_of_length_le (by omega)])
      clear HM
      go_wp2_with fail
      refine (growStr_any m _ hm).mono ?_
      rintro e w1 ⟨a, cap, rfl, hO⟩
      have HO := Lib.hid hO
      clear hO
      go_wp2_with fail
      go_loopg [6, 27] ps.length (fun g s i wx => ∃ (k m : Nat) (a : Option Addr) (cap : Nat), k + g = ps.length ∧ i = .int .i64 k ∧ s = .slice a m cap ∧ m ≤ 1099511627776 ∧ Hid (OwnS w wx a cap (partsOut (ps.take k))) ∧ Hid (m = (partsOut (ps.take k)).length))
      case atStart => exact ⟨0, 0, a, cap, by omega, rfl, rfl, by omega, HO, Lib.hid rfl⟩
      case round =>
        clear HM2 HO
        obtain ⟨k, m, a, cap, hk, rfl, rfl, hm, HO, HM⟩ := hrel
        by_cases hlt : k < ps.length
        · obtain ⟨g, rfl⟩ : ∃ g, gk = g + 1 := ⟨gk - 1, by omega⟩
          obtain ⟨p, hx⟩ : ∃ p, ps[k]? = some p := ⟨_, List.getElem?_eq_getElem hlt⟩
          have hbl := HO.out.below
          obtain ⟨b, off, ha, hb, hc⟩ := (HA.out.under hbl).at (k := k) (u := p.val) (by simp [hx])
          subst ha
          have HS := Lib.hid (partsOut_take hx)
          have hs2 : m + p.xs.length ≤ 1099511627776 := by
            have := HT.out (k + 1)
            rw [HS.out, List.length_append, ← HM.out] at this
            omega
          have HM2 : Hid (m + p.xs.length = (partsOut (ps.take (k + 1))).length) := Lib.hid (by rw [HS.out, List.length_append, ← HM.out])
          have hOw : Own 9 w wr a m cap ((partsOut (ps.take k)).map Value.string) := by rw [HM.out]; exact HO.out
          have hPk : Part.ok wr p := (HP.out p (List.mem_of_getElem? hx)).under hbl
          have HRun := Lib.hid (fun ty => run_app_in (ty := ty) elem_str hOw p.a p.xs.length p.c (p.xs.map Value.string) (by simp) hPk (by simp [Value.oneCell']) (by omega) (by omega))
          clear hx hOw hPk hbl
          unfold Part.val at hc
          obtain ⟨a', cap', w', hrun, hO'⟩ := HRun.out 24
          have HR2 := Lib.hid hrun
          have HO2 : Hid (OwnS w w' a' cap' (partsOut (ps.take (k + 1)))) := Lib.hid (by
            unfold OwnS
            rw [← HM2.out, HS.out, List.map_append]
            exact hO')
          clear hrun hO' HRun
          go_wp2_with (at_builtin; refine Lib.wpList_append_run _ rfl (.tmp 31) (.tmp 32) 24 24 rfl _ _ rfl rfl _ _ HR2.out ?_)
          go_roundg g
          case measure => omega
          case rel => exact ⟨k + 1, m + p.xs.length, a', cap', by omega, by go_num, rfl, hs2, HO2, HM2⟩
        · rw [List.take_of_length_le (by omega)] at HO HM
          go_wp2_with fail
          go_ret
          exact ⟨a, cap, by rw [← HM.out]; rfl, HO.out⟩
end Go.Proofs.YtjcpcmiijadmcaaDoor
