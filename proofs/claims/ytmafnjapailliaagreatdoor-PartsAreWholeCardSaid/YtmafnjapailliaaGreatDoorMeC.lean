/-
  The texts Me9, Me10, Me11, in one.
-/
import Derived.Test.YtmafnjapailliaaGreatDoorMeB
import Derived.Shelf.Strings.BuilderK
import Derived.ShutString
namespace Go.Proofs.YtmafnjapailliaaGreatDoor
open Go.RowKit Wh.Sha

theorem RowG.cell_at {e : TypeId} {m : Nat} {w : World} {B cap g : Nat} {xs : List (List Value)} (hm : 0 < m) (h : RowG e m w B (some ⟨g, 0, none⟩) cap xs) {k : Nat} {row : List Value} (hk : xs[k]? = some row) {j : Nat} {u : Value} (hu : row[j]? = some u) : w.cell? ⟨g, k * m + j, none⟩ = some u := by
  obtain ⟨b, off, ha, _, hc⟩ := (h.holds hm).at hk
  injection ha with ha
  injection ha with h1 h2
  subst h1 h2
  have := hc j u hu
  rw [Nat.zero_add] at this
  exact this
theorem RowG.frozen_at {e : TypeId} {m : Nat} {w : World} {B cap g : Nat} {xs : List (List Value)} (h : RowG e m w B (some ⟨g, 0, none⟩) cap xs) (j : Nat) : w.frozen? ⟨g, j, none⟩ = false := by
  rcases h.2.2 with ⟨h1, _⟩ | ⟨g', c, cur, h1, h2, h3, _⟩
  · cases h1
  · injection h1 with h1
    injection h1 with h1
    injection h1 with h1
    subst h1
    exact Lib.frozen_of_heap h3 j
/-- What stands there already is stored. -/
theorem RowG.again {e : TypeId} {m : Nat} {w : World} {B cap g : Nat} {xs : List (List Value)} (h : RowG e m w B (some ⟨g, 0, none⟩) cap xs) {j : Nat} {v : Value} (hc : w.cell? ⟨g, j, none⟩ = some v) : RowG e m (w.setCell ⟨g, j, none⟩ v) B (some ⟨g, 0, none⟩) cap xs := by
  refine ⟨h.1, h.2.1, ?_⟩
  rcases h.2.2 with ⟨h1, _⟩ | ⟨g', c, cur, h1, h2, h3, h4⟩
  · cases h1
  · have h5 := h1
    injection h1 with h1
    injection h1 with h1
    injection h1 with h1
    subst h1
    refine .inr ⟨g, c, cur, h5, h2, ?_, h4⟩
    have hcj : cur[j]? = some v := by
      simp only [World.cell?, h3] at hc
      exact hc
    have hx : BoxIs (w.setCell ⟨g, j, none⟩ v) g (cur.setIfInBounds j v) e := BoxIs.putAt (show BoxIs w g cur e from h3) j v
    have hs : cur.setIfInBounds j v = cur := by
      apply Array.ext_getElem?
      intro i
      rw [Array.getElem?_setIfInBounds]
      by_cases hi : j = i
      · subst hi
        rw [if_pos rfl, hcj]
        have := (Array.getElem?_eq_some_iff.1 hcj).1
        rw [if_pos this]
      · rw [if_neg hi]
    rw [hs] at hx
    exact hx
theorem RowG.none_len {e : TypeId} {m : Nat} {w : World} {B cap : Nat} {ra : Option Addr} {xs : List (List Value)} (h : RowG e m w B ra cap xs) (hn : ra = none) : xs.length = 0 := by
  rcases h.2.2 with ⟨_, h1⟩ | ⟨g', c, cur, h1, _⟩
  · exact h1
  · rw [hn] at h1
    cases h1

/-- What Versions returns. -/
def VersPost (A : ByteArray) (s : MSt) (w : World) (e : Ending) (w' : World) : Prop :=
  ∃ ra n cap, e = .returned (.tuple #[.slice ra n cap, .int .i64 0]) ∧ s.vers.length = n ∧ RowG 49 6 w' w.heap.size ra cap (s.vers.map (verCells A s.now)) ∧ Below w.heap.size w w'
set_option maxHeartbeats 2000000 in
set_option maxRecDepth 100000 in
theorem versions_any (B : Nat) (A : ByteArray) (M : MB) (s : MSt) (w : World) (hE : Env w) (hM : MemAt w B A M s) (hA : PathA A) (hv : hasB s.f 1024 = true) (hl : s.vers.length ≤ 20) :
    Calls Tryz.prog 13 #[ptr M.b, .string A] w (VersPost A s w) := by
  have HIs := Lib.hid (isFile_any A w hA hE)
  have HHa := Lib.hid (fun W (hb : Below w.heap.size w W) => has_any M.b s.f 1024 W (hM.below hb).has)
  rw [hv] at HHa
  have HM := Lib.hid hM
  have HA := Lib.hid hA
  have HCl := Lib.hid cloneM_nil
  obtain ⟨len, hlen⟩ : ∃ len, s.vers.length = len := ⟨_, rfl⟩
  have HLen := Lib.hid hlen
  rw [hlen] at hl
  clear hM hE hA hv hlen
  go_enter Tryz.func13, Tryz.ntmps13
  go_upto_region 6 with (first | (go_at_call 29; refine HIs.out.mono ?_; rintro e w1 ⟨rfl, hb1⟩) | (go_at_call 36; refine (HHa.out _ hb1).mono ?_; rintro e w' ⟨rfl, hw⟩; (have hw2 := hw.symm; clear hw; subst hw2)))
  have HM1 := Lib.hid (HM.out.below hb1)
  have HB1 := Lib.hid hb1
  have s18 : w1.drew.cell? ⟨M.b, 18, none⟩ = some (.map (some M.vb)) := HM1.out.versm
  have HPk := Lib.hid (pathKey_any M.b s.f A w1.drew HA.out HM1.out.has)
  clear hb1 HIs HHa
  --R6
  refine wp_region_seq (fun W => W.cell? ⟨M.b, 18, none⟩ = some (.map (some M.vb))) [(0, true), (1, true), (2, true), (3, true), (4, true), (5, true), (6, false), (7, false), (8, false), (9, true)] (by as_aux_lemma => kernel_rfl) (by as_aux_lemma => kernel_rfl) (by decide) (by as_aux_lemma => kernel_rfl) s18 ?_
  intro OPS HO
  refine seq_take (o := ⟨_, _, _, _, _, _⟩) (v := ?_) (by rw [HO.out]; rfl) (by rfl) ?_ ?_
  rotate_left 1
  · first | ((intro W _; go_simp) <;> with_reducible rfl) | (intro W hW; skip; (go_simp <;> with_reducible rfl))
  try simp only [Act.put, List.setIfInBounds_toArray, List.set_cons_zero, List.set_cons_succ]
  refine seq_take (o := ⟨_, _, _, _, _, _⟩) (v := ?_) (by rw [HO.out]; rfl) (by rfl) ?_ ?_
  rotate_left 1
  · first | ((intro W _; go_simp) <;> with_reducible rfl) | (intro W hW; skip; (go_simp <;> with_reducible rfl))
  try simp only [Act.put, List.setIfInBounds_toArray, List.set_cons_zero, List.set_cons_succ]
  refine seq_take (o := ⟨_, _, _, _, _, _⟩) (v := ?_) (by rw [HO.out]; rfl) (by rfl) ?_ ?_
  rotate_left 1
  · first | ((intro W _; go_simp) <;> with_reducible rfl) | (intro W hW; skip; (go_simp <;> with_reducible rfl))
  try simp only [Act.put, List.setIfInBounds_toArray, List.set_cons_zero, List.set_cons_succ]
  refine seq_take (o := ⟨_, _, _, _, _, _⟩) (v := ?_) (by rw [HO.out]; rfl) (by rfl) ?_ ?_
  rotate_left 1
  · first | ((intro W _; go_simp) <;> with_reducible rfl) | (intro W hW; skip; (go_simp <;> with_reducible rfl))
  try simp only [Act.put, List.setIfInBounds_toArray, List.set_cons_zero, List.set_cons_succ]
  refine seq_take (o := ⟨_, _, _, _, _, _⟩) (v := ?_) (by rw [HO.out]; rfl) (by rfl) ?_ ?_
  rotate_left 1
  · first | ((intro W _; go_simp) <;> with_reducible rfl) | (intro W hW; skip; (go_simp <;> with_reducible rfl))
  try simp only [Act.put, List.setIfInBounds_toArray, List.set_cons_zero, List.set_cons_succ]
  refine seq_take (o := ⟨_, _, _, _, _, _⟩) (v := ?_) (by rw [HO.out]; rfl) (by rfl) ?_ ?_
  rotate_left 1
  · first | ((intro W _; go_simp) <;> with_reducible rfl) | (intro W hW; skip; (go_simp <;> with_reducible rfl))
  try simp only [Act.put, List.setIfInBounds_toArray, List.set_cons_zero, List.set_cons_succ]
  refine seq_do (o := ⟨_, _, _, _, _, _⟩) (by rw [HO.out]; rfl) (by rfl) (fun K hK => ?_)
  go_wp2_with (go_at_call 39; refine HPk.out.mono ?_; rintro e w2 ⟨rfl, hb2⟩)
  have hS : w2.cell? ⟨M.b, 18, none⟩ = some (.map (some M.vb)) := cell_kp (Kp.of (F := fun _ => False) hb2) s18 (fun e => e)
  refine hK.out _ _ hS (fun _ => ?_)
  clear hK K
  try simp only [Act.put, List.setIfInBounds_toArray, List.set_cons_zero, List.set_cons_succ]
  refine seq_do (o := ⟨_, _, _, _, _, _⟩) (by rw [HO.out]; rfl) (by rfl) (fun K hK => ?_)
  have hlk : (Instr.lookup 86 (.map (some M.vb)) (.string A) false).run Tryz.prog w2 = .ok (.slice M.ra len M.cap) w2 := by
    rw [← HLen.out]
    exact (HM1.out.drew.below hb2).vers.look Tryz.underlying9 HA.out.max Tryz.underlying86 (zeroVers w2)
  go_wp2_with fail
  refine hK.out _ _ hS (fun _ => ?_)
  clear hK K
  try simp only [Act.put, List.setIfInBounds_toArray, List.set_cons_zero, List.set_cons_succ]
  refine seq_do (o := ⟨_, _, _, _, _, _⟩) (by rw [HO.out]; rfl) (by rfl) (fun K hK => ?_)
  clear hlk
  have hrw : RowG 49 6 w2 B M.ra M.cap (s.vers.map (verCells A s.now)) := (HM1.out.drew.below hb2).row
  have HCv := Lib.hid (cloneV_any A s.now s.vers M.ra M.cap len w2 HLen.out (by omega) (hrw.holds (by decide)) (fun h => by have := hrw.none_len h; rw [List.length_map, HLen.out] at this; exact this))
  clear hrw
  go_wp2_with (go_at_call 38; refine HCv.out.mono ?_; rintro e w3 ⟨ra3, cap3, rfl, hr3, hb3⟩)
  have hS2 : w3.cell? ⟨M.b, 18, none⟩ = some (.map (some M.vb)) := cell_kp (Kp.of (F := fun _ => False) hb3) hS (fun e => e)
  replace hS := hS2
  clear hS2
  refine hK.out _ _ hS (fun _ => ?_)
  clear hK K
  try simp only [Act.put, List.setIfInBounds_toArray, List.set_cons_zero, List.set_cons_succ]
  refine seq_take (o := ⟨_, _, _, _, _, _⟩) (v := ?_) (by rw [HO.out]; rfl) (by rfl) ?_ ?_
  rotate_left 1
  · first | ((intro W _; go_simp) <;> with_reducible rfl) | (intro W hW; skip; (go_simp <;> with_reducible rfl))
  try simp only [Act.put, List.setIfInBounds_toArray, List.set_cons_zero, List.set_cons_succ]
  refine seq_done ?_
  --ENDR6
  have hb13 : Below w.heap.size w w3 := bTrans HB1.out (bTrans (Below.undrew hb2) hb3)
  have HR3 : Hid (RowG 49 6 w3 w.heap.size ra3 cap3 (s.vers.map (verCells A s.now))) := Lib.hid (hr3.lower (Nat.le_trans HB1.out.size hb2.size))
  have HB3 := Lib.hid hb13
  clear hr3 hb2 hb3 hb13 hS s18 HPk
  go_upto_region 8 with fail
  go_loopg [28] len (fun gk s28 wx => ∃ i : Nat, i + gk = len ∧ s28 = .int .i64 i ∧ Hid (Below w.heap.size w wx) ∧ Hid (RowG 49 6 wx w.heap.size ra3 cap3 (s.vers.map (verCells A s.now))))
  case atStart => exact ⟨0, by omega, rfl, HB3, HR3⟩
  case round =>
    clear HB3 HR3
    obtain ⟨i, hi, rfl, HBx, HRx⟩ := hrel
    by_cases hlt : i < len
    · obtain ⟨g, rfl⟩ : ∃ g, gk = g + 1 := ⟨gk - 1, by omega⟩
      obtain ⟨gb, hgb⟩ := HRx.out.some_of (by rw [List.length_map, HLen.out]; omega)
      subst hgb
      obtain ⟨v, hv⟩ : ∃ v, s.vers[i]? = some v := ⟨_, List.getElem?_eq_getElem (by rw [HLen.out]; exact hlt)⟩
      have c4 : wr.cell? ⟨gb, i * 6 + 4, none⟩ = some (.slice none 0 0) := HRx.out.cell_at (by decide) (k := i) (row := verCells A s.now v) (by rw [List.getElem?_map, hv]; rfl) (j := 4) rfl
      have f4 : wr.frozen? ⟨gb, i * 6 + 4, none⟩ = false := HRx.out.frozen_at _
      have hi2 : (i : Int) < (len : Int) := by omega
      have HC4 := Lib.hid c4
      clear hv
      go_wp2_with (go_at_call 40; refine (HCl.out _).mono ?_; rintro e w' ⟨rfl, hw⟩; (have hw2 := hw.symm; clear hw; subst hw2))
      go_roundg g
      case measure => omega
      case rel =>
        refine ⟨i + 1, by omega, by go_num, Lib.hid ?_, Lib.hid ?_⟩
        · exact Below.setCell HBx.out (p := ⟨gb, i * 6 + 4, none⟩) (HRx.out.base gb ⟨_, rfl, rfl⟩).1 _
        · exact HRx.out.again HC4.out
    · obtain rfl : i = len := by omega
      go_wp2_with fail
      go_ret2
      exact ⟨ra3, i, cap3, rfl, HLen.out, HRx.out, HBx.out⟩
end Go.Proofs.YtmafnjapailliaaGreatDoor
namespace Go.Proofs.YtmafnjapailliaaGreatDoor
open Go.RowKit Wh.Sha

def RestPost (w0 : World) (A : ByteArray) (M : MB) (s : MSt) (v : Ver) (w : World) (e : Ending) (w' : World) : Prop := e = .returned (.int .i64 0) ∧ ∃ M', MemAt w' w0.heap.size A M' (s.put v.data (tOf s v.time)) ∧ Goes M M' w w'
set_option maxHeartbeats 2000000 in
set_option maxRecDepth 100000 in
theorem restore_any (w0 : World) (T : Tabs) (A : ByteArray) (M : MB) (s : MSt) (w : World) (j : Nat) (v : Ver) (hj : s.vers[j]? = some v) (hu : ∀ i x, i < j → s.vers[i]? = some x → x.num ≠ v.num) (hG : Gr w0 T) (hb0 : Below w0.heap.size w0 w) (hM : MemAt w w0.heap.size A M s) (hnb : M.nb < w.heap.size) (hA : PathA A) (hs : StOk s) (hv : hasB s.f 1024 = true) (hf : FOk s.f A) (hd : (v.data.size : Int) ≤ s.f.maxSize)
    (ht : -9223372036854775808 ≤ v.time ∧ v.time ≤ 9223372036854775807) (hn : -9223372036854775808 ≤ s.now ∧ s.now ≤ 9223372036854775807) :
    Calls Tryz.prog 14 #[ptr M.b, .string A, .int .i64 v.num] w (RestPost w0 A M s v w) := by
  have HVe := Lib.hid (versions_any w0.heap.size A M s w (hG.env.below hb0 (Nat.le_refl _)) hM hA hv hs.vers)
  unfold VersPost at HVe
  have HNw := Lib.hid (fun W (hb : Below w.heap.size w W) => isNew_any M.b s.f A W hA (hG.env.below (hb0.trans (Below.mono hb hb0.size)) (Nat.le_refl _)) hf.a (hM.below hb).feats)
  have HPu := Lib.hid (fun W (hb : Below w.heap.size w W) => put_any w0 T A M s v.data v.time W hG (hb0.trans (Below.mono hb hb0.size)) (hM.below hb) (Nat.lt_of_lt_of_le hnb hb.size) hA hs hf hd ht hn)
  unfold PutPost at HPu
  obtain ⟨idv, hidv⟩ : ∃ idv, (if hasB s.f 512 then ((s.put v.data (tOf s v.time)).cur.map FileSt.id).getD ⟨#[]⟩ else (⟨#[]⟩ : ByteArray)) = idv := ⟨_, rfl⟩
  simp only [hidv] at HPu
  clear hidv
  have HM := Lib.hid hM
  have HB0 := Lib.hid hb0
  have HJ := Lib.hid hj
  have HU := Lib.hid hu
  have hjl : j < s.vers.length := (List.getElem?_eq_some_iff.1 hj).1
  have hlen := hs.vers
  clear hM hb0 hs hf hd ht hn hv hA hG hj hu
  go_enter Tryz.func14, Tryz.ntmps14
  go_upto_region 5 with (go_at_call 13; refine HVe.out.mono ?_; rintro e w1 ⟨ra, len, cap, rfl, hl, hr, hb1⟩)
  have HL := Lib.hid hl
  have HR1 := Lib.hid hr
  have HB1 := Lib.hid hb1
  rw [hl] at hjl hlen
  clear hl hr hb1 HVe
  go_loopg [25] len (fun gk s25 wx => ∃ i : Nat, i + gk = len ∧ i ≤ j ∧ s25 = .int .i64 i ∧ Hid (Below w.heap.size w wx) ∧ Hid (RowG 49 6 wx w.heap.size ra cap (s.vers.map (verCells A s.now))))
  case atStart => exact ⟨0, by omega, by omega, rfl, HB1, HR1⟩
  case round =>
    clear HB1 HR1
    obtain ⟨i, hi, hij, rfl, HBx, HRx⟩ := hrel
    obtain ⟨g, rfl⟩ : ∃ g, gk = g + 1 := ⟨gk - 1, by omega⟩
    have hlt : i < len := by omega
    obtain ⟨gb, hgb⟩ := HRx.out.some_of (by rw [List.length_map, HL.out]; omega)
    subst hgb
    obtain ⟨x, hx⟩ : ∃ x, s.vers[i]? = some x := ⟨_, List.getElem?_eq_getElem (by rw [HL.out]; exact hlt)⟩
    have hrow : (s.vers.map (verCells A s.now))[i]? = some (verCells A s.now x) := by rw [List.getElem?_map, hx]; rfl
    have c0 : wr.cell? ⟨gb, i * 6, none⟩ = some (.int .i64 x.num) := HRx.out.cell_at (by decide) hrow (j := 0) rfl
    have c1 : wr.cell? ⟨gb, i * 6 + 1, none⟩ = some (.string A) := HRx.out.cell_at (by decide) hrow (j := 1) rfl
    have c2 : wr.cell? ⟨gb, i * 6 + 2, none⟩ = some (.string x.data) := HRx.out.cell_at (by decide) hrow (j := 2) rfl
    have c3 : wr.cell? ⟨gb, i * 6 + 3, none⟩ = some (.int .i64 x.time) := HRx.out.cell_at (by decide) hrow (j := 3) rfl
    have c4 : wr.cell? ⟨gb, i * 6 + 4, none⟩ = some (.slice none 0 0) := HRx.out.cell_at (by decide) hrow (j := 4) rfl
    have c5 : wr.cell? ⟨gb, i * 6 + 5, none⟩ = some (.int .i64 s.now) := HRx.out.cell_at (by decide) hrow (j := 5) rfl
    have hi2 : (i : Int) < (len : Int) := by omega
    have hbn : Below wr.heap.size wr (wr.alloc (.cells #[.int .i64 x.num, .string A, .string x.data, .int .i64 x.time, .slice none 0 0, .int .i64 s.now] 49)) := bAlloc (Below.refl _ _) _
    have HBn := Lib.hid (bTrans HBx.out hbn)
    by_cases hij2 : i = j
    · subst hij2
      obtain rfl : x = v := by have h := HJ.out; rw [hx] at h; exact Option.some.inj h
      have hxn : BoxIs (wr.alloc (.cells #[.int .i64 x.num, .string A, .string x.data, .int .i64 x.time, .slice none 0 0, .int .i64 s.now] 49)) wr.heap.size #[.int .i64 x.num, .string A, .string x.data, .int .i64 x.time, .slice none 0 0, .int .i64 s.now] 49 := heap_alloc_new _ _
      have HXn := Lib.hid hxn
      clear hx hrow hbn hxn
      go_upto_region 8 with fail
      clear c0 c1 c2 c3 c4 c5
      obtain ⟨vz, hvz⟩ : ∃ vz, vz = wr.heap.size := ⟨_, rfl⟩
      rw [← hvz] at HXn ⊢
      clear hvz
      generalize wr.alloc _ = w2 at *
      go_upto_region 11 with (go_at_call 34; refine (HNw.out _ HBn.out).mono ?_; rintro e w3 ⟨rfl, hb3⟩)
      have HX3 := Lib.hid (HXn.out.under hb3)
      have HB3 := Lib.hid (bTrans HBn.out hb3)
      have d2 : w3.cell? ⟨vz, 2, none⟩ = some (.string x.data) := HX3.out.cell (j := 2) rfl
      have d3 : w3.cell? ⟨vz, 3, none⟩ = some (.int .i64 x.time) := HX3.out.cell (j := 3) rfl
      have d4 : w3.cell? ⟨vz, 4, none⟩ = some (.slice none 0 0) := HX3.out.cell (j := 4) rfl
      have HPu3 := Lib.hid (HPu.out w3 HB3.out)
      clear hb3 HNw HPu
      go_wp2_with (go_at_call 35; refine HPu3.out.mono ?_; rintro e w4 ⟨M', sa, n, sc, rfl, hl, hr, hm4, hg4⟩; have HM4 := Lib.hid hm4; have HG4 := Lib.hid hg4; clear hl hr hm4 hg4)
      go_ret
      refine ⟨rfl, M', ?_, ?_⟩
      · exact HM4.out.below (bAlloc (Below.refl _ _) _)
      · exact (Goes.of HB3.out).trans (HG4.out.trans (Goes.of (bAlloc (Below.refl _ _) _)))
    · have hne : ¬ ((x.num : Int) = (v.num : Int)) := by
        have := HU.out i x (by omega) hx
        omega
      clear hx hrow
      go_wp2_with fail
      go_roundg g
      case measure => omega
      case rel => exact ⟨i + 1, by omega, by omega, by go_num, HBn, Lib.hid (HRx.out.kp (Kp.of (F := fun _ => False) hbn) (fun _ _ e => e))⟩

def GetPost (w0 : World) (A : ByteArray) (M : MB) (s : MSt) (r : ByteArray) (w : World) (e : Ending) (w' : World) : Prop := e = .returned (.tuple #[.string r, .int .i64 0]) ∧ MemAt w' w0.heap.size A M s ∧ Goes M M w w' ∧ (∃ w1, Kp (fun i => i = M.ca ∨ i = M.si) w w1 ∧ w1.heap.size = w.heap.size ∧ Below w1.heap.size w1 w')
set_option maxHeartbeats 2000000 in
set_option maxRecDepth 100000 in
theorem get_any (w0 : World) (T : Tabs) (A : ByteArray) (M : MB) (s : MSt) (c : FileSt) (w : World) (frm m : Nat) (hm : m = min 65536 (c.data.size - frm)) (hfr : frm ≤ c.data.size) (hz : c.data.size ≤ 1048576) (hG : Gr w0 T) (hb0 : Below w0.heap.size w0 w) (hM : MemAt w w0.heap.size A M s) (hc : s.cur = some c) (hA : PathA A) :
    Calls Tryz.prog 280 #[ptr M.b, .string A, .int .i64 frm, .int .i64 65536] w (GetPost w0 A M s (c.data.extract frm (frm + m)) w) := by
  have HBe := Lib.hid (begin_any 2 (by decide) w w0.heap.size A M s hM)
  have HIs := Lib.hid (fun W (hb : Below w0.heap.size w0 W) => isFile_any A W hA (hG.env.below hb (Nat.le_refl _)))
  have HFi := Lib.hid (fun W (hb : Below w0.heap.size w0 W) (h : MemAt W w0.heap.size A M s) => file_any W w0.heap.size A M s c hc h hA (hG.env.below hb (Nat.le_refl _)))
  have HM := Lib.hid hM
  have HB0 := Lib.hid hb0
  have h0 : ¬ ((frm : Int) < 0) := by omega
  have hmin1 : min (frm : Int) (c.data.size : Int) = (frm : Int) := by omega
  obtain ⟨r, hr⟩ : ∃ r, r = c.data.size - frm := ⟨_, rfl⟩
  have e1 : IntKind.i64.wrap ((c.data.size : Int) - (frm : Int)) = (r : Int) := by rw [IntWalk.i64_in _ (by omega)]; omega
  have hmin2 : min (65536 : Int) (r : Int) = (m : Int) := by omega
  have hle : frm + m ≤ c.data.size := by omega
  obtain ⟨fm, hfm⟩ : ∃ fm, frm + m = fm := ⟨_, rfl⟩
  rw [hfm] at hle
  have e3 : IntKind.i64.wrap ((frm : Int) + (m : Int)) = (fm : Int) := by rw [IntWalk.i64_in _ (by omega)]; omega
  have hle2 : (fm : Int) ≤ (c.data.size : Int) := by omega
  have hle3 : (frm : Int) ≤ (fm : Int) := by omega
  have HFm := Lib.hid hfm
  have HC := Lib.hid hc
  clear hM hb0 hm hfm hc hr
  go_enter Tryz.func280, Tryz.ntmps280
  go_upto_region 4 with (go_at_call 28; refine HBe.out.mono ?_; rintro e w1 ⟨rfl, hm1, hk1, hz1⟩)
  have HG1 : Hid (Goes M M w w1) := Lib.hid (Goes.counted hk1)
  have HM1 := Lib.hid hm1
  have HK1 := Lib.hid (And.intro hk1 hz1)
  have HB1 : Hid (Below w0.heap.size w0 w1) := Lib.hid (HG1.out.below HM.out HB0.out)
  clear hm1 hk1 hz1 HBe
  go_upto_region 7 with (go_at_call 29; refine (HIs.out _ HB1.out).mono ?_; rintro e w2 ⟨rfl, hb2⟩)
  have HB2 : Hid (Below w0.heap.size w0 w2) := Lib.hid (HB1.out.trans (Below.mono hb2 HB1.out.size))
  have HM2 := Lib.hid (HM1.out.below hb2)
  have HBl2 := Lib.hid hb2
  clear hb2 HIs
  go_upto_region 10 with (go_at_call 30; refine (HFi.out _ HB2.out HM2.out).mono ?_; rintro e w3 ⟨rfl, hb3⟩)
  have HM3 := Lib.hid (HM2.out.below hb3)
  have HBl3 := Lib.hid (bTrans HBl2.out hb3)
  have n4 : w3.cell? ⟨M.nb, 4, none⟩ = some (.string c.data) := (HM3.out.file c HC.out).cell (j := 4) rfl
  clear hb3 HFi
  go_upto_region 13 with fail
  have n4d : w3.drew.cell? ⟨M.nb, 4, none⟩ = some (.string c.data) := n4
  --R13
  refine wp_region_seq (fun W => W.cell? ⟨M.nb, 4, none⟩ = some (.string c.data)) [(0, true), (1, true), (2, true), (3, true), (4, true), (5, true), (6, true), (7, true), (8, true), (9, true), (10, true), (11, true), (12, true), (13, true), (14, true), (15, true), (16, true), (17, true), (18, true)] (by as_aux_lemma => kernel_rfl) (by as_aux_lemma => kernel_rfl) (by decide) (by as_aux_lemma => kernel_rfl) n4d ?_
  intro OPS HO
  refine seq_take (o := ⟨_, _, _, _, _, _⟩) (v := ?_) (by rw [HO.out]; rfl) (by rfl) ?_ ?_
  rotate_left 1
  · first | ((intro W _; go_simp) <;> with_reducible rfl) | (intro W hW; skip; (go_simp <;> with_reducible rfl))
  try simp only [Act.put, List.setIfInBounds_toArray, List.set_cons_zero, List.set_cons_succ]
  refine seq_take (o := ⟨_, _, _, _, _, _⟩) (v := ?_) (by rw [HO.out]; rfl) (by rfl) ?_ ?_
  rotate_left 1
  · first | ((intro W _; go_simp) <;> with_reducible rfl) | (intro W hW; skip; (go_simp <;> with_reducible rfl))
  try simp only [Act.put, List.setIfInBounds_toArray, List.set_cons_zero, List.set_cons_succ]
  refine seq_take (o := ⟨_, _, _, _, _, _⟩) (v := ?_) (by rw [HO.out]; rfl) (by rfl) ?_ ?_
  rotate_left 1
  · first | ((intro W _; go_simp) <;> with_reducible rfl) | (intro W hW; skip; (go_simp <;> with_reducible rfl))
  try simp only [Act.put, List.setIfInBounds_toArray, List.set_cons_zero, List.set_cons_succ]
  refine seq_take (o := ⟨_, _, _, _, _, _⟩) (v := ?_) (by rw [HO.out]; rfl) (by rfl) ?_ ?_
  rotate_left 1
  · first | ((intro W _; go_simp) <;> with_reducible rfl) | (intro W hW; skip; (go_simp <;> with_reducible rfl))
  try simp only [Act.put, List.setIfInBounds_toArray, List.set_cons_zero, List.set_cons_succ]
  refine seq_take (o := ⟨_, _, _, _, _, _⟩) (v := ?_) (by rw [HO.out]; rfl) (by rfl) ?_ ?_
  rotate_left 1
  · first | ((intro W _; go_simp) <;> with_reducible rfl) | (intro W hW; skip; (go_simp <;> with_reducible rfl))
  try simp only [Act.put, List.setIfInBounds_toArray, List.set_cons_zero, List.set_cons_succ]
  refine seq_take (o := ⟨_, _, _, _, _, _⟩) (v := ?_) (by rw [HO.out]; rfl) (by rfl) ?_ ?_
  rotate_left 1
  · first | ((intro W _; go_simp) <;> with_reducible rfl) | (intro W hW; skip; (go_simp <;> with_reducible rfl))
  try simp only [Act.put, List.setIfInBounds_toArray, List.set_cons_zero, List.set_cons_succ]
  refine seq_take (o := ⟨_, _, _, _, _, _⟩) (v := ?_) (by rw [HO.out]; rfl) (by rfl) ?_ ?_
  rotate_left 1
  · first | ((intro W _; go_simp) <;> with_reducible rfl) | (intro W hW; skip; (go_simp <;> with_reducible rfl))
  try simp only [Act.put, List.setIfInBounds_toArray, List.set_cons_zero, List.set_cons_succ]
  refine seq_take (o := ⟨_, _, _, _, _, _⟩) (v := ?_) (by rw [HO.out]; rfl) (by rfl) ?_ ?_
  rotate_left 1
  · first | ((intro W _; go_simp) <;> with_reducible rfl) | (intro W hW; skip; (go_simp <;> with_reducible rfl))
  try simp only [Act.put, List.setIfInBounds_toArray, List.set_cons_zero, List.set_cons_succ]
  refine seq_take (o := ⟨_, _, _, _, _, _⟩) (v := ?_) (by rw [HO.out]; rfl) (by rfl) ?_ ?_
  rotate_left 1
  · first | ((intro W _; go_simp) <;> with_reducible rfl) | (intro W hW; skip; (go_simp <;> with_reducible rfl))
  try simp only [Act.put, List.setIfInBounds_toArray, List.set_cons_zero, List.set_cons_succ]
  refine seq_take (o := ⟨_, _, _, _, _, _⟩) (v := ?_) (by rw [HO.out]; rfl) (by rfl) ?_ ?_
  rotate_left 1
  · first | ((intro W _; go_simp) <;> with_reducible rfl) | (intro W hW; skip; (go_simp <;> with_reducible rfl))
  try simp only [Act.put, List.setIfInBounds_toArray, List.set_cons_zero, List.set_cons_succ]
  refine seq_take (o := ⟨_, _, _, _, _, _⟩) (v := ?_) (by rw [HO.out]; rfl) (by rfl) ?_ ?_
  rotate_left 1
  · first | ((intro W _; go_simp) <;> with_reducible rfl) | (intro W hW; skip; (go_simp <;> with_reducible rfl))
  try simp only [Act.put, List.setIfInBounds_toArray, List.set_cons_zero, List.set_cons_succ]
  refine seq_take (o := ⟨_, _, _, _, _, _⟩) (v := ?_) (by rw [HO.out]; rfl) (by rfl) ?_ ?_
  rotate_left 1
  · first | ((intro W _; go_simp) <;> with_reducible rfl) | (intro W hW; skip; (go_simp <;> with_reducible rfl))
  try simp only [Act.put, List.setIfInBounds_toArray, List.set_cons_zero, List.set_cons_succ]
  refine seq_take (o := ⟨_, _, _, _, _, _⟩) (v := ?_) (by rw [HO.out]; rfl) (by rfl) ?_ ?_
  rotate_left 1
  · first | ((intro W _; go_simp) <;> with_reducible rfl) | (intro W hW; skip; (go_simp <;> with_reducible rfl))
  try simp only [Act.put, List.setIfInBounds_toArray, List.set_cons_zero, List.set_cons_succ]
  refine seq_take (o := ⟨_, _, _, _, _, _⟩) (v := ?_) (by rw [HO.out]; rfl) (by rfl) ?_ ?_
  rotate_left 1
  · first | ((intro W _; go_simp) <;> with_reducible rfl) | (intro W hW; skip; (go_simp <;> with_reducible rfl))
  try simp only [Act.put, List.setIfInBounds_toArray, List.set_cons_zero, List.set_cons_succ]
  refine seq_take (o := ⟨_, _, _, _, _, _⟩) (v := ?_) (by rw [HO.out]; rfl) (by rfl) ?_ ?_
  rotate_left 1
  · first | ((intro W _; go_simp) <;> with_reducible rfl) | (intro W hW; skip; (go_simp <;> with_reducible rfl))
  try simp only [Act.put, List.setIfInBounds_toArray, List.set_cons_zero, List.set_cons_succ]
  refine seq_take (o := ⟨_, _, _, _, _, _⟩) (v := ?_) (by rw [HO.out]; rfl) (by rfl) ?_ ?_
  rotate_left 1
  · first | ((intro W _; go_simp) <;> with_reducible rfl) | (intro W hW; skip; (go_simp <;> with_reducible rfl))
  try simp only [Act.put, List.setIfInBounds_toArray, List.set_cons_zero, List.set_cons_succ]
  refine seq_take (o := ⟨_, _, _, _, _, _⟩) (v := ?_) (by rw [HO.out]; rfl) (by rfl) ?_ ?_
  rotate_left 1
  · first | ((intro W _; go_simp) <;> with_reducible rfl) | (intro W hW; skip; (go_simp <;> with_reducible rfl))
  try simp only [Act.put, List.setIfInBounds_toArray, List.set_cons_zero, List.set_cons_succ]
  refine seq_take (o := ⟨_, _, _, _, _, _⟩) (v := ?_) (by rw [HO.out]; rfl) (by rfl) ?_ ?_
  rotate_left 1
  · first | ((intro W _; go_simp) <;> with_reducible rfl) | (intro W hW; skip; (go_simp <;> with_reducible rfl))
  try simp only [Act.put, List.setIfInBounds_toArray, List.set_cons_zero, List.set_cons_succ]
  refine seq_take (o := ⟨_, _, _, _, _, _⟩) (v := ?_) (by rw [HO.out]; rfl) (by rfl) ?_ ?_
  rotate_left 1
  · first | ((intro W _; go_simp) <;> with_reducible rfl) | (intro W hW; skip; (go_simp <;> with_reducible rfl))
  try simp only [Act.put, List.setIfInBounds_toArray, List.set_cons_zero, List.set_cons_succ]
  refine seq_done ?_
  --ENDR13
  go_wp2_with fail
  go_ret2
  refine ⟨?_, HM3.out.drew, HG1.out.trans (Goes.of (below_drewn HBl3.out)), w1, HK1.out.1, HK1.out.2, below_drewn HBl3.out⟩
  rw [HFm.out]
  rfl
end Go.Proofs.YtmafnjapailliaaGreatDoor
namespace Go.Proofs.YtmafnjapailliaaGreatDoor
open Go.RowKit Wh.Sha

/-- A builder whose blocks lie from B on. -/
def BldK (B b : Nat) (out : List UInt8) (w : World) : Prop := Lib.IsBuilderF 99 5 B b (Lib.byteCells out) w ∧ B ≤ w.heap.size
theorem atF_kp {T e : TypeId} {B b : Nat} {p : Value} {bs : List Value} {F : Nat → Prop} {w w' : World} (h : Lib.BuilderAtF T e B b p bs w) (hk : Kp F w w') (hF : ∀ i, F i → i < B) : Lib.BuilderAtF T e B b p bs w' := by
  obtain ⟨hB, v, hb, hown, hne⟩ := h
  refine ⟨hB, v, ?_, ⟨hown.1, ?_⟩, hne⟩
  · rw [hk.block b (Array.getElem?_eq_some_iff.1 hb).1 (fun e => by have := hF b e; omega)]
    exact hb
  · rcases hown.2 with hn | ⟨g, c, cur, fz, hv, h1, h2, h3⟩
    · exact .inl hn
    · refine .inr ⟨g, c, cur, fz, hv, h1, ?_, h3⟩
      rw [hk.block g (Array.getElem?_eq_some_iff.1 h2).1 (fun e => by have := hF g e; omega)]
      exact h2
theorem BldK.kp {B b : Nat} {out : List UInt8} {F : Nat → Prop} {w w' : World} (h : BldK B b out w) (hk : Kp F w w') (hF : ∀ i, F i → i < B) : BldK B b out w' :=
  ⟨h.1.elim (fun x => .inl (atF_kp x hk hF)) (fun x => .inr (atF_kp x hk hF)), Nat.le_trans h.2 hk.size⟩
theorem BldK.fresh (w : World) : BldK w.heap.size w.heap.size [] (w.alloc (.cells #[.pointer none, .slice none 0 0] 99)) :=
  ⟨.inl ⟨Nat.le_refl _, .slice none 0 0, heap_alloc_new w _, ⟨rfl, .inl ⟨rfl, rfl⟩⟩, by simp [Value.ownBlock]⟩, (bAlloc (Below.refl w.heap.size w) _).size⟩
theorem lenK {B b : Nat} {out : List UInt8} {w : World} (h : BldK B b out w) (n : Nat) (hn : out.length = n) : Calls Tryz.prog 41 #[.pointer (some ⟨b, 0, none⟩)] w fun e w' => e = .returned (.int .i64 n) ∧ w' = w := by
  have h2 := Tryz.Builder_Len_f B b (Lib.byteCells out) w h.1
  rw [show (Lib.byteCells out).length = n by rw [← hn]; simp [Lib.byteCells]] at h2
  exact h2
theorem writeK {B b : Nat} {out : List UInt8} {w : World} (h : BldK B b out w) (s : ByteArray) (hl : out.length + s.size ≤ 140737488355328) :
    Calls Tryz.prog 42 #[.pointer (some ⟨b, 0, none⟩), .string s] w fun e w' => e = .returned (.tuple #[.int .i64 s.size, .nilIface]) ∧ BldK B b (out ++ s.data.toList) w' ∧ Below B w w' := by
  refine (Any.Builder_WriteString_k { Tryz.lays156 with } Tryz.Builder_Extra_156 B b (Lib.byteCells out) s w h.1 (by simpa [Lib.byteCells] using hl) h.2).mono ?_
  rintro e w' ⟨rfl, h1, h2, h3⟩
  refine ⟨rfl, ⟨.inr ?_, Nat.le_trans h.2 h2.size⟩, h2⟩
  have : Lib.byteCells (out ++ s.data.toList) = Lib.byteCells out ++ Lib.strCells s := by
    simp [Lib.byteCells, Lib.strCells]
  rw [this]
  exact h1
theorem stringK {B b : Nat} {out : List UInt8} {w : World} (h : BldK B b out w) :
    Calls Tryz.prog 43 #[.pointer (some ⟨b, 0, none⟩)] w fun e w' => e = .returned (.string ⟨out.toArray⟩) ∧ Below B w w' := by
  refine (Any.Builder_String_any_k { Tryz.lays156 with } Tryz.Builder_Extra_156 B b out w h.1 h.2).mono ?_
  rintro e w' ⟨rfl, h1, h2, _⟩
  exact ⟨rfl, h2⟩
theorem memM_get (w : World) (n : Nat) (v : Value) (hn : 0 < n) : (method n 34 v "Get").run Tryz.prog w = .ok (280, v) w := by
  obtain ⟨i, hi, hm⟩ := Option.map_eq_some_iff.1 (show (Tryz.prog.info? 34).map (fun i => (i.methods.find? (·.name == "Get")).map (fun m => (m.path.toList, m.func))) = some (some ([], some (280, true))) by kernel_rfl)
  exact method_ptr hi hm Tryz.underlying34 hn v

theorem memA_get (w : World) (n : Nat) (v : Value) (hn : 0 < n) : (nilAhead n 34 v "Get").run Tryz.prog w = .ok (some false) w := by
  obtain ⟨i, hi, hm⟩ := Option.map_eq_some_iff.1 (show (Tryz.prog.info? 34).map (fun i => (i.methods.find? (·.name == "Get")).map (fun m => (m.path.toList, m.func))) = some (some ([], some (280, true))) by kernel_rfl)
  obtain ⟨k, rfl⟩ : ∃ k, n = k + 1 := ⟨n - 1, by omega⟩
  cases h : i.methods.find? (·.name == "Get") with
  | none => rw [h] at hm; cases hm
  | some m =>
    rw [h] at hm
    simp only [Option.map_some, Option.some.injEq, Prod.mk.injEq] at hm
    unfold nilAhead
    simp [typeInfo, hi, h, followBlind, hm.1, hm.2]

theorem Goes.ext {M : MB} {w w2 w3 : World} (h : Goes M M w w2) (hb : Below w.heap.size w2 w3) : Goes M M w w3 :=
  ⟨rfl, rfl, rfl, ⟨hb.os.trans h.kp.os, hb.tape.trans h.kp.tape, hb.output.trans h.kp.output, Nat.le_trans h.kp.size hb.size, fun k hk hF => (hb.block k hk).trans (h.kp.block k hk hF)⟩, fun _ hi => .inl hi, fun e => Nat.lt_of_lt_of_le (h.nb e) hb.size⟩

def WholePost (w0 : World) (A : ByteArray) (M : MB) (s : MSt) (r : ByteArray) (w : World) (e : Ending) (w' : World) : Prop := e = .returned (.tuple #[.string r, .int .i64 0]) ∧ MemAt w' w0.heap.size A M s ∧ Goes M M w w'
set_option maxHeartbeats 2000000 in
set_option maxRecDepth 100000 in
theorem whole_any (w0 : World) (T : Tabs) (A : ByteArray) (M : MB) (s : MSt) (c : FileSt) (w : World) (hz : c.data.size ≤ 1048576) (hG : Gr w0 T) (hb0 : Below w0.heap.size w0 w) (hM : MemAt w w0.heap.size A M s) (hnb : M.nb < w.heap.size) (hc : s.cur = some c) (hA : PathA A) :
    Calls Tryz.prog 15 #[.iface 34 (ptr M.b), .string A] w (WholePost w0 A M s c.data w) := by
  have HGt := Lib.hid (fun W (hb : Below w0.heap.size w0 W) (h : MemAt W w0.heap.size A M s) frm m (hm : m = min 65536 (c.data.size - frm)) (hfr : frm ≤ c.data.size) => get_any w0 T A M s c W frm m hm hfr hz hG hb h hc hA)
  unfold GetPost at HGt
  have HM := Lib.hid hM
  have HMl := Lib.hid (fun i (hi : MF M i ∨ i = M.cb ∨ i = M.rb) => hM.mfl hnb hi)
  have HB0 := Lib.hid hb0
  have hmt := memM_get
  have hma := memA_get
  have hBl := BldK.fresh w
  have hb1 : Below w.heap.size w (w.alloc (.cells #[.pointer none, .slice none 0 0] 99)) := bAlloc (Below.refl _ _) _
  clear hM hb0 hA hc
  go_enter Tryz.func15, Tryz.ntmps15
  go_upto_region 2 with fail
  obtain ⟨B, hB⟩ : ∃ B, w.heap.size = B := ⟨_, rfl⟩
  have HBz := Lib.hid hB
  rw [hB] at hBl ⊢
  have HBl := Lib.hid hBl
  have HG1 : Hid (Goes M M w (w.alloc (.cells #[.pointer none, .slice none 0 0] 99))) := Lib.hid (Goes.of hb1)
  have HM1 := Lib.hid (HM.out.below hb1)
  clear hB hBl hb1
  generalize w.alloc _ = w1 at *
  obtain ⟨dl, hdl⟩ : ∃ dl, c.data.data.toList = dl := ⟨_, rfl⟩
  have HDl := Lib.hid hdl
  have hds : dl.length = c.data.size := by rw [← hdl, Lib.size_eq]
  have HDs := Lib.hid hds
  clear hdl hds
  go_loopg [7] c.data.size (fun gk s7 wx => ∃ k : Nat, k ≤ c.data.size ∧ c.data.size - k ≤ gk ∧ Hid (BldK B B (dl.take k) wx) ∧ Hid (MemAt wx w0.heap.size A M s) ∧ Hid (Goes M M w wx))
  case atStart => exact ⟨0, Nat.zero_le _, by omega, HBl, HM1, HG1⟩
  case round =>
    clear HBl HM1 HG1
    obtain ⟨k, hk, hgk, HBx, HMx, HGx⟩ := hrel
    obtain ⟨m, hm⟩ : ∃ m, m = min 65536 (c.data.size - k) := ⟨_, rfl⟩
    have hbw : Below w0.heap.size w0 wr.drew := below_drewn (HGx.out.below HM.out HB0.out)
    have HGm := Lib.hid (HGt.out wr.drew hbw HMx.out.drew k m hm hk)
    obtain ⟨pc, hpc⟩ : ∃ pc, c.data.extract k (k + m) = pc := ⟨_, rfl⟩
    rw [hpc] at HGm
    have hpl : pc.data.toList = (dl.drop k).take m := by
      rw [← hpc, ByteArray.data_extract, Array.toList_extract, List.extract_eq_take_drop, HDl.out]
      congr 1
      omega
    have hps : pc.size = m := by
      rw [Lib.size_eq, hpl, List.length_take, List.length_drop, HDs.out, hm]
      omega
    have HBd : Hid (BldK B B (dl.take k) wr.drew) := Lib.hid (HBx.out.kp ((Kp.refl (fun _ => False) wr).drew 1) (fun _ e => e.elim))
    have hkl : (dl.take k).length = k := by rw [List.length_take, HDs.out]; omega
    have HKl := Lib.hid hkl
    have HPl := Lib.hid hpl
    have HPs := Lib.hid hps
    have HMm := Lib.hid hm
    clear hpc hpl hps hbw hm hkl
    go_upto_region 2 with fail
    --R2
    refine wp_region_seqQ (BldK B B (dl.take k)) 1000 [(0, true), (1, true), (2, true), (3, true), (4, true), (5, true), (6, false), (7, true), (8, true), (9, true), (10, true), (11, true)] (by as_aux_lemma => kernel_rfl) (by as_aux_lemma => kernel_rfl) (by as_aux_lemma => kernel_rfl) (by decide) (by as_aux_lemma => kernel_rfl) (by decide) HBd.out ?_
    intro OPS HO
    refine seqQ_take (o := ⟨_, _, _, _, _, _⟩) (v := ?_) (by rw [HO.out]; rfl) (by rfl) ?_ ?_
    rotate_left 1
    · first | ((intro W _; go_simp) <;> with_reducible rfl) | (intro W hW; skip; (go_simp <;> with_reducible rfl))
    try simp only [Act.put, List.setIfInBounds_toArray, List.set_cons_zero, List.set_cons_succ]
    refine seqQ_take (o := ⟨_, _, _, _, _, _⟩) (v := ?_) (by rw [HO.out]; rfl) (by rfl) ?_ ?_
    rotate_left 1
    · first | ((intro W _; go_simp) <;> with_reducible rfl) | (intro W hW; skip; (go_simp <;> with_reducible rfl))
    try simp only [Act.put, List.setIfInBounds_toArray, List.set_cons_zero, List.set_cons_succ]
    refine seqQ_quiet (o := ⟨_, _, _, _, _, _⟩) (by rw [HO.out]; rfl) (by rfl) 41 _ (fun W hW => ?_) _ (fun W hW => lenK hW k HKl.out) ?_
    · skip; (go_simp <;> with_reducible rfl)
    try simp only [Act.put, List.setIfInBounds_toArray, List.set_cons_zero, List.set_cons_succ]
    refine seqQ_take (o := ⟨_, _, _, _, _, _⟩) (v := ?_) (by rw [HO.out]; rfl) (by rfl) ?_ ?_
    rotate_left 1
    · first | ((intro W _; go_simp) <;> with_reducible rfl) | (intro W hW; skip; (go_simp <;> with_reducible rfl))
    try simp only [Act.put, List.setIfInBounds_toArray, List.set_cons_zero, List.set_cons_succ]
    refine seqQ_take (o := ⟨_, _, _, _, _, _⟩) (v := ?_) (by rw [HO.out]; rfl) (by rfl) ?_ ?_
    rotate_left 1
    · first | ((intro W _; go_simp) <;> with_reducible rfl) | (intro W hW; skip; (go_simp <;> with_reducible rfl))
    try simp only [Act.put, List.setIfInBounds_toArray, List.set_cons_zero, List.set_cons_succ]
    refine seqQ_take (o := ⟨_, _, _, _, _, _⟩) (v := ?_) (by rw [HO.out]; rfl) (by rfl) ?_ ?_
    rotate_left 1
    · first | ((intro W _; go_simp) <;> with_reducible rfl) | (intro W hW; skip; (go_simp <;> with_reducible rfl))
    try simp only [Act.put, List.setIfInBounds_toArray, List.set_cons_zero, List.set_cons_succ]
    refine seqQ_do (o := ⟨_, _, _, _, _, _⟩) (by rw [HO.out]; rfl) (by rfl) (fun K hK => ?_)
    go_wp2_with fail
    refine HGm.out.mono ?_
    rintro e w2 ⟨rfl, hm2, hg2, wm, hk2, hz2, hb2⟩
    have hS : BldK B B (dl.take k) w2 := (HBd.out.kp hk2 (fun i hi => by
      have hl : MF M i := hi.elim (fun e => .inr (.inr (.inl e))) (fun e => .inr (.inr (.inr (.inl e))))
      have := HMl.out i (.inl hl)
      rw [HBz.out] at this
      exact this)).kp (Kp.of (F := fun _ => False) hb2) (fun _ e => e.elim)
    refine hK.out _ _ (fun _ => hS) ?_
    clear hK K
    try simp only [Act.put, List.setIfInBounds_toArray, List.set_cons_zero, List.set_cons_succ]
    refine seqQ_take (o := ⟨_, _, _, _, _, _⟩) (v := ?_) (by rw [HO.out]; rfl) (by rfl) ?_ ?_
    rotate_left 1
    · first | ((intro W _; go_simp) <;> with_reducible rfl) | (intro W hW; skip; (go_simp <;> with_reducible rfl))
    try simp only [Act.put, List.setIfInBounds_toArray, List.set_cons_zero, List.set_cons_succ]
    refine seqQ_take (o := ⟨_, _, _, _, _, _⟩) (v := ?_) (by rw [HO.out]; rfl) (by rfl) ?_ ?_
    rotate_left 1
    · first | ((intro W _; go_simp) <;> with_reducible rfl) | (intro W hW; skip; (go_simp <;> with_reducible rfl))
    try simp only [Act.put, List.setIfInBounds_toArray, List.set_cons_zero, List.set_cons_succ]
    refine seqQ_take (o := ⟨_, _, _, _, _, _⟩) (v := ?_) (by rw [HO.out]; rfl) (by rfl) ?_ ?_
    rotate_left 1
    · first | ((intro W _; go_simp) <;> with_reducible rfl) | (intro W hW; skip; (go_simp <;> with_reducible rfl))
    try simp only [Act.put, List.setIfInBounds_toArray, List.set_cons_zero, List.set_cons_succ]
    refine seqQ_take (o := ⟨_, _, _, _, _, _⟩) (v := ?_) (by rw [HO.out]; rfl) (by rfl) ?_ ?_
    rotate_left 1
    · first | ((intro W _; go_simp) <;> with_reducible rfl) | (intro W hW; skip; (go_simp <;> with_reducible rfl))
    try simp only [Act.put, List.setIfInBounds_toArray, List.set_cons_zero, List.set_cons_succ]
    refine seqQ_take (o := ⟨_, _, _, _, _, _⟩) (v := ?_) (by rw [HO.out]; rfl) (by rfl) ?_ ?_
    rotate_left 1
    · first | ((intro W _; go_simp) <;> with_reducible rfl) | (intro W hW; skip; (go_simp <;> with_reducible rfl))
    try simp only [Act.put, List.setIfInBounds_toArray, List.set_cons_zero, List.set_cons_succ]
    refine seqQ_done ?_
    --ENDR2
    have HM2 := Lib.hid hm2
    have HG2 : Hid (Goes M M w w2) := Lib.hid (HGx.out.trans ⟨hg2.b, hg2.cb, hg2.rb, ⟨hg2.kp.os, hg2.kp.tape, hg2.kp.output, hg2.kp.size, hg2.kp.block⟩, hg2.mf, hg2.nb⟩)
    have HW2 := Lib.hid (writeK hS pc (by rw [HKl.out, HPs.out]; have := HMm.out; omega))
    have hout : dl.take k ++ pc.data.toList = dl.take (k + m) := by rw [HPl.out, ← List.take_add]
    have hsp : (pc.size : Int) = (m : Int) := by rw [HPs.out]
    rw [hout] at HW2
    clear hout hm2 hg2 hk2 hz2 hb2 hS
    go_upto_region 6 with (go_at_call 42; refine HW2.out.mono ?_; rintro e w3 ⟨rfl, hw3a, hw3b⟩)
    have HB3 := Lib.hid hw3a
    have HG3 : Hid (Goes M M w w3) := Lib.hid (HG2.out.ext (by rw [HBz.out]; exact hw3b))
    have HM3 : Hid (MemAt w3 w0.heap.size A M s) := Lib.hid (HM2.out.kp (Below.kpw hw3b) (fun i hi e => by
      have := HMl.out i hi
      rw [HBz.out] at this
      omega))
    clear hw3a hw3b HW2
    by_cases hlast : m < 65536
    · have hl2 : (m : Int) < 65536 := by omega
      have HSt := Lib.hid (stringK HB3.out)
      have hfull : dl.take (k + m) = dl := List.take_of_length_le (by rw [HDs.out]; have := HMm.out; omega)
      rw [hfull] at HSt
      have HBy : Hid ((⟨dl.toArray⟩ : ByteArray) = c.data) := Lib.hid (by rw [← HDl.out])
      rw [HBy.out] at HSt
      clear hfull
      go_wp2_with (go_at_call 43; refine HSt.out.mono ?_; rintro e w4 ⟨rfl, hb4⟩)
      go_ret2
      refine ⟨rfl, HM3.out.kp (Below.kpw hb4) (fun i hi e => by
        have := HMl.out i hi
        rw [HBz.out] at this
        omega), HG3.out.ext (by rw [HBz.out]; exact hb4)⟩
    · have hl2 : ¬ ((m : Int) < 65536) := by omega
      obtain ⟨g, rfl⟩ : ∃ g, gk = g + 1 := ⟨gk - 1, by have := HMm.out; omega⟩
      go_wp2_with fail
      go_roundg g
      case measure => omega
      case rel => exact ⟨k + m, by have := HMm.out; omega, by have := HMm.out; omega, HB3, HM3, HG3⟩
end Go.Proofs.YtmafnjapailliaaGreatDoor
