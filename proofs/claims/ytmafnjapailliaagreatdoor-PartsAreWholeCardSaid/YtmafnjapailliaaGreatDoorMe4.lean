/-
  A store in memory of which one path is asked: keep.
-/
import Derived.Test.YtmafnjapailliaaGreatDoorMeA
namespace Go.Proofs.YtmafnjapailliaaGreatDoor
open Go.RowKit

theorem infoVersion : (Tryz.prog.info? 49).map (fun i => (i.zero, i.size, i.bytes)) = some (some (.agg #[.int .i64 0, .string ByteArray.empty, .string ByteArray.empty, .int .i64 0, .slice none 0 0, .int .i64 0]), 6, 80) := by kernel_rfl
theorem ver_ones (A : ByteArray) (now : Int) (l : List Ver) : ∀ u ∈ (l.map (verCells A now)).flatten, u.oneCell' = true := by
  intro u hu
  obtain ⟨r, hr, hu⟩ := List.mem_flatten.1 hu
  obtain ⟨v, _, rfl⟩ := List.mem_map.1 hr
  exact ver_one A now v u hu

set_option maxHeartbeats 1000000 in
set_option maxRecDepth 100000 in
/-- slices.Clone of versions. -/
theorem cloneV_any (A : ByteArray) (now : Int) (xs : List Ver) (a : Option Addr) (c n : Nat) (w : World) (hn : xs.length = n) (hl : n ≤ 1000) (hH : HoldsR w a 6 (xs.map (verCells A now))) (h0 : a = none → n = 0) :
    Calls Tryz.prog 38 #[.slice a n c] w fun e w' => ∃ ra' cap', e = .returned (.slice ra' n cap') ∧ RowG 49 6 w' w.heap.size ra' cap' (xs.map (verCells A now)) ∧ Below w.heap.size w w' := by
  obtain ⟨i0, hi, hz0, hz1, hz2⟩ := info_parts infoVersion
  cases a with
  | none =>
    obtain rfl : n = 0 := h0 rfl
    have hx : xs = [] := List.eq_nil_of_length_eq_zero hn
    subst hx
    clear hi hz0 hz1 hz2 hH hn h0
    have hnil := fun W n c => Lib.run_eql_slice_nil (P := Tryz.prog) W 45 49 none n c 0 0 Tryz.underlying45
    go_enter Tryz.func38, Tryz.ntmps38
    go_wp2_with fail
    go_ret
    exact ⟨none, 0, rfl, RowG.nil _ _ _ _, Below.refl _ _⟩
  | some ad =>
    have hnil := fun W n c => Lib.run_eql_slice_nil (P := Tryz.prog) W 45 49 (some ad) n c 0 0 Tryz.underlying45
    have hown : (w.alloc (.cells #[] 49)).ownsRow w.heap.size 49 6 (.slice (some ⟨w.heap.size, 0, none⟩) 0 0) 0 [] :=
      ⟨rfl, .inr ⟨w.heap.size, 0, #[], rfl, Nat.le_refl _, heap_alloc_new w _, Nat.le_refl _, Nat.zero_le _, rfl, rfl⟩⟩
    have hb0 : Below w.heap.size w (w.alloc (.cells #[] 49)) := bAlloc (Below.refl _ _) _
    have hnews := (hH.under hb0).flat (by decide) (ver_rows A now xs)
    have hlen : (xs.map (verCells A now)).flatten.length = n * 6 := by rw [flat_len 6 _ (ver_rows A now xs), List.length_map, hn]
    have HOwn := Lib.hid hown
    have HNews := Lib.hid hnews
    have HLen := Lib.hid hlen
    have HI := Lib.hid (And.intro hi (And.intro hz0 (And.intro hz1 hz2)))
    have HB0 := Lib.hid hb0
    have HN := Lib.hid hn
    clear hown hnews hlen hi hz0 hz1 hz2 hH hb0 hn h0
    go_enter Tryz.func38, Tryz.ntmps38
    go_wp2_with (at_builtin; refine wpList_append_own _ rfl _ _ 45 rfl w.heap.size 49 i0 (.agg #[.int .i64 0, .string ByteArray.empty, .string ByteArray.empty, .int .i64 0, .slice none 0 0, .int .i64 0]) 6 80 Tryz.underlying45 HI.out.1 HI.out.2.1 HI.out.2.2.1 HI.out.2.2.2 rfl (by decide) _ _ _ rfl HOwn.out ad n c (xs.map (verCells A now)).flatten rfl HLen.out HNews.out (ver_ones A now xs) (by unfold maxLen; omega) (by omega) (by simp) ?_; intro v' w' hown' hgrow _)
    rw [Nat.zero_add, List.nil_append] at hown'
    obtain ⟨a', c', rfl⟩ : ∃ a c, v' = .slice a n c := by
      rcases hown'.2 with ⟨rfl, h⟩ | ⟨g, cap, cur, rfl, _⟩
      · exact ⟨_, _, by rw [h]⟩
      · exact ⟨_, _, rfl⟩
    have HO := Lib.hid hown'
    have HG := Lib.hid hgrow
    clear hown' hgrow
    go_wp2_with fail
    go_ret
    refine ⟨a', c', rfl, ⟨ver_rows A now xs, ?_⟩, HB0.out.grown HG.out (by simp) (fun kk hkk => by cases hkk; exact Nat.le_refl _)⟩
    rw [List.length_map, HN.out]
    exact HO.out

set_option maxHeartbeats 1000000 in
/-- slices.Clone of no Meta. -/
theorem cloneM_nil (w : World) : Calls Tryz.prog 40 #[.slice none 0 0] w fun e w' => e = .returned (.slice none 0 0) ∧ w' = w := by
  have hnil := fun W n c => Lib.run_eql_slice_nil (P := Tryz.prog) W 40 93 none n c 0 0 Tryz.underlying40
  go_enter Tryz.func40, Tryz.ntmps40
  go_wp2_with fail
  go_ret
  exact ⟨rfl, rfl⟩

/-- At most twenty versions are kept. -/
def vcut (l : List Ver) : List Ver := if 20 < l.length then l.drop 1 else l
def MSt.kept (s : MSt) (c : FileSt) : MSt := { s with num := s.num + 1, vers := vcut (s.vers ++ [⟨s.num + 1, c.data, c.time⟩]) }
theorem MapHas.look {P : Program} {k e t : TypeId} {w : World} {b : Nat} {key : ByteArray} {z v : Value} (h : MapHas w b key z v) (hk : P.underlying k = some .string) (hs : key.size ≤ maxLen) (ht : P.underlying t = some (.map k e)) (hz : (zeroValue e).run P w = .ok z w) :
    (Instr.lookup t (.map (some b)) (.string key) false).run P w = .ok v w := by
  obtain ⟨o, h1, h2⟩ := h
  rw [← h2]
  exact h1.look hk hs ht hz
theorem zeroInt (w : World) : (zeroValue 3).run Tryz.prog w = .ok (.int .i64 0) w := by kernel_rfl
theorem zeroVers (w : World) : (zeroValue 45).run Tryz.prog w = .ok (.slice none 0 0) w := by kernel_rfl

/-- What keep reads. -/
structure KS (A : ByteArray) (M : MB) (c : FileSt) (now : Int) (n len : Nat) (W : World) : Prop where
  b18 : W.cell? ⟨M.b, 18, none⟩ = some (.map (some M.vb))
  b19 : W.cell? ⟨M.b, 19, none⟩ = some (.map (some M.mb))
  b9 : W.cell? ⟨M.b, 9, none⟩ = some (ptr M.cb)
  c0 : W.cell? ⟨M.cb, 0, none⟩ = some (.int .i64 now)
  n0 : W.cell? ⟨M.nb, 0, none⟩ = some (.string A)
  n2 : W.cell? ⟨M.nb, 2, none⟩ = some (ptr M.rb)
  n4 : W.cell? ⟨M.nb, 4, none⟩ = some (.string c.data)
  n5 : W.cell? ⟨M.nb, 5, none⟩ = some (.int .i64 c.time)
  n6 : W.cell? ⟨M.nb, 6, none⟩ = some (.slice none 0 0)
  r2 : W.cell? ⟨M.rb, 2, none⟩ = some (.pointer none)
  nums : MapHas W M.mb A (.int .i64 0) (.int .i64 n)
  vers : MapHas W M.vb A (.slice none 0 0) (.slice M.ra len M.cap)
theorem KS.kp {A : ByteArray} {M : MB} {c : FileSt} {now : Int} {n len : Nat} {F : Nat → Prop} {w w' : World} (h : KS A M c now n len w) (hk : Kp F w w') (h1 : ¬ F M.b) (h2 : ¬ F M.cb) (h3 : ¬ F M.nb) (h4 : ¬ F M.rb) (h5 : ¬ F M.mb) (h6 : ¬ F M.vb) : KS A M c now n len w' :=
  ⟨cell_kp hk h.b18 h1, cell_kp hk h.b19 h1, cell_kp hk h.b9 h1, cell_kp hk h.c0 h2, cell_kp hk h.n0 h3, cell_kp hk h.n2 h3, cell_kp hk h.n4 h3, cell_kp hk h.n5 h3, cell_kp hk h.n6 h3, cell_kp hk h.r2 h4, h.nums.kp hk h5, h.vers.kp hk h6⟩
theorem KS.below {A : ByteArray} {M : MB} {c : FileSt} {now : Int} {n len : Nat} {w w' : World} (h : KS A M c now n len w) (hb : Below w.heap.size w w') : KS A M c now n len w' :=
  h.kp (Kp.of (F := fun _ => False) hb) (fun e => e) (fun e => e) (fun e => e) (fun e => e) (fun e => e) (fun e => e)
theorem MemAt.ks {w : World} {B : Nat} {A : ByteArray} {M : MB} {s : MSt} {c : FileSt} (h : MemAt w B A M s) (hc : s.cur = some c) : KS A M c s.now s.num s.vers.length w :=
  ⟨h.versm, h.numm, h.clock, h.now, (h.file c hc).cell (j := 0) rfl, (h.file c hc).cell (j := 2) rfl, (h.file c hc).cell (j := 4) rfl, (h.file c hc).cell (j := 5) rfl, (h.file c hc).cell (j := 6) rfl, h.rup, h.nums, h.vers⟩

/-- A version more. -/
theorem MemAt.versioned {w w' : World} {B : Nat} {A : ByteArray} {M : MB} {s : MSt} {c : FileSt} {ra : Option Addr} {cap n : Nat} {l : List Ver} (h : MemAt w B A M s) (hc : s.cur = some c) (hk : Kp (fun i => i = M.mb ∨ i = M.vb ∨ rb M.ra i) w w') (h1 : MapOn w' M.mb A (some (.int .i64 n))) (h2 : MapOn w' M.vb A (some (.slice ra l.length cap)))
    (h3 : RowG 49 6 w' B ra cap (l.map (verCells A s.now))) : MemAt w' B A { M with ra := ra, cap := cap } { s with num := n, vers := l } := by
  have hap := h.apart
  have hn := hap.nb (by rw [hc]; simp)
  refine ⟨h.box.kp hk ?_, h.clk.kp hk ?_, h.root.kp hk ?_, h.kids.kp hk ?_, h.ca.kp hk ?_, h.si.kp hk ?_, fun c' hc' => (h.file c' hc').kp hk ?_, ⟨_, h1, rfl⟩, ⟨_, h2, rfl⟩, h3, h.lo, h.ne1, h.ne2⟩
  · exact fun e => e.elim hap.b.2.2.2.2.2.2.1 (fun e => e.elim hap.b.2.2.2.2.2.1 hap.b.2.2.2.2.2.2.2)
  · exact fun e => e.elim hap.cb.2.2.2.2.2.1 (fun e => e.elim hap.cb.2.2.2.2.1 hap.cb.2.2.2.2.2.2)
  · exact fun e => e.elim hap.rb.2.2.2.2.1 (fun e => e.elim hap.rb.2.2.2.1 hap.rb.2.2.2.2.2)
  · exact fun e => e.elim hap.kb.2.2.2.1 (fun e => e.elim hap.kb.2.2.1 hap.kb.2.2.2.2)
  · exact fun e => e.elim hap.ca.2.2.1 (fun e => e.elim hap.ca.2.1 hap.ca.2.2.2)
  · exact fun e => e.elim hap.si.2.1 (fun e => e.elim hap.si.1 hap.si.2.2)
  · exact fun e => e.elim (fun e => hn.2.2.2.2.2.2.2.1 e.symm) (fun e => e.elim (fun e => hn.2.2.2.2.2.2.1 e.symm) hn.2.2.2.2.2.2.2.2)

def KeepPost (B : Nat) (A : ByteArray) (M : MB) (s : MSt) (c : FileSt) (w : World) (e : Ending) (w' : World) : Prop :=
  e = .returned (.tuple #[]) ∧ ∃ ra cap, MemAt w' B A { M with ra := ra, cap := cap } (s.kept c) ∧ Kp (fun i => i = M.mb ∨ i = M.vb ∨ rb M.ra i) w w' ∧ (∀ i, rb ra i → rb M.ra i ∨ w.heap.size ≤ i)
theorem holds_drop1 {w : World} {g n : Nat} {xs : List (List Value)} (h : HoldsR w (some ⟨g, 0, none⟩) n xs) : HoldsR w (some ⟨g, n, none⟩) n (xs.drop 1) := by
  rcases h with rfl | ⟨b, off, ha, hlt, hc⟩
  · exact .inl rfl
  · injection ha with ha
    injection ha with h1 h2
    subst h1 h2
    refine .inr ⟨g, n, rfl, hlt, fun k row hk j u hu => ?_⟩
    rw [List.getElem?_drop] at hk
    have := hc (1 + k) row hk j u hu
    rw [show 0 + (1 + k) * n + j = n + k * n + j by rw [Nat.add_mul, Nat.one_mul, Nat.zero_add]] at this
    exact this
/-- What the parts of keep come to. -/
theorem keep_end {B : Nat} {A : ByteArray} {M : MB} {s : MSt} {c : FileSt} {w w1 w2 w3 w4 w5 : World} {n1 : Nat} {l : List Ver} {ra : Option Addr} {cap z : Nat} {o3 : Option Value} (hM1 : MemAt w1 B A M s) (hc : s.cur = some c) (hb1 : Below w.heap.size w w1) (hk2 : Kp (fun i => i = M.mb) w1 w2) (hm2 : MapOn w2 M.mb A (some (.int .i64 n1)))
    (hk3 : Kp (rb M.ra) w2 w3) (ho3 : MapOn w3 M.vb A o3) (hb4 : Below w3.heap.size w3 w4) (hR : RowG 49 6 w4 B ra cap (l.map (verCells A s.now))) (hra : ∀ i, rb ra i → rb M.ra i ∨ w.heap.size ≤ i) (hk5 : Kp (fun i => i = M.vb) w4 w5) (hm5 : MapOn w5 M.vb A (some (.slice ra z cap))) (hz : l.length = z) (hs : s.kept c = { s with num := n1, vers := l }) :
    KeepPost B A M s c w (.returned (.tuple #[])) w5 := by
  have hap := hM1.apart
  have hk : Kp (fun i => i = M.mb ∨ i = M.vb ∨ rb M.ra i) w1 w5 := ((hk2.mono (fun i e => .inl e)).trans (hk3.mono (fun i e => .inr (.inr e)))).trans ((Kp.of hb4).trans (hk5.mono (fun i e => .inr (.inl e))))
  refine ⟨rfl, ra, cap, ?_, (Kp.of hb1).trans hk, hra⟩
  rw [hs]
  refine hM1.versioned hc hk (((hm2.kp hk3 hap.mb).kp (Kp.of (F := fun _ => False) hb4) (fun e => e)).kp hk5 (fun e => hap.vb.1 e.symm)) (by rw [hz]; exact hm5) (hR.kp hk5 (fun i hi e => ?_))
  exact hR.ne_map (ho3.kp (Kp.of (F := fun _ => False) hb4) (fun e => e)) (e ▸ hi)

set_option maxHeartbeats 4000000 in
set_option maxRecDepth 100000 in
theorem keep_any (w : World) (B : Nat) (A : ByteArray) (M : MB) (s : MSt) (c : FileSt) (hM : MemAt w B A M s) (hc : s.cur = some c) (hA : PathA A) (hv : hasB s.f 1024 = true) (hn : s.num ≤ 1000000) (hl : s.vers.length ≤ 20) (hBw : B ≤ w.heap.size) :
    Calls Tryz.prog 31 #[ptr M.b, ptr M.nb] w (KeepPost B A M s c w) := by
  have HH := Lib.hid (has_any M.b s.f 1024 w hM.has)
  rw [hv] at HH
  have HPa := Lib.hid (hM.pathAt hc)
  have HPk := Lib.hid (pathKey_any M.b s.f A w hA hM.has)
  have HM := Lib.hid hM
  have HA := Lib.hid hA
  have hap := hM.apart
  have hnb := hap.nb (by rw [hc]; simp)
  have HAp := Lib.hid (And.intro hap hnb)
  obtain ⟨len, hlen⟩ : ∃ len, s.vers.length = len := ⟨_, rfl⟩
  have HLen := Lib.hid hlen
  obtain ⟨n1, hn1⟩ : ∃ n1, s.num + 1 = n1 := ⟨_, rfl⟩
  have e1 : wrap64 ((s.num : Int) + 1) = (n1 : Int) := by rw [IntWalk.wrap64_in _ ⟨by omega, by omega⟩]; omega
  have e2 : (s.num : Int) + 1 = (n1 : Int) := by omega
  have HN1 := Lib.hid hn1
  rw [hlen] at hl
  clear hM hA hap hnb hlen hn1 hv
  go_enter Tryz.func31, Tryz.ntmps31
  go_upto_region 2 with (first | (go_at_call 36; refine HH.out.mono ?_; rintro e w' ⟨rfl, hw⟩; (have hw2 := hw.symm; clear hw; subst hw2)) | (go_at_call 65; refine HPa.out.mono ?_; rintro e w' ⟨rfl, hw⟩; (have hw2 := hw.symm; clear hw; subst hw2)) | (go_at_call 39; refine HPk.out.mono ?_; rintro e w1 ⟨rfl, hb1⟩))
  have HM1 := Lib.hid (HM.out.below hb1)
  have HB1 := Lib.hid hb1
  have c19 := HM1.out.numm
  have hlk := HM1.out.nums.look Tryz.underlying9 HA.out.max Tryz.underlying87 (zeroInt w1)
  obtain ⟨o1, HO1, _⟩ := HM1.out.nums
  have HO1 := Lib.hid HO1
  clear hb1
  go_upto_region 3 with (at_mapUpdate; refine wpList_mapUpdate_on w1 HO1.out rfl _ _ _ _ rfl Tryz.underlying9 HA.out.max Tryz.underlying87 rfl rfl _ rfl (fun w2 hw2a hw2b => ?_))
  have HMa : Hid (MapOn w2 M.mb A (some (.int .i64 n1))) := Lib.hid (by first | exact hw2a | (rw [e1] at hw2a; exact hw2a) | (rw [e2] at hw2a; exact hw2a))
  have HK2 := Lib.hid hw2b
  have HS0 : Hid (KS A M c s.now n1 len w2) := Lib.hid (by
    have h := HM1.out.ks hc
    rw [HLen.out] at h
    exact ⟨cell_kp hw2b h.b18 HAp.out.1.b.2.2.2.2.2.2.1, cell_kp hw2b h.b19 HAp.out.1.b.2.2.2.2.2.2.1, cell_kp hw2b h.b9 HAp.out.1.b.2.2.2.2.2.2.1, cell_kp hw2b h.c0 HAp.out.1.cb.2.2.2.2.2.1, cell_kp hw2b h.n0 (fun e => HAp.out.2.2.2.2.2.2.2.2.1 e.symm), cell_kp hw2b h.n2 (fun e => HAp.out.2.2.2.2.2.2.2.2.1 e.symm), cell_kp hw2b h.n4 (fun e => HAp.out.2.2.2.2.2.2.2.2.1 e.symm), cell_kp hw2b h.n5 (fun e => HAp.out.2.2.2.2.2.2.2.2.1 e.symm), cell_kp hw2b h.n6 (fun e => HAp.out.2.2.2.2.2.2.2.2.1 e.symm), cell_kp hw2b h.r2 HAp.out.1.rb.2.2.2.2.1, ⟨_, HMa.out, rfl⟩, h.vers.kp hw2b HAp.out.1.vb.1⟩)
  have HR2 : Hid (RowG 49 6 w2 B M.ra M.cap (s.vers.map (verCells A s.now))) := Lib.hid (HM1.out.row.kp hw2b (fun i hi e => HAp.out.1.mb (e ▸ hi)))
  have hB2 : B ≤ w2.heap.size := Nat.le_trans hBw (Nat.le_trans HB1.out.size hw2b.size)
  clear hlk c19 hw2a hw2b
  have hms : (s.vers.map (verCells A s.now)).length = len := by rw [List.length_map]; exact HLen.out
  have HMs := Lib.hid hms
  have HS0d : Hid (KS A M c s.now n1 len w2.drew) := Lib.hid (HS0.out.kp ((Kp.refl (fun _ => False) w2).drew 1) (fun e => e) (fun e => e) (fun e => e) (fun e => e) (fun e => e) (fun e => e))
  have HR2d : Hid (RowG 49 6 w2.drew B M.ra M.cap (s.vers.map (verCells A s.now))) := Lib.hid (HR2.out.kp ((Kp.refl (fun _ => False) w2).drew 1) (fun _ _ e => e))
  obtain ⟨iv, hiv, hz0, hz1, hz2⟩ := info_parts infoVersion
  have HI := Lib.hid (And.intro hiv (And.intro hz0 (And.intro hz1 hz2)))
  clear hiv hz0 hz1 hz2 hms
  --R3
  refine wp_region_seqQ (KS A M c s.now n1 len) 1000 [(0, true), (1, true), (2, true), (3, true), (4, true), (5, true), (6, true), (7, true), (8, true), (9, true), (10, true), (11, true), (12, true), (13, true), (14, true), (15, true), (16, true), (17, true), (18, true), (19, true), (20, true), (21, true), (22, true), (23, true), (24, true), (25, true), (26, true), (27, true), (28, true), (29, true), (30, true), (31, true), (32, true), (33, false), (34, false), (35, true)] (by as_aux_lemma => kernel_rfl) (by as_aux_lemma => kernel_rfl) (by as_aux_lemma => kernel_rfl) (by decide) (by as_aux_lemma => kernel_rfl) (by decide) HS0d.out ?_
  intro OPS HO
  refine seqQ_take (o := ⟨_, _, _, _, _, _⟩) (v := ?_) (by rw [HO.out]; rfl) (by rfl) ?_ ?_
  rotate_left 1
  · first | ((intro W _; go_simp) <;> with_reducible rfl) | (intro W hW; have k1 := hW.b18; have k2 := hW.b19; have k3 := hW.b9; have k4 := hW.c0; have k5 := hW.n4; have k6 := hW.n5; have k7 := hW.n6; have k8 := hW.vers.look Tryz.underlying9 HA.out.max Tryz.underlying86 (zeroVers W); have k9 := hW.nums.look Tryz.underlying9 HA.out.max Tryz.underlying87 (zeroInt W); (go_simp <;> with_reducible rfl))
  try simp only [Act.put, List.setIfInBounds_toArray, List.set_cons_zero, List.set_cons_succ]
  refine seqQ_take (o := ⟨_, _, _, _, _, _⟩) (v := ?_) (by rw [HO.out]; rfl) (by rfl) ?_ ?_
  rotate_left 1
  · first | ((intro W _; go_simp) <;> with_reducible rfl) | (intro W hW; have k1 := hW.b18; have k2 := hW.b19; have k3 := hW.b9; have k4 := hW.c0; have k5 := hW.n4; have k6 := hW.n5; have k7 := hW.n6; have k8 := hW.vers.look Tryz.underlying9 HA.out.max Tryz.underlying86 (zeroVers W); have k9 := hW.nums.look Tryz.underlying9 HA.out.max Tryz.underlying87 (zeroInt W); (go_simp <;> with_reducible rfl))
  try simp only [Act.put, List.setIfInBounds_toArray, List.set_cons_zero, List.set_cons_succ]
  refine seqQ_take (o := ⟨_, _, _, _, _, _⟩) (v := ?_) (by rw [HO.out]; rfl) (by rfl) ?_ ?_
  rotate_left 1
  · first | ((intro W _; go_simp) <;> with_reducible rfl) | (intro W hW; have k1 := hW.b18; have k2 := hW.b19; have k3 := hW.b9; have k4 := hW.c0; have k5 := hW.n4; have k6 := hW.n5; have k7 := hW.n6; have k8 := hW.vers.look Tryz.underlying9 HA.out.max Tryz.underlying86 (zeroVers W); have k9 := hW.nums.look Tryz.underlying9 HA.out.max Tryz.underlying87 (zeroInt W); (go_simp <;> with_reducible rfl))
  try simp only [Act.put, List.setIfInBounds_toArray, List.set_cons_zero, List.set_cons_succ]
  refine seqQ_take (o := ⟨_, _, _, _, _, _⟩) (v := ?_) (by rw [HO.out]; rfl) (by rfl) ?_ ?_
  rotate_left 1
  · first | ((intro W _; go_simp) <;> with_reducible rfl) | (intro W hW; have k1 := hW.b18; have k2 := hW.b19; have k3 := hW.b9; have k4 := hW.c0; have k5 := hW.n4; have k6 := hW.n5; have k7 := hW.n6; have k8 := hW.vers.look Tryz.underlying9 HA.out.max Tryz.underlying86 (zeroVers W); have k9 := hW.nums.look Tryz.underlying9 HA.out.max Tryz.underlying87 (zeroInt W); (go_simp <;> with_reducible rfl))
  try simp only [Act.put, List.setIfInBounds_toArray, List.set_cons_zero, List.set_cons_succ]
  refine seqQ_take (o := ⟨_, _, _, _, _, _⟩) (v := ?_) (by rw [HO.out]; rfl) (by rfl) ?_ ?_
  rotate_left 1
  · first | ((intro W _; go_simp) <;> with_reducible rfl) | (intro W hW; have k1 := hW.b18; have k2 := hW.b19; have k3 := hW.b9; have k4 := hW.c0; have k5 := hW.n4; have k6 := hW.n5; have k7 := hW.n6; have k8 := hW.vers.look Tryz.underlying9 HA.out.max Tryz.underlying86 (zeroVers W); have k9 := hW.nums.look Tryz.underlying9 HA.out.max Tryz.underlying87 (zeroInt W); (go_simp <;> with_reducible rfl))
  try simp only [Act.put, List.setIfInBounds_toArray, List.set_cons_zero, List.set_cons_succ]
  refine seqQ_take (o := ⟨_, _, _, _, _, _⟩) (v := ?_) (by rw [HO.out]; rfl) (by rfl) ?_ ?_
  rotate_left 1
  · first | ((intro W _; go_simp) <;> with_reducible rfl) | (intro W hW; have k1 := hW.b18; have k2 := hW.b19; have k3 := hW.b9; have k4 := hW.c0; have k5 := hW.n4; have k6 := hW.n5; have k7 := hW.n6; have k8 := hW.vers.look Tryz.underlying9 HA.out.max Tryz.underlying86 (zeroVers W); have k9 := hW.nums.look Tryz.underlying9 HA.out.max Tryz.underlying87 (zeroInt W); (go_simp <;> with_reducible rfl))
  try simp only [Act.put, List.setIfInBounds_toArray, List.set_cons_zero, List.set_cons_succ]
  refine seqQ_take (o := ⟨_, _, _, _, _, _⟩) (v := ?_) (by rw [HO.out]; rfl) (by rfl) ?_ ?_
  rotate_left 1
  · first | ((intro W _; go_simp) <;> with_reducible rfl) | (intro W hW; have k1 := hW.b18; have k2 := hW.b19; have k3 := hW.b9; have k4 := hW.c0; have k5 := hW.n4; have k6 := hW.n5; have k7 := hW.n6; have k8 := hW.vers.look Tryz.underlying9 HA.out.max Tryz.underlying86 (zeroVers W); have k9 := hW.nums.look Tryz.underlying9 HA.out.max Tryz.underlying87 (zeroInt W); (go_simp <;> with_reducible rfl))
  try simp only [Act.put, List.setIfInBounds_toArray, List.set_cons_zero, List.set_cons_succ]
  refine seqQ_take (o := ⟨_, _, _, _, _, _⟩) (v := ?_) (by rw [HO.out]; rfl) (by rfl) ?_ ?_
  rotate_left 1
  · first | ((intro W _; go_simp) <;> with_reducible rfl) | (intro W hW; have k1 := hW.b18; have k2 := hW.b19; have k3 := hW.b9; have k4 := hW.c0; have k5 := hW.n4; have k6 := hW.n5; have k7 := hW.n6; have k8 := hW.vers.look Tryz.underlying9 HA.out.max Tryz.underlying86 (zeroVers W); have k9 := hW.nums.look Tryz.underlying9 HA.out.max Tryz.underlying87 (zeroInt W); (go_simp <;> with_reducible rfl))
  try simp only [Act.put, List.setIfInBounds_toArray, List.set_cons_zero, List.set_cons_succ]
  refine seqQ_take (o := ⟨_, _, _, _, _, _⟩) (v := ?_) (by rw [HO.out]; rfl) (by rfl) ?_ ?_
  rotate_left 1
  · first | ((intro W _; go_simp) <;> with_reducible rfl) | (intro W hW; have k1 := hW.b18; have k2 := hW.b19; have k3 := hW.b9; have k4 := hW.c0; have k5 := hW.n4; have k6 := hW.n5; have k7 := hW.n6; have k8 := hW.vers.look Tryz.underlying9 HA.out.max Tryz.underlying86 (zeroVers W); have k9 := hW.nums.look Tryz.underlying9 HA.out.max Tryz.underlying87 (zeroInt W); (go_simp <;> with_reducible rfl))
  try simp only [Act.put, List.setIfInBounds_toArray, List.set_cons_zero, List.set_cons_succ]
  refine seqQ_take (o := ⟨_, _, _, _, _, _⟩) (v := ?_) (by rw [HO.out]; rfl) (by rfl) ?_ ?_
  rotate_left 1
  · first | ((intro W _; go_simp) <;> with_reducible rfl) | (intro W hW; have k1 := hW.b18; have k2 := hW.b19; have k3 := hW.b9; have k4 := hW.c0; have k5 := hW.n4; have k6 := hW.n5; have k7 := hW.n6; have k8 := hW.vers.look Tryz.underlying9 HA.out.max Tryz.underlying86 (zeroVers W); have k9 := hW.nums.look Tryz.underlying9 HA.out.max Tryz.underlying87 (zeroInt W); (go_simp <;> with_reducible rfl))
  try simp only [Act.put, List.setIfInBounds_toArray, List.set_cons_zero, List.set_cons_succ]
  refine seqQ_take (o := ⟨_, _, _, _, _, _⟩) (v := ?_) (by rw [HO.out]; rfl) (by rfl) ?_ ?_
  rotate_left 1
  · first | ((intro W _; go_simp) <;> with_reducible rfl) | (intro W hW; have k1 := hW.b18; have k2 := hW.b19; have k3 := hW.b9; have k4 := hW.c0; have k5 := hW.n4; have k6 := hW.n5; have k7 := hW.n6; have k8 := hW.vers.look Tryz.underlying9 HA.out.max Tryz.underlying86 (zeroVers W); have k9 := hW.nums.look Tryz.underlying9 HA.out.max Tryz.underlying87 (zeroInt W); (go_simp <;> with_reducible rfl))
  try simp only [Act.put, List.setIfInBounds_toArray, List.set_cons_zero, List.set_cons_succ]
  refine seqQ_take (o := ⟨_, _, _, _, _, _⟩) (v := ?_) (by rw [HO.out]; rfl) (by rfl) ?_ ?_
  rotate_left 1
  · first | ((intro W _; go_simp) <;> with_reducible rfl) | (intro W hW; have k1 := hW.b18; have k2 := hW.b19; have k3 := hW.b9; have k4 := hW.c0; have k5 := hW.n4; have k6 := hW.n5; have k7 := hW.n6; have k8 := hW.vers.look Tryz.underlying9 HA.out.max Tryz.underlying86 (zeroVers W); have k9 := hW.nums.look Tryz.underlying9 HA.out.max Tryz.underlying87 (zeroInt W); (go_simp <;> with_reducible rfl))
  try simp only [Act.put, List.setIfInBounds_toArray, List.set_cons_zero, List.set_cons_succ]
  refine seqQ_take (o := ⟨_, _, _, _, _, _⟩) (v := ?_) (by rw [HO.out]; rfl) (by rfl) ?_ ?_
  rotate_left 1
  · first | ((intro W _; go_simp) <;> with_reducible rfl) | (intro W hW; have k1 := hW.b18; have k2 := hW.b19; have k3 := hW.b9; have k4 := hW.c0; have k5 := hW.n4; have k6 := hW.n5; have k7 := hW.n6; have k8 := hW.vers.look Tryz.underlying9 HA.out.max Tryz.underlying86 (zeroVers W); have k9 := hW.nums.look Tryz.underlying9 HA.out.max Tryz.underlying87 (zeroInt W); (go_simp <;> with_reducible rfl))
  try simp only [Act.put, List.setIfInBounds_toArray, List.set_cons_zero, List.set_cons_succ]
  refine seqQ_quiet (o := ⟨_, _, _, _, _, _⟩) (by rw [HO.out]; rfl) (by rfl) 65 _ (fun W hW => ?_) _ (fun W hW => path_any M.nb M.rb A W hW.n0 hW.n2 hW.r2) ?_
  · have k1 := hW.b18; have k2 := hW.b19; have k3 := hW.b9; have k4 := hW.c0; have k5 := hW.n4; have k6 := hW.n5; have k7 := hW.n6; have k8 := hW.vers.look Tryz.underlying9 HA.out.max Tryz.underlying86 (zeroVers W); have k9 := hW.nums.look Tryz.underlying9 HA.out.max Tryz.underlying87 (zeroInt W); (go_simp <;> with_reducible rfl)
  try simp only [Act.put, List.setIfInBounds_toArray, List.set_cons_zero, List.set_cons_succ]
  refine seqQ_take (o := ⟨_, _, _, _, _, _⟩) (v := ?_) (by rw [HO.out]; rfl) (by rfl) ?_ ?_
  rotate_left 1
  · first | ((intro W _; go_simp) <;> with_reducible rfl) | (intro W hW; have k1 := hW.b18; have k2 := hW.b19; have k3 := hW.b9; have k4 := hW.c0; have k5 := hW.n4; have k6 := hW.n5; have k7 := hW.n6; have k8 := hW.vers.look Tryz.underlying9 HA.out.max Tryz.underlying86 (zeroVers W); have k9 := hW.nums.look Tryz.underlying9 HA.out.max Tryz.underlying87 (zeroInt W); (go_simp <;> with_reducible rfl))
  try simp only [Act.put, List.setIfInBounds_toArray, List.set_cons_zero, List.set_cons_succ]
  refine seqQ_take (o := ⟨_, _, _, _, _, _⟩) (v := ?_) (by rw [HO.out]; rfl) (by rfl) ?_ ?_
  rotate_left 1
  · first | ((intro W _; go_simp) <;> with_reducible rfl) | (intro W hW; have k1 := hW.b18; have k2 := hW.b19; have k3 := hW.b9; have k4 := hW.c0; have k5 := hW.n4; have k6 := hW.n5; have k7 := hW.n6; have k8 := hW.vers.look Tryz.underlying9 HA.out.max Tryz.underlying86 (zeroVers W); have k9 := hW.nums.look Tryz.underlying9 HA.out.max Tryz.underlying87 (zeroInt W); (go_simp <;> with_reducible rfl))
  try simp only [Act.put, List.setIfInBounds_toArray, List.set_cons_zero, List.set_cons_succ]
  refine seqQ_take (o := ⟨_, _, _, _, _, _⟩) (v := ?_) (by rw [HO.out]; rfl) (by rfl) ?_ ?_
  rotate_left 1
  · first | ((intro W _; go_simp) <;> with_reducible rfl) | (intro W hW; have k1 := hW.b18; have k2 := hW.b19; have k3 := hW.b9; have k4 := hW.c0; have k5 := hW.n4; have k6 := hW.n5; have k7 := hW.n6; have k8 := hW.vers.look Tryz.underlying9 HA.out.max Tryz.underlying86 (zeroVers W); have k9 := hW.nums.look Tryz.underlying9 HA.out.max Tryz.underlying87 (zeroInt W); (go_simp <;> with_reducible rfl))
  try simp only [Act.put, List.setIfInBounds_toArray, List.set_cons_zero, List.set_cons_succ]
  refine seqQ_take (o := ⟨_, _, _, _, _, _⟩) (v := ?_) (by rw [HO.out]; rfl) (by rfl) ?_ ?_
  rotate_left 1
  · first | ((intro W _; go_simp) <;> with_reducible rfl) | (intro W hW; have k1 := hW.b18; have k2 := hW.b19; have k3 := hW.b9; have k4 := hW.c0; have k5 := hW.n4; have k6 := hW.n5; have k7 := hW.n6; have k8 := hW.vers.look Tryz.underlying9 HA.out.max Tryz.underlying86 (zeroVers W); have k9 := hW.nums.look Tryz.underlying9 HA.out.max Tryz.underlying87 (zeroInt W); (go_simp <;> with_reducible rfl))
  try simp only [Act.put, List.setIfInBounds_toArray, List.set_cons_zero, List.set_cons_succ]
  refine seqQ_take (o := ⟨_, _, _, _, _, _⟩) (v := ?_) (by rw [HO.out]; rfl) (by rfl) ?_ ?_
  rotate_left 1
  · first | ((intro W _; go_simp) <;> with_reducible rfl) | (intro W hW; have k1 := hW.b18; have k2 := hW.b19; have k3 := hW.b9; have k4 := hW.c0; have k5 := hW.n4; have k6 := hW.n5; have k7 := hW.n6; have k8 := hW.vers.look Tryz.underlying9 HA.out.max Tryz.underlying86 (zeroVers W); have k9 := hW.nums.look Tryz.underlying9 HA.out.max Tryz.underlying87 (zeroInt W); (go_simp <;> with_reducible rfl))
  try simp only [Act.put, List.setIfInBounds_toArray, List.set_cons_zero, List.set_cons_succ]
  refine seqQ_take (o := ⟨_, _, _, _, _, _⟩) (v := ?_) (by rw [HO.out]; rfl) (by rfl) ?_ ?_
  rotate_left 1
  · first | ((intro W _; go_simp) <;> with_reducible rfl) | (intro W hW; have k1 := hW.b18; have k2 := hW.b19; have k3 := hW.b9; have k4 := hW.c0; have k5 := hW.n4; have k6 := hW.n5; have k7 := hW.n6; have k8 := hW.vers.look Tryz.underlying9 HA.out.max Tryz.underlying86 (zeroVers W); have k9 := hW.nums.look Tryz.underlying9 HA.out.max Tryz.underlying87 (zeroInt W); (go_simp <;> with_reducible rfl))
  try simp only [Act.put, List.setIfInBounds_toArray, List.set_cons_zero, List.set_cons_succ]
  refine seqQ_take (o := ⟨_, _, _, _, _, _⟩) (v := ?_) (by rw [HO.out]; rfl) (by rfl) ?_ ?_
  rotate_left 1
  · first | ((intro W _; go_simp) <;> with_reducible rfl) | (intro W hW; have k1 := hW.b18; have k2 := hW.b19; have k3 := hW.b9; have k4 := hW.c0; have k5 := hW.n4; have k6 := hW.n5; have k7 := hW.n6; have k8 := hW.vers.look Tryz.underlying9 HA.out.max Tryz.underlying86 (zeroVers W); have k9 := hW.nums.look Tryz.underlying9 HA.out.max Tryz.underlying87 (zeroInt W); (go_simp <;> with_reducible rfl))
  try simp only [Act.put, List.setIfInBounds_toArray, List.set_cons_zero, List.set_cons_succ]
  refine seqQ_take (o := ⟨_, _, _, _, _, _⟩) (v := ?_) (by rw [HO.out]; rfl) (by rfl) ?_ ?_
  rotate_left 1
  · first | ((intro W _; go_simp) <;> with_reducible rfl) | (intro W hW; have k1 := hW.b18; have k2 := hW.b19; have k3 := hW.b9; have k4 := hW.c0; have k5 := hW.n4; have k6 := hW.n5; have k7 := hW.n6; have k8 := hW.vers.look Tryz.underlying9 HA.out.max Tryz.underlying86 (zeroVers W); have k9 := hW.nums.look Tryz.underlying9 HA.out.max Tryz.underlying87 (zeroInt W); (go_simp <;> with_reducible rfl))
  try simp only [Act.put, List.setIfInBounds_toArray, List.set_cons_zero, List.set_cons_succ]
  refine seqQ_take (o := ⟨_, _, _, _, _, _⟩) (v := ?_) (by rw [HO.out]; rfl) (by rfl) ?_ ?_
  rotate_left 1
  · first | ((intro W _; go_simp) <;> with_reducible rfl) | (intro W hW; have k1 := hW.b18; have k2 := hW.b19; have k3 := hW.b9; have k4 := hW.c0; have k5 := hW.n4; have k6 := hW.n5; have k7 := hW.n6; have k8 := hW.vers.look Tryz.underlying9 HA.out.max Tryz.underlying86 (zeroVers W); have k9 := hW.nums.look Tryz.underlying9 HA.out.max Tryz.underlying87 (zeroInt W); (go_simp <;> with_reducible rfl))
  try simp only [Act.put, List.setIfInBounds_toArray, List.set_cons_zero, List.set_cons_succ]
  refine seqQ_take (o := ⟨_, _, _, _, _, _⟩) (v := ?_) (by rw [HO.out]; rfl) (by rfl) ?_ ?_
  rotate_left 1
  · first | ((intro W _; go_simp) <;> with_reducible rfl) | (intro W hW; have k1 := hW.b18; have k2 := hW.b19; have k3 := hW.b9; have k4 := hW.c0; have k5 := hW.n4; have k6 := hW.n5; have k7 := hW.n6; have k8 := hW.vers.look Tryz.underlying9 HA.out.max Tryz.underlying86 (zeroVers W); have k9 := hW.nums.look Tryz.underlying9 HA.out.max Tryz.underlying87 (zeroInt W); (go_simp <;> with_reducible rfl))
  try simp only [Act.put, List.setIfInBounds_toArray, List.set_cons_zero, List.set_cons_succ]
  refine seqQ_take (o := ⟨_, _, _, _, _, _⟩) (v := ?_) (by rw [HO.out]; rfl) (by rfl) ?_ ?_
  rotate_left 1
  · first | ((intro W _; go_simp) <;> with_reducible rfl) | (intro W hW; have k1 := hW.b18; have k2 := hW.b19; have k3 := hW.b9; have k4 := hW.c0; have k5 := hW.n4; have k6 := hW.n5; have k7 := hW.n6; have k8 := hW.vers.look Tryz.underlying9 HA.out.max Tryz.underlying86 (zeroVers W); have k9 := hW.nums.look Tryz.underlying9 HA.out.max Tryz.underlying87 (zeroInt W); (go_simp <;> with_reducible rfl))
  try simp only [Act.put, List.setIfInBounds_toArray, List.set_cons_zero, List.set_cons_succ]
  refine seqQ_take (o := ⟨_, _, _, _, _, _⟩) (v := ?_) (by rw [HO.out]; rfl) (by rfl) ?_ ?_
  rotate_left 1
  · first | ((intro W _; go_simp) <;> with_reducible rfl) | (intro W hW; have k1 := hW.b18; have k2 := hW.b19; have k3 := hW.b9; have k4 := hW.c0; have k5 := hW.n4; have k6 := hW.n5; have k7 := hW.n6; have k8 := hW.vers.look Tryz.underlying9 HA.out.max Tryz.underlying86 (zeroVers W); have k9 := hW.nums.look Tryz.underlying9 HA.out.max Tryz.underlying87 (zeroInt W); (go_simp <;> with_reducible rfl))
  try simp only [Act.put, List.setIfInBounds_toArray, List.set_cons_zero, List.set_cons_succ]
  refine seqQ_quiet (o := ⟨_, _, _, _, _, _⟩) (by rw [HO.out]; rfl) (by rfl) 40 _ (fun W hW => ?_) _ (fun W hW => cloneM_nil W) ?_
  · have k1 := hW.b18; have k2 := hW.b19; have k3 := hW.b9; have k4 := hW.c0; have k5 := hW.n4; have k6 := hW.n5; have k7 := hW.n6; have k8 := hW.vers.look Tryz.underlying9 HA.out.max Tryz.underlying86 (zeroVers W); have k9 := hW.nums.look Tryz.underlying9 HA.out.max Tryz.underlying87 (zeroInt W); (go_simp <;> with_reducible rfl)
  try simp only [Act.put, List.setIfInBounds_toArray, List.set_cons_zero, List.set_cons_succ]
  refine seqQ_take (o := ⟨_, _, _, _, _, _⟩) (v := ?_) (by rw [HO.out]; rfl) (by rfl) ?_ ?_
  rotate_left 1
  · first | ((intro W _; go_simp) <;> with_reducible rfl) | (intro W hW; have k1 := hW.b18; have k2 := hW.b19; have k3 := hW.b9; have k4 := hW.c0; have k5 := hW.n4; have k6 := hW.n5; have k7 := hW.n6; have k8 := hW.vers.look Tryz.underlying9 HA.out.max Tryz.underlying86 (zeroVers W); have k9 := hW.nums.look Tryz.underlying9 HA.out.max Tryz.underlying87 (zeroInt W); (go_simp <;> with_reducible rfl))
  try simp only [Act.put, List.setIfInBounds_toArray, List.set_cons_zero, List.set_cons_succ]
  refine seqQ_take (o := ⟨_, _, _, _, _, _⟩) (v := ?_) (by rw [HO.out]; rfl) (by rfl) ?_ ?_
  rotate_left 1
  · first | ((intro W _; go_simp) <;> with_reducible rfl) | (intro W hW; have k1 := hW.b18; have k2 := hW.b19; have k3 := hW.b9; have k4 := hW.c0; have k5 := hW.n4; have k6 := hW.n5; have k7 := hW.n6; have k8 := hW.vers.look Tryz.underlying9 HA.out.max Tryz.underlying86 (zeroVers W); have k9 := hW.nums.look Tryz.underlying9 HA.out.max Tryz.underlying87 (zeroInt W); (go_simp <;> with_reducible rfl))
  try simp only [Act.put, List.setIfInBounds_toArray, List.set_cons_zero, List.set_cons_succ]
  refine seqQ_take (o := ⟨_, _, _, _, _, _⟩) (v := ?_) (by rw [HO.out]; rfl) (by rfl) ?_ ?_
  rotate_left 1
  · first | ((intro W _; go_simp) <;> with_reducible rfl) | (intro W hW; have k1 := hW.b18; have k2 := hW.b19; have k3 := hW.b9; have k4 := hW.c0; have k5 := hW.n4; have k6 := hW.n5; have k7 := hW.n6; have k8 := hW.vers.look Tryz.underlying9 HA.out.max Tryz.underlying86 (zeroVers W); have k9 := hW.nums.look Tryz.underlying9 HA.out.max Tryz.underlying87 (zeroInt W); (go_simp <;> with_reducible rfl))
  try simp only [Act.put, List.setIfInBounds_toArray, List.set_cons_zero, List.set_cons_succ]
  refine seqQ_take (o := ⟨_, _, _, _, _, _⟩) (v := ?_) (by rw [HO.out]; rfl) (by rfl) ?_ ?_
  rotate_left 1
  · first | ((intro W _; go_simp) <;> with_reducible rfl) | (intro W hW; have k1 := hW.b18; have k2 := hW.b19; have k3 := hW.b9; have k4 := hW.c0; have k5 := hW.n4; have k6 := hW.n5; have k7 := hW.n6; have k8 := hW.vers.look Tryz.underlying9 HA.out.max Tryz.underlying86 (zeroVers W); have k9 := hW.nums.look Tryz.underlying9 HA.out.max Tryz.underlying87 (zeroInt W); (go_simp <;> with_reducible rfl))
  try simp only [Act.put, List.setIfInBounds_toArray, List.set_cons_zero, List.set_cons_succ]
  refine seqQ_quiet (o := ⟨_, _, _, _, _, _⟩) (by rw [HO.out]; rfl) (by rfl) 26 _ (fun W hW => ?_) _ (fun W hW => nowM_any M.cb s.now W hW.c0) ?_
  · have k1 := hW.b18; have k2 := hW.b19; have k3 := hW.b9; have k4 := hW.c0; have k5 := hW.n4; have k6 := hW.n5; have k7 := hW.n6; have k8 := hW.vers.look Tryz.underlying9 HA.out.max Tryz.underlying86 (zeroVers W); have k9 := hW.nums.look Tryz.underlying9 HA.out.max Tryz.underlying87 (zeroInt W); (go_simp <;> with_reducible rfl)
  try simp only [Act.put, List.setIfInBounds_toArray, List.set_cons_zero, List.set_cons_succ]
  refine seqQ_take (o := ⟨_, _, _, _, _, _⟩) (v := ?_) (by rw [HO.out]; rfl) (by rfl) ?_ ?_
  rotate_left 1
  · first | ((intro W _; go_simp) <;> with_reducible rfl) | (intro W hW; have k1 := hW.b18; have k2 := hW.b19; have k3 := hW.b9; have k4 := hW.c0; have k5 := hW.n4; have k6 := hW.n5; have k7 := hW.n6; have k8 := hW.vers.look Tryz.underlying9 HA.out.max Tryz.underlying86 (zeroVers W); have k9 := hW.nums.look Tryz.underlying9 HA.out.max Tryz.underlying87 (zeroInt W); (go_simp <;> with_reducible rfl))
  try simp only [Act.put, List.setIfInBounds_toArray, List.set_cons_zero, List.set_cons_succ]
  refine seqQ_do (o := ⟨_, _, _, _, _, _⟩) (by rw [HO.out]; rfl) (by rfl) (fun K hK => ?_)
  go_wp2_with fail
  have hS : KS A M c s.now n1 len (w2.drew.alloc (.cells #[.int .i64 n1, .string A, .string c.data, .int .i64 c.time, .slice none 0 0, .int .i64 s.now] 49)) := HS0d.out.below (bAlloc (Below.refl _ _) _)
  refine hK.out _ _ (fun _ => hS) ?_
  clear hK K
  try simp only [Act.put, List.setIfInBounds_toArray, List.set_cons_zero, List.set_cons_succ]
  refine seqQ_do (o := ⟨_, _, _, _, _, _⟩) (by rw [HO.out]; rfl) (by rfl) (fun K hK => ?_)
  refine wp_appG (w := w2.drew) HR2d.out Tryz.underlying45 HI.out.1 HI.out.2.1 HI.out.2.2.1 HI.out.2.2.2 rfl (by decide) (by decide) [.int .i64 n1, .string A, .string c.data, .int .i64 c.time, .slice none 0 0, .int .i64 s.now] rfl (ver_one A s.now ⟨n1, c.data, c.time⟩) (by rw [HMs.out]; omega) hB2 (.tmp 25) (.tmp 53) rfl (by show Value.slice _ _ _ = Value.slice _ _ _; rw [HMs.out]) rfl (fun g cap' w3 r1 r2 r3 => ?_)
  replace hS : KS A M c s.now n1 len w3 := HS0d.out.kp r2 HAp.out.1.b.2.2.2.2.2.2.2 HAp.out.1.cb.2.2.2.2.2.2 HAp.out.2.2.2.2.2.2.2.2.2 HAp.out.1.rb.2.2.2.2.2 HAp.out.1.mb HAp.out.1.vb.2
  refine hK.out _ _ (fun _ => hS) ?_
  clear hK K
  try simp only [Act.put, List.setIfInBounds_toArray, List.set_cons_zero, List.set_cons_succ]
  refine seqQ_take (o := ⟨_, _, _, _, _, _⟩) (v := ?_) (by rw [HO.out]; rfl) (by rfl) ?_ ?_
  rotate_left 1
  · first | ((intro W _; go_simp) <;> with_reducible rfl) | (intro W hW; have k1 := hW.b18; have k2 := hW.b19; have k3 := hW.b9; have k4 := hW.c0; have k5 := hW.n4; have k6 := hW.n5; have k7 := hW.n6; have k8 := hW.vers.look Tryz.underlying9 HA.out.max Tryz.underlying86 (zeroVers W); have k9 := hW.nums.look Tryz.underlying9 HA.out.max Tryz.underlying87 (zeroInt W); (go_simp <;> with_reducible rfl))
  try simp only [Act.put, List.setIfInBounds_toArray, List.set_cons_zero, List.set_cons_succ]
  refine seqQ_done ?_
  --ENDR3
  have HS3 := Lib.hid hS
  have HR3 := Lib.hid r1
  have HK3 := Lib.hid (Kp.undrew r2)
  have HG3 := Lib.hid r3
  clear hS r1 r2 r3
  obtain ⟨len1, hlen1⟩ : ∃ len1, len + 1 = len1 := ⟨_, rfl⟩
  have hrow : s.vers.map (verCells A s.now) ++ [verCells A s.now (⟨n1, c.data, c.time⟩ : Ver)] = (s.vers ++ [(⟨n1, c.data, c.time⟩ : Ver)]).map (verCells A s.now) := by simp
  rw [show ([.int .i64 n1, .string A, .string c.data, .int .i64 c.time, .slice none 0 0, .int .i64 s.now] : List Value) = verCells A s.now (⟨n1, c.data, c.time⟩ : Ver) from rfl, hrow] at HR3
  have HLn : Hid ((s.vers ++ [(⟨n1, c.data, c.time⟩ : Ver)]).length = len1) := Lib.hid (by rw [List.length_append, HLen.out, ← hlen1]; rfl)
  simp only [HMs.out, HLen.out, hlen1]
  clear hrow
  have hl1 : len1 ≤ 21 := by omega
  clear hlen1
  have hgg : ∀ i, rb (some ⟨g, 0, none⟩) i → rb M.ra i ∨ w.heap.size ≤ i := by
    rintro i ⟨a, ha, rfl⟩
    injection ha with ha
    subst ha
    rcases HG3.out with h | h
    · exact .inl h
    · have q1 := HB1.out.size
      have q2 := HK2.out.size
      have q3 : w2.drew.heap.size = w2.heap.size := rfl
      exact .inr (by show w.heap.size ≤ g; omega)
  have HGG := Lib.hid hgg
  clear hgg
  by_cases hbig : 20 < len1
  · obtain rfl : len1 = 21 := by omega
    have HHo := Lib.hid (holds_drop1 (HR3.out.holds (by decide)))
    rw [← List.map_drop] at HHo
    have HL20 : Hid (((s.vers ++ [(⟨n1, c.data, c.time⟩ : Ver)]).drop 1).length = 20) := Lib.hid (by rw [List.length_drop, HLn.out])
    have hcap : 21 ≤ cap' := by have := HR3.out.le_cap; rw [List.length_map, HLn.out] at this; exact this
    have hsz : Hid (s.kept c = { s with num := n1, vers := (s.vers ++ [(⟨n1, c.data, c.time⟩ : Ver)]).drop 1 }) := Lib.hid (by
      unfold MSt.kept vcut
      rw [HN1.out, HLn.out, if_pos (by decide)])
    go_upto_region 6 with (go_at_call 38; refine (cloneV_any A s.now _ _ _ 20 w3 HL20.out (by decide) HHo.out (fun h => by cases h)).mono ?_; rintro e w4 ⟨ra5, cap5, rfl, q1, q2⟩)
    have HR5 := Lib.hid q1
    have HB4 := Lib.hid q2
    clear q1 q2
    have b18 := (HS3.out.below HB4.out).b18
    obtain ⟨o3, HO3, _⟩ := HS3.out.vers
    have HO3 := Lib.hid HO3
    have HO4 := Lib.hid (HO3.out.kp (Kp.of (F := fun _ => False) HB4.out) (fun e => e))
    go_wp2_with (at_mapUpdate; refine wpList_mapUpdate_on w4 HO4.out rfl _ _ _ _ rfl Tryz.underlying9 HA.out.max Tryz.underlying86 rfl rfl _ rfl (fun w5 hw5a hw5b => ?_))
    go_end0
    refine keep_end HM1.out hc HB1.out HK2.out HMa.out HK3.out HO3.out HB4.out (HR5.out.lower ?_) (fun i hi => .inr ?_) hw5b hw5a HL20.out hsz.out
    · exact Nat.le_trans hB2 HK3.out.size
    · have q1 := HB1.out.size
      have q2 := HK2.out.size
      have q3 := HK3.out.size
      have q4 := (HR5.out.base i hi).1
      omega
  · have hbig2 : ¬ ((20 : Int) < (len1 : Int)) := by omega
    have b18 := HS3.out.b18
    obtain ⟨o3, HO3, _⟩ := HS3.out.vers
    have HO3 := Lib.hid HO3
    have hsz : Hid (s.kept c = { s with num := n1, vers := s.vers ++ [(⟨n1, c.data, c.time⟩ : Ver)] }) := Lib.hid (by
      unfold MSt.kept vcut
      rw [HN1.out, HLn.out, if_neg hbig])
    go_wp2_with (at_mapUpdate; refine wpList_mapUpdate_on w3 HO3.out rfl _ _ _ _ rfl Tryz.underlying9 HA.out.max Tryz.underlying86 rfl rfl _ rfl (fun w4 hw4a hw4b => ?_))
    go_end0
    exact keep_end HM1.out hc HB1.out HK2.out HMa.out HK3.out HO3.out (Below.refl _ _) HR3.out HGG.out hw4b hw4a HLn.out hsz.out
end Go.Proofs.YtmafnjapailliaaGreatDoor
