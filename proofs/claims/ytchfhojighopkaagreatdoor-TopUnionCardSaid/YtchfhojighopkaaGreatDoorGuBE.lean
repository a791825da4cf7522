/-
  Parts of the proof: Ul3, Ul4, Ul5.
-/
import Derived.Test.YtchfhojighopkaaGreatDoorGuBD
namespace Go.Proofs.YtchfhojighopkaaGreatDoor
open Go.RowKit Go.Shelf Go.Lib Go.Sort

abbrev CInfP := {x : InfS // x.path.size ≤ 1000}
instance : Inhabited CInfP := ⟨⟨InfS.zero, by decide⟩⟩
def encP (x : CInfP) : List Value := x.1.row
theorem holdsK_infP {w : World} {g : Nat} {cur : Array Value} {t : TypeId} {d : Array CInfP} (hg : w.heap[g]? = some (.cells cur t (0, 0))) (hH : HoldsR w (some ⟨g, 0, none⟩) 7 (d.toList.map encP)) : HoldsK encP 7 w g 0 d := by
 intro j hj
 rw [size_flatK] at hj
 have hk : j / 7 < d.size := by omega
 refine ⟨?_, by simp [World.frozen?, hg]⟩
 rw [get_flatK _ _ _ _ hj]
 obtain ⟨b, o, e, _, hc⟩ := hH.at (k := j / 7) (row := encP d[j / 7]) (by simp [hk])
 injection e with e
 injection e with e1 e2
 subst e1 e2
 rw [getElem!_pos d (j / 7) hk]
 have hl : (encP d[j / 7]).length = 7 := rfl
 have := hc (j % 7) ((encP d[j / 7])[j % 7]'(by omega)) (List.getElem?_eq_getElem _)
 rw [show 0 + j / 7 * 7 + j % 7 = 0 + j by omega] at this
 rw [this, getElem!_pos (encP d[j / 7]) (j % 7) (by omega)]
 rfl
theorem of_holdsK_infP {w : World} {g : Nat} {d : Array CInfP} (hg : g < w.heap.size) (hK : HoldsK encP 7 w g 0 d) : HoldsR w (some ⟨g, 0, none⟩) 7 (d.toList.map encP) := by
 refine .inr ⟨g, 0, rfl, hg, fun k row hk j u hu => ?_⟩
 rw [List.getElem?_map] at hk
 have hkl : k < d.size := by
  rcases Nat.lt_or_ge k d.size with h | h
  ·exact h
  ·rw [List.getElem?_eq_none (by simpa using h)] at hk; simp at hk
 have hr : row = encP d[k] := by
  rw [List.getElem?_eq_getElem (by simpa using hkl)] at hk
  simpa using hk.symm
 subst hr
 have hl : (encP d[k]).length = 7 := rfl
 have hj : j < 7 := by have := (List.getElem?_eq_some_iff.1 hu).1; omega
 have := (hK (k * 7 + j) (by rw [size_flatK]; omega)).1
 rw [get_flatK _ _ _ _ (by omega), show (k * 7 + j) / 7 = k by omega, show (k * 7 + j) % 7 = j by omega, getElem!_pos d k hkl, getElem!_pos (encP d[k]) j (by omega)] at this
 rw [show 0 + k * 7 + j = 0 + (k * 7 + j) by omega, this]
 rw [(List.getElem?_eq_some_iff.1 hu).2]
 rfl
/-- What the sort leaves. -/
def SortPPost (w : World) (a : Option Addr) (cf : InfS → InfS → Int) (l : List InfS) (e : Ending) (w' : World) : Prop :=
 e = .returned (.tuple #[]) ∧ ∃ l' : List InfS, l'.Perm l ∧ ((∀ j x y, l[j]? = some x → l[j + 1]? = some y → ¬ cf y x < 0) → l' = l) ∧ HoldsR w' a 7 (l'.map InfS.row) ∧ Kp (rb a) w w'
set_option maxHeartbeats 2000000 in
set_option maxRecDepth 100000 in
theorem sortP_any {w : World} {B cap : Nat} {a : Option Addr} (g0 : Nat) (cb : Array Value) (cf : InfS → InfS → Int) (eg : ∀ args w, (callFunc g0 args).run Tryz.prog w = .ok (.enter g0 args) w) (hcmp : ∀ blk off size w, CmpLays Tryz.prog g0 cb encP 7 (fun x y => cf x.1 y.1) blk off size w) (l : List InfS) (hR : RowG 37 7 w B a cap (l.map InfS.row)) (hz : l = [] → a = none ∧ cap = 0) (hs : ∀ x ∈ l, x.path.size ≤ 1000) (hl : l.length < 20) :
  Calls Tryz.prog 60 #[.slice a l.length cap, .func (.func g0) #[] cb] w (SortPPost w a cf l) := by
 by_cases h0 : l = []
 ·obtain ⟨rfl, rfl⟩ := hz h0
  subst h0
  have HS := Lib.hid (fun W => stableI0_any (.func (.func g0) #[] cb) W)
  rw [List.length_nil]
  clear hR hz hs hl hcmp eg
  go_enter Tryz.func60, Tryz.ntmps60
  go_wp2_with (go_at_call 91; refine (HS.out _).mono ?_; rintro e w2 ⟨rfl, hw⟩; have hw2 := hw.symm; clear hw; subst hw2)
  first | go_end0 | refine bodyPost_ret (results_none rfl _ _ _) rfl ?_
  exact ⟨rfl, [], List.Perm.refl _, fun _ => rfl, .inl rfl, Kp.refl _ _⟩
 ·obtain ⟨g, rfl⟩ := hR.some_of (by rw [List.length_map]; exact List.length_pos_iff.2 h0)
  obtain ⟨d, hd⟩ : ∃ d : Array CInfP, d.toList.map (·.1) = l := ⟨(l.attach.map fun x => ⟨x.1, hs x.1 x.2⟩).toArray, by rw [List.toList_toArray, List.map_map]; exact List.attach_map_subtype_val l⟩
  have hds : d.size = l.length := by rw [← hd]; simp
  have hmap : d.toList.map encP = l.map InfS.row := by rw [← hd, List.map_map]; rfl
  have hh := hR.holds (by decide)
  obtain ⟨cur, hg⟩ : ∃ cur, w.heap[g]? = some (.cells cur 37 (0, 0)) := by
   rcases hR.2.2 with ⟨hv, _⟩ | ⟨g', c, cur, hv, _, hg, _⟩
   ·cases hv
   ·injection hv with e1 e2 e3
    injection e1 with e1
    injection e1 with e1
    subst e1
    exact ⟨cur, hg⟩
  have hgl := (Array.getElem?_eq_some_iff.1 hg).1
  have hK := holdsK_infP hg (d := d) (by rw [hmap]; exact hh)
  have hR2 : RowK encP 7 w g 0 d := ⟨fun _ => rfl, fun x v hv => infS_one x.1 v hv, hK, hgl⟩
  have HS := Lib.hid (stableS_any 7 (fun _ => by kernel_rfl) (fun _ => by kernel_rfl) encP (fun x y => cf x.1 y.1) g0 cb g 0 cap d w eg (hcmp g 0 d.size w) hR2 (by omega))
  rw [← hds]
  obtain ⟨n, hn⟩ : ∃ n, d.size = n := ⟨_, rfl⟩
  have HN := Lib.hid hn
  rw [hn] at HS ⊢
  have HD := Lib.hid (And.intro hd (And.intro hK hgl))
  clear eg hcmp hn hds hd hmap hh hg hK hR2 hR hz hs hl hgl h0
  go_enter Tryz.func60, Tryz.ntmps60
  go_wp2_with (go_at_call 91; refine HS.out.mono ?_; rintro e w2 ⟨rfl, d2, hp2, hs2⟩)
  first | go_end0 | refine bodyPost_ret (results_none rfl _ _ _) rfl ?_
  refine ⟨rfl, d2.toList.map (·.1), by rw [← HD.out.1]; exact hp2.1.2.map _, fun hsrt => ?_, ?_, (kp_swk hs2).mono (fun i e => ⟨_, rfl, e⟩)⟩
  ·rw [hp2.2 (fun j hj => ?_), HD.out.1]
   have e1 : l[j]? = some d[j]!.1 := by rw [← HD.out.1, List.getElem?_map, Array.getElem?_toList, Array.getElem?_eq_getElem (by omega)]; simp [getElem!_pos d j (by omega)]
   have e2 : l[j + 1]? = some d[j + 1]!.1 := by rw [← HD.out.1, List.getElem?_map, Array.getElem?_toList, Array.getElem?_eq_getElem (by omega)]; simp [getElem!_pos d (j + 1) (by omega)]
   exact hsrt j _ _ e1 e2
  have hmap2 : (d2.toList.map (·.1)).map InfS.row = d2.toList.map encP := by rw [List.map_map]; rfl
  rw [hmap2]
  exact of_holdsK_infP (hs2.lt HD.out.2.2) (hs2.holds HD.out.2.2 HD.out.2.1 hp2.1.1)
/-- The last name of a path. -/
def lastOf (p : ByteArray) : ByteArray := p.extract (Lib.lastIndexByte p 47 + 1).toNat p.size
set_option maxHeartbeats 1000000 in
theorem lastNm_any (p : ByteArray) (w : World) (hp : p.size ≤ 1000) :
  Calls Tryz.prog 241 #[.string p] w fun e w' => e = .returned (.string (lastOf p)) ∧ w' = w := by
 have HL := Lib.hid (Tryz.strings_LastIndexByte p 47 (by omega) w)
 have hb : -1 ≤ Lib.lastIndexByte p 47 ∧ Lib.lastIndexByte p 47 < p.size := by
  rcases Lib.lastIdx_spec p 47 p.size with h | ⟨i, h1, h2, _⟩
  ·have : Lib.lastIndexByte p 47 = -1 := h.1
   omega
  ·have : Lib.lastIndexByte p 47 = i := h2
   omega
 unfold lastOf
 obtain ⟨i, hi⟩ : ∃ i, Lib.lastIndexByte p 47 = i := ⟨_, rfl⟩
 rw [hi] at HL hb ⊢
 obtain ⟨k, hk⟩ : ∃ k : Nat, i = (k : Int) - 1 := ⟨(i + 1).toNat, by omega⟩
 subst hk
 clear hi
 have hk1 : (k : Int) - 1 + 1 = (k : Int) := by omega
 have hk2 : (k : Int) ≤ (p.size : Int) := by omega
 have hk3 : k ≤ p.size := by omega
 rw [hk1, Int.toNat_natCast]
 go_enter Tryz.func241, Tryz.ntmps241
 go_upto_region 1 with fail
 go_wp2_with (go_at_call 103; refine HL.out.mono ?_; rintro e w2 ⟨rfl, rfl⟩)
 go_ret
 exact ⟨rfl, rfl⟩
/-- How page orders infos. -/
def cfPage (x y : InfS) : Int := Lib.compareBytes (lastOf x.path).data.toList (lastOf y.path).data.toList
set_option maxHeartbeats 2000000 in
set_option maxRecDepth 100000 in
theorem page1_any (x y : InfS) (hx : x.path.size ≤ 1000) (hy : y.path.size ≤ 1000) (w : World) :
  Calls Tryz.prog 243 #[.agg x.row.toArray, .agg y.row.toArray] w fun e w' => e = .returned (.int .i64 (cfPage x y)) ∧ ∃ q os', w' = grow (w.drewN q) os' := by
 have HL1 := Lib.hid (fun W => lastNm_any x.path W hx)
 have HL2 := Lib.hid (fun W => lastNm_any y.path W hy)
 have HC := Lib.hid (fun W => Tryz.strings_Compare (lastOf x.path) (lastOf y.path) W)
 unfold cfPage
 clear hx hy
 generalize Lib.compareBytes (lastOf x.path).data.toList (lastOf y.path).data.toList = R at *
 generalize lastOf x.path = lx at *
 generalize lastOf y.path = ly at *
 obtain ⟨p, d, z, t, sa, sn, sc, ix⟩ := x
 obtain ⟨p2, d2, z2, t2, sa2, sn2, sc2, ix2⟩ := y
 dsimp only at HL1 HL2
 show Calls Tryz.prog 243 #[.agg #[.string p, .bool d, .int .i64 z, .int .i64 t, .slice sa sn sc, .slice none 0 0, .string ix], .agg #[.string p2, .bool d2, .int .i64 z2, .int .i64 t2, .slice sa2 sn2 sc2, .slice none 0 0, .string ix2]] w _
 go_enter Tryz.func243, Tryz.ntmps243
 go_upto_region 1 with fail
 obtain ⟨h1, h2, hb⟩ := box_two w #[.string p, .bool d, .int .i64 z, .int .i64 t, .slice sa sn sc, .slice none 0 0, .string ix] #[.string p2, .bool d2, .int .i64 z2, .int .i64 t2, .slice sa2 sn2 sc2, .slice none 0 0, .string ix2] 37 37
 have c1 := h1.cell (j := 0) rfl
 have c2 := h2.cell (j := 0) rfl
 clear h1 h2 hb
 go_quiet (first
  | (go_at_call_of 241 (Value.string p); exact Calls.quiet_of_same (HL1.out _))
  | (go_at_call_of 241 (Value.string p2); exact Calls.quiet_of_same (HL2.out _))
  | (go_at_call 169; exact Calls.quiet_of_same (HC.out _)))
 go_wp2_with fail
 go_ret
 refine ⟨rfl, nq, #[.cells #[.string p, .bool d, .int .i64 z, .int .i64 t, .slice sa sn sc, .slice none 0 0, .string ix] 37, .cells #[.string p2, .bool d2, .int .i64 z2, .int .i64 t2, .slice sa2 sn2 sc2, .slice none 0 0, .string ix2] 37], ?_⟩
 rw [alloc_eq_grow, alloc_eq_grow, grow_grow]
 rfl
theorem enters_page1 : ∀ args w, (callFunc 243 args).run Tryz.prog w = .ok (.enter 243 args) w := enters_of Tryz.func243 (by kernel_rfl) rfl
theorem cmpLaysPage (blk off size : Nat) (w : World) : CmpLays Tryz.prog 243 #[] encP 7 (fun x y => cfPage x.1 y.1) blk off size w :=
 fun _ _ _ _ x y => page1_any x.1 y.1 x.2 y.2 _
end Go.Proofs.YtchfhojighopkaaGreatDoor
namespace Go.Proofs.YtchfhojighopkaaGreatDoor
open Go.RowKit

section
variable {w0 w w' : World} {S : Two} {N : Int} {u : UB} {T : Tabs} {p : ByteArray}
def PageP (w : World) (a : Option Addr) (l : List InfS) (e : Ending) (w' : World) : Prop :=
 ∃ (ys : List InfS) (a' : Option Addr) (cap' : Nat), e = .returned (.tuple #[.slice a' ys.length cap', .string ⟨#[]⟩]) ∧ ys.Perm l ∧ RowG 37 7 w' w.heap.size a' cap' (ys.map InfS.row) ∧ (ys = [] → a' = none ∧ cap' = 0) ∧ Kp (rb a) w w'
set_option maxHeartbeats 4000000 in
set_option maxRecDepth 100000 in
theorem page_any {B cap : Nat} {a : Option Addr} (l : List InfS) (hR : RowG 37 7 w B a cap (l.map InfS.row)) (hz : l = [] → a = none ∧ cap = 0) (hs : ∀ x ∈ l, x.path.size ≤ 1000) (hl : l.length ≤ 4) :
  Calls Tryz.prog 231 #[.slice a l.length cap, .string ⟨#[]⟩, .int .i64 4] w (PageP w a l) := by
 have HSo := Lib.hid (sortP_any (w := w) (B := B) (cap := cap) (a := a) 243 #[] cfPage enters_page1 cmpLaysPage l hR hz hs (by omega))
 unfold SortPPost at HSo
 have hnx : (⟨#[]⟩ : ByteArray).toList.isEmpty = true := by rw [Lib.toList_data]; rfl
 obtain ⟨iv, hiv, hz0, hz1, hz2⟩ := info_parts infoInfoS
 have HIv := Lib.hid (And.intro hiv (And.intro hz0 (And.intro hz1 hz2)))
 obtain ⟨n, hn⟩ : ∃ n, l.length = n := ⟨_, rfl⟩
 have HN := Lib.hid hn
 rw [hn] at HSo hl ⊢
 clear hR hz hs hn hiv hz0 hz1 hz2
 go_enter Tryz.func231, Tryz.ntmps231
 go_upto_region 2 with (go_at_call 60; refine HSo.out.mono ?_; rintro e w2 ⟨rfl, l2, hp2, hs2, hh2, hk2⟩)
 have HP2 := Lib.hid hp2
 have HH2 := Lib.hid hh2
 have HK2 := Lib.hid hk2
 have HL2 : Hid (l2.length = n) := Lib.hid (by rw [hp2.length_eq, HN.out])
 have HLt : Hid (∀ ad, a = some ad → l2 ≠ [] → ad.block < w2.heap.size) := Lib.hid (fun ad h hy => by
  rcases hh2 with h1 | ⟨b, off, ha, hb, _⟩
  ·exact absurd (List.map_eq_nil_iff.1 h1) hy
  ·rw [ha] at h
   injection h with h
   rw [← h]; exact hb)
 clear hp2 hs2 hh2 hk2 HSo
 obtain ⟨s2, hs2⟩ : ∃ s2, w2.heap.size = s2 := ⟨_, rfl⟩
 have HS2 := Lib.hid hs2
 clear hs2
 go_upto_region 4 with fail
 go_loopg [8, 15] n (fun gk s8 s15 wx => ∃ (j : Nat) (ya : Option Addr) (yc : Nat), s8 = .slice ya j yc ∧ s15 = .int .i64 j ∧ j + gk = n ∧ Hid (RowG 37 7 wx s2 ya yc ((l2.take j).map InfS.row)) ∧ Hid (j = 0 → ya = none ∧ yc = 0) ∧ Hid (Below s2 w2 wx))
 case atStart => exact ⟨0, none, 0, rfl, rfl, by omega, Lib.hid (by simp only [List.take_zero, List.map_nil]; exact RowG.nil _ _ _ _), Lib.hid (fun _ => ⟨rfl, rfl⟩), Lib.hid (by rw [← HS2.out]; exact Below.refl _ _)⟩
 case round =>
  obtain ⟨j, ya, yc, rfl, rfl, hjg, HY, HYn, HB⟩ := hrel
  by_cases hlt : j < n
  case neg =>
   have hltz : ¬ (j : Int) < (n : Int) := by omega
   go_wp2_with fail
   go_ret2
   have hj : l2.take j = l2 := by rw [show j = l2.length by rw [HL2.out]; omega, List.take_length]
   have hy := HY.out
   rw [hj] at hy
   refine ⟨l2, ya, yc, by rw [show l2.length = j by rw [HL2.out]; omega]; rfl, HP2.out, hy.lower (by rw [← HS2.out]; exact HK2.out.size), fun e => HYn.out (by have := HL2.out; rw [e] at this; simp at this; omega), HK2.out.trans (Kp.of (by rw [HS2.out]; exact HB.out))⟩
  case pos =>
   have hltz : (j : Int) < (n : Int) := by omega
   obtain ⟨g, rfl⟩ : ∃ g, gk = g + 1 := ⟨gk - 1, by omega⟩
   obtain ⟨x, hx⟩ : ∃ x, l2[j]? = some x := ⟨_, List.getElem?_eq_getElem (by rw [HL2.out]; exact hlt)⟩
   have HTk : Hid (l2.take (j + 1) = l2.take j ++ [x]) := Lib.hid (take_snoc hx)
   have HTl : Hid ((l2.take j).length = j) := Lib.hid (by rw [List.length_take]; have := HL2.out; omega)
   obtain ⟨gb, off, hga, hgb, hgc⟩ := (HH2.out.keep HB.out (Nat.le_of_eq HS2.out)).at (k := j) (row := x.row) (by rw [List.getElem?_map, hx]; rfl)
   have c0 : wr.cell? ⟨gb, off + j * 7, none⟩ = some (.string x.path) := hgc 0 _ rfl
   have c1 : wr.cell? ⟨gb, off + j * 7 + 1, none⟩ = some (.bool x.dir) := hgc 1 _ rfl
   have c2 : wr.cell? ⟨gb, off + j * 7 + 2, none⟩ = some (.int .i64 x.size) := hgc 2 _ rfl
   have c3 : wr.cell? ⟨gb, off + j * 7 + 3, none⟩ = some (.int .i64 x.time) := hgc 3 _ rfl
   have c4 : wr.cell? ⟨gb, off + j * 7 + 4, none⟩ = some (.slice x.sa x.sn x.sc) := hgc 4 _ rfl
   have c5 : wr.cell? ⟨gb, off + j * 7 + 5, none⟩ = some (.slice none 0 0) := hgc 5 _ rfl
   have c6 : wr.cell? ⟨gb, off + j * 7 + 6, none⟩ = some (.string x.id) := hgc 6 _ rfl
   clear hx hgb hgc
   have hj4 : ((j : Int) == (4 : Int)) = false := by simp; omega
   obtain ⟨A, dd, z, t, sa, sn, sc, ix⟩ := x
   dsimp only at c0 c1 c2 c3 c4 c6
   subst hga
   go_upto_region 6 with fail
   have hb5 : Below wr.heap.size wr (wr.alloc (.cells #[.string A, .bool dd, .int .i64 z, .int .i64 t, .slice sa sn sc, .slice none 0 0, .string ix] 37)) := bAlloc (Below.refl _ _) _
   have hx5 : BoxIs (wr.alloc (.cells #[.string A, .bool dd, .int .i64 z, .int .i64 t, .slice sa sn sc, .slice none 0 0, .string ix] 37)) wr.heap.size #[.string A, .bool dd, .int .i64 z, .int .i64 t, .slice sa sn sc, .slice none 0 0, .string ix] 37 := heap_alloc_new _ _
   have hsw : s2 ≤ wr.heap.size := by rw [← HS2.out]; exact HB.out.size
   have HY5 := Lib.hid (HY.out.kp (Kp.of (F := fun _ => False) hb5) (fun _ _ e => e))
   have HB5 : Hid (Below s2 w2 _) := Lib.hid (HB.out.trans (Below.mono hb5 hsw))
   have hsz5 := Nat.le_trans hsw hb5.size
   obtain ⟨nx, hnx2⟩ : ∃ nx, wr.heap.size = nx := ⟨_, rfl⟩
   rw [hnx2] at hx5 ⊢
   have d0 := hx5.cell (j := 0) rfl
   have d1 := hx5.cell (j := 1) rfl
   have d2 := hx5.cell (j := 2) rfl
   have d3 := hx5.cell (j := 3) rfl
   have d4 := hx5.cell (j := 4) rfl
   have d5 := hx5.cell (j := 5) rfl
   have d6 := hx5.cell (j := 6) rfl
   clear hb5 hx5 hsw hnx2 c0 c1 c2 c3 c4 c5 c6
   generalize wr.alloc _ = w5 at *
   go_wp2_with (at_builtin; refine wpList_appG (w := w5) HY5.out Tryz.underlying91 HIv.out.1 HIv.out.2.1 HIv.out.2.2.1 HIv.out.2.2.2 rfl (by decide) (by decide) [.string A, .bool dd, .int .i64 z, .int .i64 t, .slice sa sn sc, .slice none 0 0, .string ix] rfl (infS_one ⟨A, dd, z, t, sa, sn, sc, ix⟩) (by rw [List.length_map, HTl.out]; omega) hsz5 rfl (.tmp 40) (.tmp 42) rfl (by show Value.slice _ _ _ = Value.slice _ _ _; rw [List.length_map, HTl.out]) rfl (fun g7 cap7 w7 r1 r2 r3 => ?_); rw [List.length_map, HTl.out]; have HY7 := Lib.hid r1; have HB7 : Hid (Below s2 w2 w7) := Lib.hid (HB5.out.trans (r2.below (fun q hq => (HY5.out.base q hq).1) hsz5)); clear r1 r2 r3)
   go_roundg g
   case measure => omega
   case rel => exact ⟨j + 1, some ⟨g7, 0, none⟩, cap7, by go_num, by go_num, by omega, Lib.hid (by rw [HTk.out, List.map_append]; exact HY7.out), Lib.hid (fun e => absurd e (Nat.succ_ne_zero _)), HB7⟩
theorem UniL.perm {xs ys : List InfS} (h : UniL S xs) (hp : ys.Perm xs) : UniL S ys :=
 ⟨by rw [hp.length_eq]; exact h.1, fun y hy => h.2.1 y (hp.mem_iff.1 hy), fun b k n hn => by
  obtain ⟨y, hy, e⟩ := h.2.2 b k n hn
  exact ⟨y, hp.mem_iff.2 hy, e⟩⟩
def ListU (w0 : World) (S : Two) (N : Int) (u : UB) (w : World) (e : Ending) (w' : World) : Prop :=
 ∃ (xs : List InfS) (a : Option Addr) (cap : Nat), e = .returned (.tuple #[.slice a xs.length cap, .string ⟨#[]⟩, .int .i64 0]) ∧ RowG 37 7 w' w.heap.size a cap (xs.map InfS.row) ∧ (xs = [] → a = none ∧ cap = 0) ∧ UniL S xs ∧ InvU w0 S N u w' ∧ Kp S.foot w w'
set_option maxHeartbeats 4000000 in
set_option maxRecDepth 100000 in
theorem listU_any (hG : Gr w0 T) (h : InvU w0 S N u w) :
  Calls Tryz.prog 218 #[ptr u.b, .string ⟨#[]⟩, .string ⟨#[]⟩] w (ListU w0 S N u w) := by
 have HCk := Lib.hid (check_any ⟨#[]⟩ w (hG.env.below h.bel (Nat.le_refl _)) (by decide))
 rw [show Wh.pathErr (⟨#[]⟩ : ByteArray).data.toList = 0 by decide] at HCk
 have HLi := Lib.hid (fun W (hI : InvU w0 S N u W) => listed_any hG hI)
 unfold ListedU at HLi
 have HPg := Lib.hid (fun W B cap a (l : List InfS) (q1 : RowG 37 7 W B a cap (l.map InfS.row)) q2 q3 q4 => page_any (w := W) (B := B) (cap := cap) (a := a) l q1 q2 q3 q4)
 unfold PageP at HPg
 have HI := Lib.hid h
 clear hG h
 go_enter Tryz.func218, Tryz.ntmps218
 go_upto_region 4 with (go_at_call 15; refine HCk.out.mono ?_; rintro e w1 ⟨rfl, hb1⟩)
 have HI1 := Lib.hid (HI.out.fresh hb1)
 have HL1 := Lib.hid (HLi.out w1 HI1.out)
 have HB1 := Lib.hid hb1
 clear hb1 HLi HCk
 go_upto_region 7 with (go_at_call 230; refine HL1.out.mono ?_; rintro e w2 ⟨ys, a, cap, rfl, hr2, hn2, hu2, hi2, hk2⟩)
 have hpg : w2.cell? ⟨u.b, 6, none⟩ = some (.int .i64 4) := hi2.u.box.cell (j := 6) rfl
 have HP2 := Lib.hid (HPg.out w2 _ cap a ys hr2 hn2 (fun y hy => by have := nm4_size (hu2.2.1 y hy).2.1; omega) hu2.1)
 have H2 := Lib.hid (And.intro hr2 (And.intro hu2 (And.intro hi2 hk2)))
 clear hr2 hn2 hu2 hi2 hk2 HPg HL1
 go_wp2_with (go_at_call 231; refine HP2.out.mono ?_; rintro e w3 ⟨zs, a3, cap3, rfl, hp3, hr3, hn3, hk3⟩)
 go_ret3
 have hba : ∀ j, rb a j → w.heap.size ≤ j := fun j hj => Nat.le_trans HB1.out.size (H2.out.1.base j hj).1
 exact ⟨zs, a3, cap3, rfl, hr3.lower (Nat.le_trans HB1.out.size H2.out.2.2.2.size), hn3, H2.out.2.1.perm hp3, HI.out.over H2.out.2.2.1 hk3 hba, ((Kp.of HB1.out).trans H2.out.2.2.2).extK hk3 (fun j hj => .inr (hba j hj))⟩
def GetU (w0 : World) (S : Two) (N : Int) (u : UB) (p : ByteArray) (w : World) (e : Ending) (w' : World) : Prop :=
 ∃ d, e = .returned (.tuple #[.string d, .int .i64 0]) ∧ (∃ b, RelF (S.s b) p d) ∧ d.size < 65536 ∧ InvU w0 S N u w' ∧ Kp S.foot w w'
set_option maxHeartbeats 8000000 in
set_option maxRecDepth 100000 in
theorem getU_any (hG : Gr w0 T) (h : InvU w0 S N u w) (hp : p ∈ nm4) (hq : ∃ b n, (S.s b).F [p] = some n) :
  Calls Tryz.prog 217 #[ptr u.b, .string p, .int .i64 0, .int .i64 65536] w (GetU w0 S N u p w) := by
 have HFi := Lib.hid (file_any hG h hp)
 unfold FileP at HFi
 have HGe := Lib.hid (fun W (hI : InvU w0 S N u W) b n (hn : (S.s b).F [p] = some n) => getJ_any hG hI b hn)
 have HDa := Lib.hid (fun b n (hn : (S.s b).F [p] = some n) => ((h.j.flat b).file hn).data)
 have hMG := memM_get
 have HI := Lib.hid h
 have HFo := Lib.hid (fun i (hf : S.foot i) => h.lt (.inl (Two.foot_all hf)))
 have HNe : Hid (hasN S p 2 ≠ []) := Lib.hid (by
  obtain ⟨b, n, hn⟩ := hq
  intro e
  have hm : (if b then 1 else 0) ∈ hasN S p 2 := by
   unfold hasN
   rw [List.mem_filter, List.mem_range]
   cases b with
   | false => exact ⟨by decide, by show ((S.s false).F [p]).isSome = true; rw [hn]; rfl⟩
   | true => exact ⟨by decide, by show ((S.s true).F [p]).isSome = true; rw [hn]; rfl⟩
  rw [e] at hm
  exact List.not_mem_nil hm)
 clear hG h hp hq
 go_enter Tryz.func217, Tryz.ntmps217
 go_upto_region 2 with (go_at_call 228; refine HFi.out.mono ?_; rintro e w3 ⟨ns, xs, na, nc, ia, ic, z, rfl, hz3, hs3, hl3, hi3, hk3⟩)
 have hz0 : z = 0 := by
  rcases hz3 with ⟨h1, _⟩ | ⟨_, h1⟩
  ·exact h1
  ·rw [hl3.1] at h1
   exact absurd h1 HNe.out
 subst hz0
 have hb4 : Below w3.heap.size w3 (w3.alloc (.cells #[.slice na ns.length nc, .slice ia xs.length ic] 296)) := bAlloc (Below.refl _ _) _
 have hx4 : BoxIs (w3.alloc (.cells #[.slice na ns.length nc, .slice ia xs.length ic] 296)) w3.heap.size #[.slice na ns.length nc, .slice ia xs.length ic] 296 := heap_alloc_new _ _
 obtain ⟨ob, hob⟩ : ∃ ob, w3.heap.size = ob := ⟨_, rfl⟩
 have HX4 := Lib.hid hx4
 rw [hob] at HX4 ⊢
 have HI4 := Lib.hid (hi3.fresh hb4)
 have HS4 := Lib.hid (hs3.under hb4)
 have HL3 := Lib.hid hl3
 have HK4 : Hid (Kp S.foot w _) := Lib.hid (hk3.trans (Kp.of hb4))
 have hwo : w.heap.size ≤ ob := by rw [← hob]; exact hk3.size
 have HWo := Lib.hid hwo
 have hn0 : ns ≠ [] := by rw [hl3.1]; exact HNe.out
 clear hb4 hx4 hs3 hl3 hi3 hk3 hob hz3 hwo HFi
 generalize w3.alloc _ = w4 at *
 obtain ⟨k, hk⟩ : ∃ k, ns.length = k := ⟨_, rfl⟩
 have hkx : xs.length = k := by rw [← HS4.out.len]; exact hk
 have hk0 : 0 < k := by rw [← hk]; exact List.length_pos_iff.2 hn0
 have hk2 : k ≤ 2 := by rw [← hk, HL3.out.1]; exact hasN_le S p 2
 have HKn := Lib.hid (And.intro hk hkx)
 rw [hk, hkx] at HX4
 obtain ⟨ng, rfl⟩ := HS4.out.rn.some_of (by rw [List.length_map, hk]; exact hk0)
 have HFb : Hid (∀ j, j = ob ∨ rb (some ⟨ng, 0, none⟩) j ∨ rb ia j → ¬ S.foot j) := Lib.hid (fun j hj hf => by
  have h1 := HFo.out j hf
  rcases hj with rfl | hj | hj
  ·have := HWo.out; omega
  ·have := (HS4.out.rn.base j hj).1; omega
  ·have := (HS4.out.rx.base j hj).1; omega)
 have HSk : Hid (∀ W, Kp S.foot w4 W → BoxIs W ob #[.slice (some ⟨ng, 0, none⟩) k nc, .slice ia k ic] 296 ∧ SeenR W w.heap.size ns xs (some ⟨ng, 0, none⟩) nc ia ic) := Lib.hid (fun W hk => ⟨HX4.out.kp hk (HFb.out ob (.inl rfl)), HS4.out.kp hk (fun j hj => HFb.out j (.inr hj))⟩)
 have HBe := Lib.hid (fun W (pol : Int) (hW : Kp S.foot w4 W) => best_any (w := W) (xs := xs) pol (.slice (some ⟨ng, 0, none⟩) k nc) rfl (HSk.out W hW).2.rx (by omega) HL3.out.2)
 rw [hkx] at HBe
 unfold BestP at HBe
 clear hk hkx hn0
 go_upto_region 4 with fail
 obtain ⟨se, hse⟩ : ∃ se, u.se = se := ⟨_, rfl⟩
 have HSe := Lib.hid hse
 clear hse
 have hS : InvU w0 S N u w4.drew ∧ Kp S.foot w4 w4.drew := ⟨HI4.out.fresh ⟨rfl, rfl, rfl, Nat.le_refl _, fun _ _ => rfl⟩, ⟨rfl, rfl, rfl, Nat.le_refl _, fun _ _ _ => rfl⟩⟩
 refine wp_region_seq (fun W => InvU w0 S N u W ∧ Kp S.foot w4 W) [(0, true), (1, true), (2, true), (3, true), (4, true), (5, true), (6, true), (7, true), (8, true), (9, true), (10, true), (11, true), (17, true), (18, true), (19, true), (12, false), (13, true), (14, true), (15, true), (16, true), (20, false), (21, true), (22, true), (23, true), (24, true)] (by as_aux_lemma => kernel_rfl) (by as_aux_lemma => kernel_rfl) (by decide) (by as_aux_lemma => kernel_rfl) hS ?_
 intro OPS HO
 iterate 15
  refine seq_take (o := ⟨_, _, _, _, _, _⟩) (v := ?_) (by rw [HO.out]; rfl) (by rfl) ?_ ?_
  rotate_left 1
  ·first | ((intro W _; go_simp) <;> with_reducible rfl) | (intro W hW; have c9 : W.cell? ⟨u.b, 9, none⟩ = some (.slice (some ⟨u.lg, 0, none⟩) 2 u.lc) := hW.1.u.box.cell (j := 9) rfl; have c12 : W.cell? ⟨u.b, 12, none⟩ = some (.int .i64 u.se) := hW.1.u.box.cell (j := 12) rfl; rw [HSe.out] at c12; have s0 := (HSk.out _ hW.2).1.cell (j := 0) rfl; have s1 := (HSk.out _ hW.2).1.cell (j := 1) rfl; (go_simp <;> with_reducible rfl))
  try simp only [Act.put, List.setIfInBounds_toArray, List.set_cons_zero, List.set_cons_succ]
 refine seq_do (o := ⟨_, _, _, _, _, _⟩) (by rw [HO.out]; rfl) (by rfl) (fun K hK => ?_)
 go_wp2_with (go_at_call 229; refine (HBe.out _ _ hS.2).mono ?_; rintro e w5 ⟨⟨jj, rfl, hj⟩, hb5⟩; replace hS : InvU w0 S N u w5 ∧ Kp S.foot w4 w5 := ⟨hS.1.fresh hb5, hS.2.trans (Kp.of hb5)⟩; clear hb5)
 have hjk : jj < k := by omega
 have hjkz : (jj : Int) < (k : Int) := by omega
 obtain ⟨t, ht⟩ : ∃ t, ns[jj]? = some t := ⟨_, List.getElem?_eq_getElem (by rw [HKn.out.1]; exact hjk)⟩
 obtain ⟨ht2, nd, hnd⟩ := hasN_at (by rw [← HL3.out.1]; exact List.mem_of_getElem? ht : t ∈ hasN S p 2)
 have HNd := Lib.hid (And.intro hnd (HDa.out _ _ hnd))
 have ht2z : (t : Int) < 2 := by omega
 have HT : Hid (∀ W, InvU w0 S N u W ∧ Kp S.foot w4 W → W.cell? ⟨ng, jj, none⟩ = some (.int .i64 t) ∧ W.cell? ⟨u.lg, t, none⟩ = some (memI S (bOf t))) := Lib.hid (fun W hW => by
  have h1 : W.cell? ⟨ng, jj * 1 + 0, none⟩ = some (.int .i64 t) := (HSk.out W hW.2).2.rn.cell_at (by decide) (show (ns.map fun (n : Nat) => [Value.int .i64 n])[jj]? = some [.int .i64 t] by rw [List.getElem?_map, ht]; rfl) (j := 0) rfl
  rw [show jj * 1 + 0 = jj by omega] at h1
  exact ⟨h1, hW.1.u.mem ht2⟩)
 have HGt := Lib.hid (fun W (hI : InvU w0 S N u W) => HGe.out W hI (bOf t) nd hnd)
 unfold memI at HT
 obtain ⟨mb, hmb⟩ : ∃ mb, (S.M (bOf t)).b = mb := ⟨_, rfl⟩
 rw [hmb] at HT HGt
 clear ht hnd hmb hj
 refine hK.out _ _ hS (fun _ => ?_)
 clear hK K
 iterate 2
  try simp only [Act.put, List.setIfInBounds_toArray, List.set_cons_zero, List.set_cons_succ]
  refine seq_take (o := ⟨_, _, _, _, _, _⟩) (v := ?_) (by rw [HO.out]; rfl) (by rfl) ?_ ?_
  rotate_left 1
  ·first | ((intro W _; go_simp) <;> with_reducible rfl) | (intro W hW; have c9 : W.cell? ⟨u.b, 9, none⟩ = some (.slice (some ⟨u.lg, 0, none⟩) 2 u.lc) := hW.1.u.box.cell (j := 9) rfl; have c12 : W.cell? ⟨u.b, 12, none⟩ = some (.int .i64 u.se) := hW.1.u.box.cell (j := 12) rfl; rw [HSe.out] at c12; have s0 := (HSk.out _ hW.2).1.cell (j := 0) rfl; have s1 := (HSk.out _ hW.2).1.cell (j := 1) rfl; (go_simp <;> with_reducible rfl))
  try simp only [Act.put, List.setIfInBounds_toArray, List.set_cons_zero, List.set_cons_succ]
  refine seq_take (o := ⟨_, _, _, _, _, _⟩) (v := ?_) (by rw [HO.out]; rfl) (by rfl) ?_ ?_
  rotate_left 1
  ·(intro W hW; obtain ⟨q0, q1⟩ := HT.out _ hW; have c9 : W.cell? ⟨u.b, 9, none⟩ = some (.slice (some ⟨u.lg, 0, none⟩) 2 u.lc) := hW.1.u.box.cell (j := 9) rfl; have c12 : W.cell? ⟨u.b, 12, none⟩ = some (.int .i64 u.se) := hW.1.u.box.cell (j := 12) rfl; rw [HSe.out] at c12; have s0 := (HSk.out _ hW.2).1.cell (j := 0) rfl; have s1 := (HSk.out _ hW.2).1.cell (j := 1) rfl; (go_simp <;> with_reducible rfl))
 try simp only [Act.put, List.setIfInBounds_toArray, List.set_cons_zero, List.set_cons_succ]
 refine seq_do (o := ⟨_, _, _, _, _, _⟩) (by rw [HO.out]; rfl) (by rfl) (fun K hK => ?_)
 go_wp2_with (go_at_call 160; refine (HGt.out _ hS.1).mono ?_; rintro e w6 ⟨rfl, hi6, hk6⟩; replace hS : InvU w0 S N u w6 ∧ Kp S.foot w4 w6 := ⟨hi6, hS.2.trans hk6⟩; clear hi6 hk6)
 refine hK.out _ _ hS (fun _ => ?_)
 clear hK K
 iterate 4
  try simp only [Act.put, List.setIfInBounds_toArray, List.set_cons_zero, List.set_cons_succ]
  refine seq_take (o := ⟨_, _, _, _, _, _⟩) (v := ?_) (by rw [HO.out]; rfl) (by rfl) ?_ ?_
  rotate_left 1
  ·first | ((intro W _; go_simp) <;> with_reducible rfl) | (intro W hW; have c9 : W.cell? ⟨u.b, 9, none⟩ = some (.slice (some ⟨u.lg, 0, none⟩) 2 u.lc) := hW.1.u.box.cell (j := 9) rfl; have c12 : W.cell? ⟨u.b, 12, none⟩ = some (.int .i64 u.se) := hW.1.u.box.cell (j := 12) rfl; rw [HSe.out] at c12; have s0 := (HSk.out _ hW.2).1.cell (j := 0) rfl; have s1 := (HSk.out _ hW.2).1.cell (j := 1) rfl; (go_simp <;> with_reducible rfl))
 try simp only [Act.put, List.setIfInBounds_toArray, List.set_cons_zero, List.set_cons_succ]
 refine seq_done ?_
 go_wp2_with fail
 go_ret2
 exact ⟨nd.data, rfl, ⟨bOf t, nd, HNd.out.1, rfl⟩, by have := HNd.out.2; omega, hS.1, HK4.out.trans hS.2⟩
/-- What holds while a call asks the union. -/
def InvUL (w0 : World) (S : Two) (N : Int) (u : UB) (L : Nat) (W : World) : Prop := InvU w0 S N u W ∧ L ≤ W.heap.size
theorem uniM_list (w : World) (n : Nat) (v : Value) (hn : 0 < n) : (method n 85 v "List").run Tryz.prog w = .ok (218, v) w := by
 obtain ⟨i, hi, hm⟩ := Option.map_eq_some_iff.1 (show (Tryz.prog.info? 85).map (fun i => (i.methods.find? (·.name == "List")).map (fun m => (m.path.toList, m.func))) = some (some ([], some (218, true))) by kernel_rfl)
 exact method_ptr hi hm Tryz.underlying85 hn v
theorem uniM_get (w : World) (n : Nat) (v : Value) (hn : 0 < n) : (method n 85 v "Get").run Tryz.prog w = .ok (217, v) w := by
 obtain ⟨i, hi, hm⟩ := Option.map_eq_some_iff.1 (show (Tryz.prog.info? 85).map (fun i => (i.methods.find? (·.name == "Get")).map (fun m => (m.path.toList, m.func))) = some (some ([], some (217, true))) by kernel_rfl)
 exact method_ptr hi hm Tryz.underlying85 hn v
end
end Go.Proofs.YtchfhojighopkaaGreatDoor
namespace Go.Proofs.YtchfhojighopkaaGreatDoor
open Go.RowKit

section
variable {w0 w w' : World} {S : Two} {N : Int} {u : UB} {T : Tabs}
theorem uniA_get (w : World) (n : Nat) (v : Value) (hn : 0 < n) : (nilAhead n 85 v "Get").run Tryz.prog w = .ok (some false) w := by
 obtain ⟨i, hi, hm⟩ := Option.map_eq_some_iff.1 (show (Tryz.prog.info? 85).map (fun i => (i.methods.find? (·.name == "Get")).map (fun m => (m.path.toList, m.func))) = some (some ([], some (217, true))) by kernel_rfl)
 obtain ⟨k, rfl⟩ : ∃ k, n = k + 1 := ⟨n - 1, by omega⟩
 cases h : i.methods.find? (·.name == "Get") with
 | none => rw [h] at hm; cases hm
 | some m =>
  rw [h] at hm
  simp only [Option.map_some, Option.some.injEq, Prod.mk.injEq] at hm
  unfold nilAhead
  simp [typeInfo, hi, h, followBlind, hm.1, hm.2]
set_option maxRecDepth 100000 in
theorem uniStV (hG : Gr w0 T) (hw : InvU w0 S N u w) :
  StV w.heap.size (InvUL w0 S N u w.heap.size) S.foot 85 (ptr u.b) 218 217 (ptr u.b) (UniL S) (fun q d => ∃ b, RelF (S.s b) q d) where
 keep := fun W W' h hk => ⟨hw.over h.1 hk (fun i hi => hi), Nat.le_trans h.2 hk.size⟩
 low := fun W h => h.2
 gl := fun i hi => hw.lt (.inl (Two.foot_all hi))
 ml := fun W n hn => uniM_list W n _ hn
 mg := fun W n hn => uniM_get W n _ hn
 mna := fun W n hn => uniA_get W n _ hn
 el := enters_of Tryz.func218 (by kernel_rfl) rfl
 eg := enters_of Tryz.func217 (by kernel_rfl) rfl
 list := fun W h => by
  refine (listU_any hG h.1).mono ?_
  rintro e w' ⟨xs, a, cap, h1, h2, h3, h4, h5, h6⟩
  exact ⟨xs, a, cap, h1, h2, h3, h4, ⟨h5, Nat.le_trans h.2 h6.size⟩, h6⟩
 get := fun W q xs h hP hq => by
  obtain ⟨x, hx, rfl⟩ := hq
  obtain ⟨_, hn, hf⟩ := hP.2.1 x hx
  refine (getU_any hG h.1 hn hf).mono ?_
  rintro e w' ⟨d, h1, h2, h3, h4, h5⟩
  exact ⟨d, h1, h2, h3, ⟨h4, Nat.le_trans h.2 h5.size⟩, h5⟩
 flat := fun xs hP => ⟨by have := hP.1; omega, fun x hx => ⟨(hP.2.1 x hx).1, by have := nm4_size (hP.2.1 x hx).2.1; omega⟩⟩
/-- contents of the union. -/
def ContU (w0 : World) (S : Two) (N : Int) (u : UB) (w : World) (e : Ending) (w' : World) : Prop :=
 ∃ (ps : List (ByteArray × ByteArray)) (a : Option Addr) (cap : Nat), e = .returned (.tuple #[.slice a ps.length cap, .bool true]) ∧ (∀ q ∈ ps, ∃ b, RelF (S.s b) q.1 q.2) ∧ (∀ b k n, (S.s b).F [k] = some n → ∃ q ∈ ps, q.1 = k) ∧ ps.length ≤ 4 ∧ RowG 53 2 w' w.heap.size a cap (ps.map pairRow) ∧ (ps = [] → a = none ∧ cap = 0) ∧ InvU w0 S N u w' ∧ Kp S.foot w w'
theorem contU_any (hG : Gr w0 T) (hw : InvU w0 S N u w) :
  Calls Tryz.prog 9 #[.iface 85 (ptr u.b)] w (ContU w0 S N u w) := by
 refine (contV_any (uniStV hG hw) w ⟨hw, Nat.le_refl _⟩).mono ?_
 rintro e w' ⟨xs, ys, ps, a, cap, rfl, h1, h2, _, h4, h5, h6, h7, h8, h9⟩
 have hy := h1.perm h2
 have hlen : ps.length = ys.length := by simpa using congrArg List.length h4
 refine ⟨ps, a, cap, rfl, h5, fun b k n hn => ?_, by have := hy.1; omega, h6, h7, h8.1, h9⟩
 obtain ⟨y, hy1, hy2⟩ := hy.2.2 b k n hn
 have hm : k ∈ ps.map (fun q => q.1) := by rw [h4]; exact List.mem_map.2 ⟨y, hy1, hy2⟩
 obtain ⟨q, hq1, hq2⟩ := List.mem_map.1 hm
 exact ⟨q, hq1, hq2⟩
end
end Go.Proofs.YtchfhojighopkaaGreatDoor
