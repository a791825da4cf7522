/-
  Parts of the proof: Ua1, Un7, Ua2.
-/
import Derived.Test.YtchfhojighopkaaGreatDoorGuAX
namespace Go.Proofs.YtchfhojighopkaaGreatDoor
open Go.RowKit Go.Shelf Go.Lib Go.Sort

/-- What a store tells of a file: any sums, no metas. -/
structure InfS where
 path : ByteArray
 dir : Bool
 size : Int
 time : Int
 sa : Option Addr
 sn : Nat
 sc : Nat
 id : ByteArray
abbrev InfS.arr (x : InfS) : Array Value := infoArr x.path x.dir x.size x.time (.slice x.sa x.sn x.sc) x.id
abbrev InfS.row (x : InfS) : List Value := [.string x.path, .bool x.dir, .int .i64 x.size, .int .i64 x.time, .slice x.sa x.sn x.sc, .slice none 0 0, .string x.id]
def InfS.zero : InfS := ⟨⟨#[]⟩, false, 0, 0, none, 0, 0, ⟨#[]⟩⟩
theorem infS_one (x : InfS) : ∀ u ∈ x.row, u.oneCell' = true := by
 intro u hu
 simp [InfS.row] at hu
 rcases hu with rfl | rfl | rfl | rfl | rfl | rfl | rfl <;> rfl
abbrev CInfS := {x : InfS // x.path.size ≤ 9223372036854775807}
instance : Inhabited CInfS := ⟨⟨InfS.zero, by decide⟩⟩
def encS (x : CInfS) : List Value := x.1.row
/-- How All orders infos. -/
def cfAll (x y : InfS) : Int := Wh.cmpL x.path.data.toList y.path.data.toList
set_option maxHeartbeats 2000000 in
theorem all2_any (x y : InfS) (hx : x.path.size ≤ 9223372036854775807) (hy : y.path.size ≤ 9223372036854775807) (w : World) :
  Calls Tryz.prog 61 #[.agg x.row.toArray, .agg y.row.toArray] w fun e w' => e = .returned (.int .i64 (Wh.cmpL x.path.data.toList y.path.data.toList)) ∧ ∃ q os', w' = grow (w.drewN q) os' := by
 have HC : Hid (∀ W, Calls Tryz.prog 62 #[.string x.path, .string y.path] W fun e w' => e = .returned (.int .i64 (Wh.cmpL x.path.data.toList y.path.data.toList)) ∧ ∃ n, w' = W.drewN n) := Lib.hid (fun W => compare_drew x.path y.path W hx hy)
 clear hx hy
 generalize Wh.cmpL x.path.data.toList y.path.data.toList = R at *
 obtain ⟨p, d, z, t, sa, sn, sc, ix⟩ := x
 obtain ⟨p2, d2, z2, t2, sa2, sn2, sc2, ix2⟩ := y
 dsimp only at HC
 show Calls Tryz.prog 61 #[.agg #[.string p, .bool d, .int .i64 z, .int .i64 t, .slice sa sn sc, .slice none 0 0, .string ix], .agg #[.string p2, .bool d2, .int .i64 z2, .int .i64 t2, .slice sa2 sn2 sc2, .slice none 0 0, .string ix2]] w _
 go_enter Tryz.func61, Tryz.ntmps61
 go_wp2_with (go_at_call 62; refine (HC.out _).mono ?_; rintro e w' ⟨rfl, n, rfl⟩)
 go_ret
 refine ⟨rfl, n, #[.cells #[.string p, .bool d, .int .i64 z, .int .i64 t, .slice sa sn sc, .slice none 0 0, .string ix] 37, .cells #[.string p2, .bool d2, .int .i64 z2, .int .i64 t2, .slice sa2 sn2 sc2, .slice none 0 0, .string ix2] 37], ?_⟩
 rw [alloc_eq_grow, alloc_eq_grow, grow_grow]
 rfl
theorem cmpLaysAll (blk off size : Nat) (w : World) : CmpLays Tryz.prog 61 #[] encS 7 (fun x y => cfAll x.1 y.1) blk off size w :=
 fun _ _ _ _ x y => all2_any x.1 y.1 x.2 y.2 _
theorem holdsK_infS {w : World} {g : Nat} {cur : Array Value} {t : TypeId} {d : Array CInfS} (hg : w.heap[g]? = some (.cells cur t (0, 0))) (hH : HoldsR w (some ⟨g, 0, none⟩) 7 (d.toList.map encS)) : HoldsK encS 7 w g 0 d := by
 intro j hj
 rw [size_flatK] at hj
 have hk : j / 7 < d.size := by omega
 refine ⟨?_, by simp [World.frozen?, hg]⟩
 rw [get_flatK _ _ _ _ hj]
 obtain ⟨b, o, e, _, hc⟩ := hH.at (k := j / 7) (row := encS d[j / 7]) (by simp [hk])
 injection e with e
 injection e with e1 e2
 subst e1 e2
 rw [getElem!_pos d (j / 7) hk]
 have hl : (encS d[j / 7]).length = 7 := rfl
 have := hc (j % 7) ((encS d[j / 7])[j % 7]'(by omega)) (List.getElem?_eq_getElem _)
 rw [show 0 + j / 7 * 7 + j % 7 = 0 + j by omega] at this
 rw [this, getElem!_pos (encS d[j / 7]) (j % 7) (by omega)]
 rfl
theorem of_holdsK_infS {w : World} {g : Nat} {d : Array CInfS} (hg : g < w.heap.size) (hK : HoldsK encS 7 w g 0 d) : HoldsR w (some ⟨g, 0, none⟩) 7 (d.toList.map encS) := by
 refine .inr ⟨g, 0, rfl, hg, fun k row hk j u hu => ?_⟩
 rw [List.getElem?_map] at hk
 have hkl : k < d.size := by
  rcases Nat.lt_or_ge k d.size with h | h
  ·exact h
  ·rw [List.getElem?_eq_none (by simpa using h)] at hk; simp at hk
 have hr : row = encS d[k] := by
  rw [List.getElem?_eq_getElem (by simpa using hkl)] at hk
  simpa using hk.symm
 subst hr
 have hl : (encS d[k]).length = 7 := rfl
 have hj : j < 7 := by have := (List.getElem?_eq_some_iff.1 hu).1; omega
 have := (hK (k * 7 + j) (by rw [size_flatK]; omega)).1
 rw [get_flatK _ _ _ _ (by omega), show (k * 7 + j) / 7 = k by omega, show (k * 7 + j) % 7 = j by omega, getElem!_pos d k hkl, getElem!_pos (encS d[k]) j (by omega)] at this
 rw [show 0 + k * 7 + j = 0 + (k * 7 + j) by omega, this]
 rw [(List.getElem?_eq_some_iff.1 hu).2]
 rfl
/-- What the sort leaves. -/
def SortSPost (w : World) (a : Option Addr) (cf : InfS → InfS → Int) (l : List InfS) (e : Ending) (w' : World) : Prop :=
 e = .returned (.tuple #[]) ∧ ∃ l' : List InfS, l'.Perm l ∧ ((∀ j x y, l[j]? = some x → l[j + 1]? = some y → ¬ cf y x < 0) → l' = l) ∧ HoldsR w' a 7 (l'.map InfS.row) ∧ Kp (rb a) w w'
set_option maxHeartbeats 2000000 in
set_option maxRecDepth 100000 in
theorem sortS_any {w : World} {B cap : Nat} {a : Option Addr} (g0 : Nat) (cb : Array Value) (cf : InfS → InfS → Int) (eg : ∀ args w, (callFunc g0 args).run Tryz.prog w = .ok (.enter g0 args) w) (hcmp : ∀ blk off size w, CmpLays Tryz.prog g0 cb encS 7 (fun x y => cf x.1 y.1) blk off size w) (l : List InfS) (hR : RowG 37 7 w B a cap (l.map InfS.row)) (hz : l = [] → a = none ∧ cap = 0) (hs : ∀ x ∈ l, x.path.size ≤ 9223372036854775807) (hl : l.length < 20) :
  Calls Tryz.prog 60 #[.slice a l.length cap, .func (.func g0) #[] cb] w (SortSPost w a cf l) := by
 by_cases h0 : l = []
 ·obtain ⟨rfl, rfl⟩ := hz h0
  subst h0
  have HS := Lib.hid (fun W => stableI0_any (.func (.func g0) #[] cb) W)
  rw [List.length_nil]
  clear hR hz hs hl hcmp eg
  go_enter Tryz.func60, Tryz.ntmps60
  go_wp2_with (go_at_call 91; refine (HS.out _).mono ?_; rintro e w2 ⟨rfl, hw⟩; have hw2 := hw.symm; clear hw; subst hw2)
  first | go_end0 | refine bodyPost_ret (results_none rfl _ _ _) rfl ?_
  exact ⟨rfl, [], List.Perm.refl _, fun _ => rfl, .inl rfl, Kp.refl _ _⟩
 ·obtain ⟨g, rfl⟩ := hR.some_of (by rw [List.length_map]; exact List.length_pos_iff.2 h0)
  obtain ⟨d, hd⟩ : ∃ d : Array CInfS, d.toList.map (·.1) = l := ⟨(l.attach.map fun x => ⟨x.1, hs x.1 x.2⟩).toArray, by rw [List.toList_toArray, List.map_map]; exact List.attach_map_subtype_val l⟩
  have hds : d.size = l.length := by rw [← hd]; simp
  have hmap : d.toList.map encS = l.map InfS.row := by rw [← hd, List.map_map]; rfl
  have hh := hR.holds (by decide)
  obtain ⟨cur, hg⟩ : ∃ cur, w.heap[g]? = some (.cells cur 37 (0, 0)) := by
   rcases hR.2.2 with ⟨hv, _⟩ | ⟨g', c, cur, hv, _, hg, _⟩
   ·cases hv
   ·injection hv with e1 e2 e3
    injection e1 with e1
    injection e1 with e1
    subst e1
    exact ⟨cur, hg⟩
  have hgl := (Array.getElem?_eq_some_iff.1 hg).1
  have hK := holdsK_infS hg (d := d) (by rw [hmap]; exact hh)
  have hR2 : RowK encS 7 w g 0 d := ⟨fun _ => rfl, fun x v hv => infS_one x.1 v hv, hK, hgl⟩
  have HS := Lib.hid (stableS_any 7 (fun _ => by kernel_rfl) (fun _ => by kernel_rfl) encS (fun x y => cf x.1 y.1) g0 cb g 0 cap d w eg (hcmp g 0 d.size w) hR2 (by omega))
  rw [← hds]
  obtain ⟨n, hn⟩ : ∃ n, d.size = n := ⟨_, rfl⟩
  have HN := Lib.hid hn
  rw [hn] at HS ⊢
  have HD := Lib.hid (And.intro hd (And.intro hK hgl))
  clear eg hcmp hn hds hd hmap hh hg hK hR2 hR hz hs hl hgl h0
  go_enter Tryz.func60, Tryz.ntmps60
  go_wp2_with (go_at_call 91; refine HS.out.mono ?_; rintro e w2 ⟨rfl, d2, hp2, hs2⟩)
  first | go_end0 | refine bodyPost_ret (results_none rfl _ _ _) rfl ?_
  refine ⟨rfl, d2.toList.map (·.1), by rw [← HD.out.1]; exact hp2.1.2.map _, fun hsrt => ?_, ?_, (kp_swk hs2).mono (fun i e => ⟨_, rfl, e⟩)⟩
  ·rw [hp2.2 (fun j hj => ?_), HD.out.1]
   have e1 : l[j]? = some d[j]!.1 := by rw [← HD.out.1, List.getElem?_map, Array.getElem?_toList, Array.getElem?_eq_getElem (by omega)]; simp [getElem!_pos d j (by omega)]
   have e2 : l[j + 1]? = some d[j + 1]!.1 := by rw [← HD.out.1, List.getElem?_map, Array.getElem?_toList, Array.getElem?_eq_getElem (by omega)]; simp [getElem!_pos d (j + 1) (by omega)]
   exact hsrt j _ _ e1 e2
  have hmap2 : (d2.toList.map (·.1)).map InfS.row = d2.toList.map encS := by rw [List.map_map]; rfl
  rw [hmap2]
  exact of_holdsK_infS (hs2.lt HD.out.2.2) (hs2.holds HD.out.2.2 HD.out.2.1 hp2.1.1)
end Go.Proofs.YtchfhojighopkaaGreatDoor
namespace Go.Proofs.YtchfhojighopkaaGreatDoor
open Go.RowKit Wh.Sha

theorem nodup_le {α : Type} [DecidableEq α] : ∀ (l m : List α), l.Nodup → (∀ a ∈ l, a ∈ m) → l.length ≤ m.length
 | [], _, _, _ => Nat.zero_le _
 | a :: l, m, hn, h => by
  have ha := h a (by simp)
  rw [List.nodup_cons] at hn
  have := nodup_le l (m.erase a) hn.2 (fun b hb => by
   have hne : b ≠ a := fun e => hn.1 (e ▸ hb)
   exact (List.mem_erase_of_ne hne).2 (h b (by simp [hb])))
  have h2 := List.length_erase_of_mem ha
  have h3 : 0 < m.length := List.length_pos_of_mem ha
  simp only [List.length_cons]
  omega
theorem FlatS.most {N : Int} {s : TSt} (h : FlatS N s) : AtMost s.F 4 := by
 intro l hl hm
 have e : (nm4.map (fun k => [k])).length = 4 := rfl
 rw [← e]
 refine nodup_le l _ hl (fun ks hk => ?_)
 obtain ⟨h0, n, hn⟩ := hm ks hk
 rcases h.only ks n hn with h1 | ⟨k, rfl, hf⟩
 ·exact absurd h1 h0
 ·exact List.mem_map.2 ⟨k, hf.mem, rfl⟩
theorem AtMost.mono {F : Tr} {N M : Nat} (h : AtMost F N) (hN : N ≤ M) : AtMost F M := fun l h1 h2 => Nat.le_trans (h l h1 h2) hN
/-- What List tells of a store: its files in the order of their names. -/
def FlatL (s : TSt) (xs : List InfS) : Prop := ∃ l : List Nd, Kids s.F [] l ∧ xs.map (fun x => (x.path, x.dir, x.time)) = l.map (fun m => (m.name, false, m.time))
theorem infoF_any (w0 w : World) (T : Tabs) (M : MB) (s : TSt) (N : Int) (k : ByteArray) (n : Nd) (hG : Gr w0 T) (hb0 : Below w0.heap.size w0 w) (hM : MemT w w0.heap.size M s) (hS : FlatS N s) (hn : s.F [k] = some n) :
  Calls Tryz.prog 42 #[ptr M.b, ptr n.b] w fun e w' => (∃ sa sn sc, e = .returned (.agg (InfS.arr ⟨n.name, false, n.data.size, n.time, sa, sn, sc, n.id⟩))) ∧ Below w.heap.size w w' := by
 have hf := hS.file hn
 have hsz := nm4_size hf.mem
 refine (infoS_file w0 w T w0.heap.size M s [k] n hG hb0 hM hn (by simp [klen]; omega) hf.dir hf.mt (Nat.le_trans hf.data (by decide))).mono ?_
 rintro e w' ⟨sa, sn, sc, rfl, hb⟩
 refine ⟨⟨sa, sn, sc, ?_⟩, hb⟩
 have e1 : pathR s.F [k] = n.name := by
  show nmAt s.F [k].reverse = n.name
  unfold nmAt
  rw [show [k].reverse = [k] from rfl, hn]
  rfl
 have e2 : hasB s.f 512 = true := by rw [hS.feat]; decide
 rw [e1, e2]
 rfl
def ListF (w : World) (B : Nat) (M : MB) (s : TSt) (e : Ending) (w' : World) : Prop :=
 ∃ (xs : List InfS) (a : Option Addr) (cap : Nat), e = .returned (.tuple #[.slice a xs.length cap, .string ⟨#[]⟩, .int .i64 0]) ∧ RowG 37 7 w' w.heap.size a cap (xs.map InfS.row) ∧ (xs = [] → a = none ∧ cap = 0) ∧ FlatL s xs ∧ MemT w' B M s ∧ Kp (MTf M s.F) w w'
set_option maxHeartbeats 8000000 in
set_option maxRecDepth 100000 in
theorem listF_any (w0 w : World) (T : Tabs) (M : MB) (s : TSt) (N : Int) (hG : Gr w0 T) (hb0 : Below w0.heap.size w0 w) (hM : MemT w w0.heap.size M s) (hS : FlatS N s) :
  Calls Tryz.prog 161 #[ptr M.b, .string ⟨#[]⟩, .string ⟨#[]⟩] w (ListF w w0.heap.size M s) := by
 obtain ⟨n, hn, hnb, hd⟩ := hM.tree.root
 clear hnb
 obtain ⟨l, hl⟩ := kids_exist hM.tree hn hd
 have hll := hl.le hM.tree hS.most
 have hE := hG.env
 have hk : kysOf s.f ⟨#[]⟩ = [] := by
  unfold kysOf
  rw [Wh.namesOf_none (by decide)]
  rfl
 have HBe := Lib.hid (beginT_any 1 (by decide) w w0.heap.size M s hM)
 have HCk : Hid (∀ W, Below w0.heap.size w0 W → Calls Tryz.prog 15 #[.string ⟨#[]⟩] W fun e w' => e = .returned (.int .i64 0) ∧ Below W.heap.size W w') := Lib.hid (fun W hb => by
  have := check_any ⟨#[]⟩ W (hE.below hb (Nat.le_refl _)) (by decide)
  rw [show Wh.pathErr (⟨#[]⟩ : ByteArray).data.toList = 0 by decide] at this
  exact this)
 have HFi : Hid (∀ W, Below w0.heap.size w0 W → MemT W w0.heap.size M s → Calls Tryz.prog 76 #[ptr M.b, .string ⟨#[]⟩] W fun e w' => e = .returned (ptr n.b) ∧ Below W.heap.size W w') := Lib.hid (fun W hb h => by
  have := findT_any W w0.heap.size M s ⟨#[]⟩ h (hE.below hb (Nat.le_refl _)) (by decide)
  rw [hk, hn] at this
  exact this)
 have HOr : Hid (∀ W, MemT W w0.heap.size M s → Calls Tryz.prog 165 #[ptr n.b] W fun e w' => ∃ (a : Option Addr) (cap : Nat), e = .returned (.slice a l.length cap) ∧ Holds w' a (l.map fun n => ptr n.b) ∧ Below W.heap.size W w') := Lib.hid (fun W h => by
  refine (orderedT_any W w0.heap.size M.rb (kyOf s.f) s.F [] n h.tree hn hd (hS.most.mono (by decide))).mono ?_
  rintro e w' ⟨l', a, cap, h1, h2, h3, h4, h5⟩
  obtain rfl := h5.unique hl
  exact ⟨a, cap, h1, h3, h4⟩)
 have HIn : Hid (∀ W m, Below w0.heap.size w0 W → MemT W w0.heap.size M s → m ∈ l → Calls Tryz.prog 42 #[ptr M.b, ptr m.b] W fun e w' => (∃ sa sn sc, e = .returned (.agg #[.string m.name, .bool false, .int .i64 m.data.size, .int .i64 m.time, .slice sa sn sc, .slice none 0 0, .string m.id])) ∧ Below W.heap.size W w') := Lib.hid (fun W m hb h hm => infoF_any w0 W T M s N (kyOf s.f m.name) m hG hb h hS (h.tree.kid_at hl hm))
 have HNm : Hid (∀ W m, MemT W w0.heap.size M s → m ∈ l → W.cell? ⟨m.b, 0, none⟩ = some (.string m.name)) := Lib.hid (fun W m h hm => (nd_cells (h.tree.box _ _ (h.tree.kid_at hl hm)).1).1)
 have HDn : Hid (∀ W, MemT W w0.heap.size M s → W.cell? ⟨n.b, 1, none⟩ = some (.bool true)) := Lib.hid (fun W h => by have := (nd_cells (h.tree.box _ _ hn).1).2.1; rw [hd] at this; exact this)
 have HPg : Hid (∀ W, MemT W w0.heap.size M s → W.cell? ⟨M.b, 6, none⟩ = some (.int .i64 4)) := Lib.hid (fun W h => by have h6 : W.cell? ⟨M.b, 6, none⟩ = some (.int .i64 s.f.page) := h.box.cell (j := 6) rfl; rw [hS.feat] at h6; exact h6)
 have HKl := Lib.hid hl
 have HB0 := Lib.hid hb0
 have HM := Lib.hid hM
 obtain ⟨iv, hiv, hz0, hz1, hz2⟩ := info_parts infoInfoT
 have HI := Lib.hid (And.intro hiv (And.intro hz0 (And.intro hz1 hz2)))
 clear hb0 hE hG hM hS hk hn hd hl hiv hz0 hz1 hz2
 go_enter Tryz.func161, Tryz.ntmps161
 go_upto_region 4 with (go_at_call 163; refine HBe.out.mono ?_; rintro e w1 ⟨rfl, hm1, hk1, hz1⟩)
 have HM1 := Lib.hid hm1
 have HK1 : Hid (Kp (MTf M s.F) w w1) := Lib.hid (hk1.mono (fun i e => e.elim (fun e => .inr (.inl e)) (fun e => .inr (.inr (.inl e)))))
 have HB1 : Hid (Below w0.heap.size w0 w1) := Lib.hid (HB0.out.trans (HK1.out.below (fun i h => HM.out.mf h) HB0.out.size))
 clear hm1 hk1 hz1 HBe
 go_upto_region 7 with (go_at_call 15; refine (HCk.out _ HB1.out).mono ?_; rintro e w2 ⟨rfl, hb2⟩)
 have HBl2 := Lib.hid hb2
 have HM2 := Lib.hid (HM1.out.below hb2)
 have HB2 : Hid (Below w0.heap.size w0 w2) := Lib.hid (HB1.out.trans (Below.mono hb2 HB1.out.size))
 clear hb2 HCk
 go_upto_region 8 with (go_at_call 76; refine (HFi.out _ HB2.out HM2.out).mono ?_; rintro e w3 ⟨rfl, hb3⟩)
 have HM3 := Lib.hid (HM2.out.below hb3)
 have HBl3 := Lib.hid (bTrans HBl2.out hb3)
 have hdn := HDn.out _ HM3.out
 clear hb3 HFi
 go_upto_region 13 with (go_at_call 165; refine (HOr.out _ HM3.out).mono ?_; rintro e w4 ⟨na, nc, rfl, hh4, hb4⟩)
 have HM4 := Lib.hid (HM3.out.below hb4)
 have HBl4 := Lib.hid (bTrans HBl3.out hb4)
 have HH4 := Lib.hid hh4
 have HW0 : Hid (Below w0.heap.size w0 w4) := Lib.hid (HB1.out.trans (Below.mono HBl4.out HB1.out.size))
 clear hb4 HOr hh4 hdn
 obtain ⟨r, hr⟩ : ∃ r, w4.heap.size = r := ⟨_, rfl⟩
 have HRz := Lib.hid hr
 clear hr
 have HWr : Hid (w.heap.size ≤ r) := Lib.hid (by rw [← HRz.out]; exact Nat.le_trans HK1.out.size HBl4.out.size)
 go_loopg [6, 39] l.length (fun gk s6 s39 wx => ∃ (i : Nat) (a : Option Addr) (cap : Nat) (xs : List InfS), s39 = .int .i64 i ∧ i + gk = l.length ∧ s6 = .slice a i cap ∧ Hid (xs.length = i ∧ xs.map (fun x => (x.path, x.dir, x.time)) = (l.take i).map (fun m => (m.name, false, m.time))) ∧ Hid (RowG 37 7 wx r a cap (xs.map InfS.row)) ∧ Hid (i = 0 → a = none ∧ cap = 0) ∧ Hid (Below r w4 wx))
 case atStart => exact ⟨0, none, 0, [], rfl, Nat.zero_add _, rfl, Lib.hid ⟨rfl, rfl⟩, Lib.hid (RowG.nil _ _ _ _), Lib.hid (fun _ => ⟨rfl, rfl⟩), Lib.hid (by rw [← HRz.out]; exact Below.refl _ _)⟩
 case round =>
  obtain ⟨i, a, cap, xs, rfl, hig, rfl, HX, HR, HZ, HBx⟩ := hrel
  have HBw : Hid (Below w4.heap.size w4 wr) := Lib.hid (by rw [HRz.out]; exact HBx.out)
  have HMx := Lib.hid (HM4.out.below HBw.out)
  have hpc := HPg.out _ HMx.out
  by_cases hlt : i < l.length
  case neg =>
   have hltz : ¬ (i : Int) < (l.length : Int) := by omega
   go_wp2_with fail
   go_ret3
   have hi : i = l.length := by omega
   refine ⟨xs, a, cap, by rw [HX.out.1]; rfl, HR.out.lower HWr.out, fun e => HZ.out (by rw [← HX.out.1, e]; rfl), ⟨l, HKl.out, ?_⟩, HMx.out, HK1.out.trans (Kp.of (bTrans HBl4.out HBw.out))⟩
   rw [HX.out.2, hi, List.take_length]
  case pos =>
   have hltz : (i : Int) < (l.length : Int) := by omega
   obtain ⟨m, hm⟩ : ∃ m, l[i]? = some m := ⟨_, List.getElem?_eq_getElem hlt⟩
   have hml : m ∈ l := List.mem_of_getElem? hm
   obtain ⟨nb, off, rfl, hnb, hnc⟩ := (HH4.out.under HBw.out).at (k := i) (u := ptr m.b) (by rw [List.getElem?_map, hm]; rfl)
   have hnm := HNm.out _ m HMx.out hml
   have hme : (⟨#[]⟩ : ByteArray).toList.isEmpty = true := by rw [Lib.toList_data]; rfl
   have hpz : ((i : Int) == (4 : Int)) = false := by simp; omega
   have HIx := Lib.hid (HIn.out wr m (HW0.out.trans (Below.mono HBw.out HW0.out.size)) HMx.out hml)
   have HRw : Hid (r ≤ wr.heap.size) := Lib.hid (by rw [← HRz.out]; exact HBw.out.size)
   have HMm := Lib.hid hm
   have hi4 : i < 4 := by omega
   clear hm hml hnb
   obtain ⟨A, hA⟩ : ∃ A, m.name = A := ⟨_, rfl⟩
   obtain ⟨z, hz⟩ : ∃ z : Int, (m.data.size : Int) = z := ⟨_, rfl⟩
   obtain ⟨t, ht⟩ : ∃ t, m.time = t := ⟨_, rfl⟩
   obtain ⟨ix, hix⟩ : ∃ ix, m.id = ix := ⟨_, rfl⟩
   rw [hA, hz, ht, hix] at HIx
   rw [hA] at hnm
   have HAt := Lib.hid (And.intro hA ht)
   clear hA hz ht hix
   go_wp2_with (first
    | (go_at_call 42; refine HIx.out.mono ?_; rintro e w5 ⟨⟨sa, sn, sc, rfl⟩, hb5⟩; have HB5 := Lib.hid hb5; have HR5 := Lib.hid (HR.out.kp (Kp.of (F := fun _ => False) hb5) (fun _ _ e => e)); have hsz5 : r ≤ w5.heap.size := Nat.le_trans HRw.out hb5.size; clear hb5)
    | (at_builtin; refine wpList_appG (w := w5) HR5.out Tryz.underlying91 HI.out.1 HI.out.2.1 HI.out.2.2.1 HI.out.2.2.2 rfl (by decide) (by decide) [.string A, .bool false, .int .i64 z, .int .i64 t, .slice sa sn sc, .slice none 0 0, .string ix] rfl (by intro u hu; simp at hu; rcases hu with rfl | rfl | rfl | rfl | rfl | rfl | rfl <;> rfl) (by rw [List.length_map, HX.out.1]; omega) hsz5 rfl (.tmp 70) (.tmp 74) rfl (by rw [List.length_map, HX.out.1]; rfl) rfl (fun g7 cap7 w7 r1 r2 r3 => ?_); rw [List.length_map, HX.out.1]; have HR7 := Lib.hid r1; have HB7 : Hid (Below r w4 w7) := Lib.hid ((HBx.out.trans (Below.mono HB5.out HRw.out)).trans (r2.below (fun i hi => (HR5.out.base i hi).1) hsz5)); clear r1 r2 r3))
   go_roundg (gk - 1)
   case measure => omega
   case rel =>
    refine ⟨i + 1, some ⟨g7, 0, none⟩, cap7, xs ++ [⟨A, false, z, t, sa, sn, sc, ix⟩], by go_num, by omega, rfl, Lib.hid ⟨by rw [List.length_append, HX.out.1]; rfl, ?_⟩, Lib.hid ?_, Lib.hid (fun e => absurd e (Nat.succ_ne_zero _)), HB7⟩
    ·rw [List.map_append, HX.out.2, take_snoc HMm.out, List.map_append]
     simp [HAt.out.1, HAt.out.2]
    ·rw [List.map_append]
     exact HR7.out
/-- What Stat tells of a path. -/
def StatF (w : World) (B : Nat) (M : MB) (s : TSt) (o : Option Nd) (e : Ending) (w' : World) : Prop :=
 ((o = none ∧ e = .returned (.tuple #[.agg InfS.zero.arr, .int .i64 3])) ∨ (∃ n x, o = some n ∧ e = .returned (.tuple #[.agg (InfS.arr x), .int .i64 0]) ∧ (x.path, x.dir, x.time) = (n.name, false, n.time))) ∧ MemT w' B M s ∧ Kp (MTf M s.F) w w'
set_option maxHeartbeats 4000000 in
set_option maxRecDepth 100000 in
theorem statF_any (w0 w : World) (T : Tabs) (M : MB) (s : TSt) (N : Int) (p : ByteArray) (hG : Gr w0 T) (hb0 : Below w0.heap.size w0 w) (hM : MemT w w0.heap.size M s) (hS : FlatS N s) (hp : p ∈ nm4) :
  Calls Tryz.prog 295 #[ptr M.b, .string p] w (StatF w w0.heap.size M s (s.F [p])) := by
 have hk : kysOf s.f p = [p] := by rw [hS.feat]; exact nm4_keys hp
 have ho := nm4_ok hp
 have hE := hG.env
 have HBe := Lib.hid (fun W (hb : Below w.heap.size w W) => beginT_any 0 (by decide) W w0.heap.size M s (hM.below hb))
 have HCk : Hid (∀ W, Below w0.heap.size w0 W → Calls Tryz.prog 15 #[.string p] W fun e w' => e = .returned (.int .i64 0) ∧ Below W.heap.size W w') := Lib.hid (fun W hb => by
  have := check_any p W (hE.below hb (Nat.le_refl _)) (Nat.le_trans ho.size (by decide))
  rw [ho.err] at this
  exact this)
 have HFi : Hid (∀ W, Below w0.heap.size w0 W → MemT W w0.heap.size M s → Calls Tryz.prog 76 #[ptr M.b, .string p] W fun e w' => e = .returned (.pointer ((s.F [p]).map adr)) ∧ Below W.heap.size W w') := Lib.hid (fun W hb h => by
  have := findT_any W w0.heap.size M s p h (hE.below hb (Nat.le_refl _)) ho.size
  rw [hk] at this
  exact this)
 have HIn := Lib.hid (fun W n (hb : Below w0.heap.size w0 W) (h : MemT W w0.heap.size M s) (hn : s.F [p] = some n) => infoF_any w0 W T M s N p n hG hb h hS hn)
 obtain ⟨o, hoo⟩ : ∃ o, s.F [p] = o := ⟨_, rfl⟩
 rw [hoo] at HFi ⊢
 have HO := Lib.hid hoo
 clear hoo
 have HM := Lib.hid hM
 have HB0 := Lib.hid hb0
 have hx1 : BoxIs (w.alloc (.cells info0 37)) w.heap.size info0 37 := heap_alloc_new _ _
 have hb1 : Below w.heap.size w (w.alloc (.cells info0 37)) := bAlloc (Below.refl _ _) _
 clear hG hb0 hM hS hp hk ho hE
 go_enter Tryz.func295, Tryz.ntmps295
 go_upto_region 1 with fail
 obtain ⟨rz, hrz⟩ : ∃ rz, rz = w.heap.size := ⟨_, rfl⟩
 rw [← hrz] at hx1 ⊢
 have HRz := Lib.hid hrz
 have HX1 := Lib.hid hx1
 have HB1 := Lib.hid hb1
 clear hrz hx1 hb1
 generalize w.alloc _ = w1 at *
 have HBe1 := Lib.hid (HBe.out _ HB1.out)
 go_upto_region 4 with (go_at_call 163; refine HBe1.out.mono ?_; rintro e w2 ⟨rfl, hm2, hk2, hz2⟩)
 have hlt : ∀ i, MTf M s.F i → i < rz := fun i h => by rw [HRz.out]; exact HM.out.lt (.inl h)
 have HLt := Lib.hid hlt
 have hkm : Kp (MTf M s.F) w1 w2 := hk2.mono (fun i e => e.elim (fun e => .inr (.inl e)) (fun e => .inr (.inr (.inl e))))
 have HX2 := Lib.hid (HX1.out.kp hkm (fun e => by have := hlt _ e; omega))
 have HM2 := Lib.hid hm2
 have HK2 : Hid (Kp (MTf M s.F) w w2) := Lib.hid ((Kp.of HB1.out).trans hkm)
 have HB2 : Hid (Below w0.heap.size w0 w2) := Lib.hid (HB0.out.trans (HK2.out.below (fun i h => HM.out.mf h) HB0.out.size))
 clear hm2 hk2 hz2 hkm hlt HBe HBe1 HX1
 go_upto_region 7 with (go_at_call 15; refine (HCk.out _ HB2.out).mono ?_; rintro e w3 ⟨rfl, hb3⟩)
 have HM3 := Lib.hid (HM2.out.below hb3)
 have HX3 := Lib.hid (HX2.out.under hb3)
 have HK3 : Hid (Kp (MTf M s.F) w w3) := Lib.hid (HK2.out.trans (Kp.of hb3))
 have HB3 : Hid (Below w0.heap.size w0 w3) := Lib.hid (HB2.out.trans (Below.mono hb3 HB2.out.size))
 clear hb3 HM2 HX2 HK2 HB2 HCk
 have HFi3 := Lib.hid (HFi.out _ HB3.out HM3.out)
 clear HFi
 cases o with
 | none =>
  simp only [Option.map_none] at HFi3
  go_upto_region 9 with (go_at_call 76; refine HFi3.out.mono ?_; rintro e w4 ⟨rfl, hb4⟩; have HX4 := Lib.hid (HX3.out.under hb4); have HB4 := Lib.hid hb4; clear hb4; obtain ⟨⟨p0, p1, p2, p3, p4, p5, p6⟩, f0, f1, f2, f3, f4, f5, f6⟩ := info_room HX4.out)
  have hend : StatF w w0.heap.size M s none (.returned (.tuple #[.agg InfS.zero.arr, .int .i64 3])) (set7 w4 rz ⟨#[]⟩ false 0 0 (.slice none 0 0) ⟨#[]⟩) :=
   ⟨.inl ⟨rfl, rfl⟩, (HM3.out.below HB4.out).kp (G := fun i => i = rz) (set7_kp (Kp.refl (fun i => i = rz) w4) (.inl rfl) _ _ _ _ _ _) (fun i hi e => by have := HM.out.lt hi; have := HRz.out; omega), set7_kp (HK3.out.trans (Kp.of HB4.out)) (.inr (Nat.le_of_eq HRz.out.symm)) _ _ _ _ _ _⟩
  unfold set7 at hend
  go_wp2_with fail
  try simp only [Exit.inBlock, Exit.then]
  refine bodyPost_ret (v := .tuple #[.agg InfS.zero.arr, .int .i64 3]) ?_ rfl hend
  clear hend
  simp [results, Tryz.f295]
  go_simp
  simp [InfS.zero]
 | some n =>
  simp only [Option.map_some, adr] at HFi3
  have HIn3 := Lib.hid (fun W hb h => HIn.out W n hb h HO.out)
  obtain ⟨zn, hzn⟩ : ∃ z, n.b = z := ⟨_, rfl⟩
  rw [hzn] at HFi3 HIn3
  clear hzn HIn
  go_upto_region 8 with (go_at_call 76; refine HFi3.out.mono ?_; rintro e w4 ⟨rfl, hb4⟩)
  have HM4 := Lib.hid (HM3.out.below hb4)
  have HX4 := Lib.hid (HX3.out.under hb4)
  have HK4 : Hid (Kp (MTf M s.F) w w4) := Lib.hid (HK3.out.trans (Kp.of hb4))
  have HIn4 := Lib.hid (HIn3.out w4 (HB3.out.trans (Below.mono hb4 HB3.out.size)) HM4.out)
  clear hb4 HIn3 HFi3
  obtain ⟨A, hA⟩ : ∃ A, n.name = A := ⟨_, rfl⟩
  obtain ⟨z, hz⟩ : ∃ z : Int, (n.data.size : Int) = z := ⟨_, rfl⟩
  obtain ⟨t, ht⟩ : ∃ t, n.time = t := ⟨_, rfl⟩
  obtain ⟨ix, hix⟩ : ∃ ix, n.id = ix := ⟨_, rfl⟩
  rw [hA, hz, ht, hix] at HIn4
  have HAt := Lib.hid (And.intro hA ht)
  clear hA hz ht hix
  go_upto_region 10 with fail
  go_wp2_with (go_at_call 42; refine HIn4.out.mono ?_; rintro e w5 ⟨⟨sa, sn, sc, rfl⟩, hb5⟩; have HX5 := Lib.hid (HX4.out.under hb5); have HB5 := Lib.hid hb5; clear hb5; obtain ⟨⟨p0, p1, p2, p3, p4, p5, p6⟩, f0, f1, f2, f3, f4, f5, f6⟩ := info_room HX5.out)
  have hend : StatF w w0.heap.size M s (some n) (.returned (.tuple #[.agg (InfS.arr ⟨A, false, z, t, sa, sn, sc, ix⟩), .int .i64 0])) (set7 w5 rz A false z t (.slice sa sn sc) ix) :=
   ⟨.inr ⟨n, _, rfl, rfl, by rw [HAt.out.1, HAt.out.2]⟩, (HM4.out.below HB5.out).kp (G := fun i => i = rz) (set7_kp (Kp.refl (fun i => i = rz) w5) (.inl rfl) _ _ _ _ _ _) (fun i hi e => by have := HM.out.lt hi; have := HRz.out; omega), set7_kp (HK4.out.trans (Kp.of HB5.out)) (.inr (Nat.le_of_eq HRz.out.symm)) _ _ _ _ _ _⟩
  unfold set7 at hend
  try simp only [Exit.inBlock, Exit.then]
  refine bodyPost_ret (v := .tuple #[.agg (InfS.arr ⟨A, false, z, t, sa, sn, sc, ix⟩), .int .i64 0]) ?_ rfl hend
  clear hend
  simp [results, Tryz.f295]
  go_simp
end Go.Proofs.YtchfhojighopkaaGreatDoor
namespace Go.Proofs.YtchfhojighopkaaGreatDoor
open Go.RowKit

theorem infoInfoS : (Tryz.prog.info? 37).map (fun i => (i.zero, i.size, i.bytes)) = some (some (.agg #[.string ByteArray.empty, .bool false, .int .i64 0, .int .i64 0, .slice none 0 0, .slice none 0 0, .string ByteArray.empty]), 7, 104) := by kernel_rfl
/-- A store behind an interface: blocks from L on are the caller's; I says what holds of the world; G: the blocks that its calls may change; P: what List may tell; R: what Get may give. -/
structure StV (L : Nat) (I : World → Prop) (G : Nat → Prop) (T : TypeId) (p : Value) (lf gf : Nat) (rc : Value) (P : List InfS → Prop) (R : ByteArray → ByteArray → Prop) : Prop where
 keep : ∀ W W', I W → Kp (fun i => L ≤ i) W W' → I W'
 low : ∀ W, I W → L ≤ W.heap.size
 gl : ∀ i, G i → i < L
 ml : ∀ W n, 0 < n → (method n T p "List").run Tryz.prog W = .ok (lf, rc) W
 mg : ∀ W n, 0 < n → (method n T p "Get").run Tryz.prog W = .ok (gf, rc) W
 el : ∀ args W, (callFunc lf args).run Tryz.prog W = .ok (.enter lf args) W
 eg : ∀ args W, (callFunc gf args).run Tryz.prog W = .ok (.enter gf args) W
 mna : ∀ W n, 0 < n → (nilAhead n T p "Get").run Tryz.prog W = .ok (some false) W
 list : ∀ W, I W → Calls Tryz.prog lf #[rc, .string ⟨#[]⟩, .string ⟨#[]⟩] W fun e w' => ∃ (xs : List InfS) (a : Option Addr) (cap : Nat), e = .returned (.tuple #[.slice a xs.length cap, .string ⟨#[]⟩, .int .i64 0]) ∧ RowG 37 7 w' W.heap.size a cap (xs.map InfS.row) ∧ (xs = [] → a = none ∧ cap = 0) ∧ P xs ∧ I w' ∧ Kp G W w'
 get : ∀ W q xs, I W → P xs → (∃ x ∈ xs, x.path = q) → Calls Tryz.prog gf #[rc, .string q, .int .i64 0, .int .i64 65536] W fun e w' => ∃ d, e = .returned (.tuple #[.string d, .int .i64 0]) ∧ R q d ∧ d.size < 65536 ∧ I w' ∧ Kp G W w'
 flat : ∀ xs, P xs → xs.length < 20 ∧ ∀ x ∈ xs, x.dir = false ∧ x.path.size ≤ 1000
section
variable {L : Nat} {I : World → Prop} {G : Nat → Prop} {T : TypeId} {p rc : Value} {lf gf : Nat} {P : List InfS → Prop} {R : ByteArray → ByteArray → Prop}
def ListedV (I : World → Prop) (G : Nat → Prop) (P : List InfS → Prop) (w : World) (e : Ending) (w' : World) : Prop :=
 ∃ (xs : List InfS) (a : Option Addr) (cap : Nat), e = .returned (.tuple #[.slice a xs.length cap, .int .i64 0]) ∧ RowG 37 7 w' w.heap.size a cap (xs.map InfS.row) ∧ (xs = [] → a = none ∧ cap = 0) ∧ P xs ∧ I w' ∧ Kp G w w'
set_option maxHeartbeats 4000000 in
set_option maxRecDepth 100000 in
theorem listedV_any (hV : StV L I G T p lf gf rc P R) (w : World) (hI : I w) :
  Calls Tryz.prog 59 #[.iface T p, .string ⟨#[]⟩] w (ListedV I G P w) := by
 have HLi := Lib.hid (hV.list w hI)
 have hML := hV.ml
 have hEL := hV.el
 have HFl := Lib.hid hV.flat
 have HKe := Lib.hid hV.keep
 have HLw := Lib.hid (hV.low w hI)
 obtain ⟨iv, hiv, hz0, hz1, hz2⟩ := info_parts infoInfoS
 have HI := Lib.hid (And.intro hiv (And.intro hz0 (And.intro hz1 hz2)))
 have hnx : (⟨#[]⟩ : ByteArray).toList.isEmpty = true := by rw [Lib.toList_data]; rfl
 clear hV hI hiv hz0 hz1 hz2
 go_enter Tryz.func59, Tryz.ntmps59
 go_wp2_with fail
 go_loopg [6, 7] 0 (fun gk s6 s7 wx => s6 = .slice none 0 0 ∧ s7 = .string ⟨#[]⟩ ∧ wx = w)
 case atStart => exact ⟨rfl, rfl, rfl⟩
 case round =>
  obtain ⟨rfl, rfl, rfl⟩ := hrel
  go_wp2_with (first
   | (refine HLi.out.mono ?_; rintro e w2 ⟨xs, a2, cap2, rfl, hr2, hz2, hp2, hi2, hk2⟩; have HR2 := Lib.hid hr2; have HZ2 := Lib.hid hz2; have HP2 := Lib.hid (And.intro hp2 (And.intro hi2 hk2)); have hsz2 : wr.heap.size ≤ w2.heap.size := hk2.size; clear hr2 hz2 hp2 hi2 hk2)
   | (at_builtin; refine wpList_appRows (w := w2) (RowG.nil _ _ w2 wr.heap.size) HR2.out (fun e => HZ2.out (List.map_eq_nil_iff.1 e)) Tryz.underlying91 HI.out.1 HI.out.2.1 HI.out.2.2.1 HI.out.2.2.2 rfl (by decide) (by decide) (fun r hr u hu => by obtain ⟨m, _, rfl⟩ := List.mem_map.1 hr; exact infS_one _ u hu) (by have := (HFl.out xs HP2.out.1).1; simp; omega) hsz2 rfl (.tmp 22) (.tmp 23) rfl rfl (by rw [List.length_map]; rfl) (fun a3 cap3 w3 r1 r2 r3 r4 => ?_); rw [List.length_map, List.length_nil, Nat.zero_add]; have HR3 := Lib.hid r1; have HK3 := Lib.hid r2; have HN3 : Hid (xs = [] → a3 = none ∧ cap3 = 0) := Lib.hid (fun e => r4 (by rw [e]; rfl)); clear r1 r2 r3 r4))
  go_ret2
  have hk3 : ∀ {F : Nat → Prop}, Kp F w2 w3 := HK3.out.mono (fun i ⟨a, h, _⟩ => by cases h)
  exact ⟨xs, a3, cap3, rfl, by have := HR3.out; rwa [List.nil_append] at this, HN3.out, HP2.out.1, HKe.out _ _ HP2.out.2.1 hk3, HP2.out.2.2.trans hk3⟩
end
end Go.Proofs.YtchfhojighopkaaGreatDoor
