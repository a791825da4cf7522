/-
  The texts Gr8, Gr9, Gr10, Gr11, Gr12, Gr13, Gr14, Gr15, in one.
-/
import Derived.Test.YtfenmeacimfiaaaGreatDoorGrD
import Derived.Test.YtfenmeacimfiaaaGreatDoorGp7
import Derived.Test.YtfenmeacimfiaaaGreatDoorSortShelf
import Derived.Shelf.SlSortCmp.NoneTotal
import Derived.Deep.DeepCutAuto
import Derived.Defers
import Derived.Recover
import Derived.Test.YtfenmeacimfiaaaGreatDoorGp6
import Derived.Test.YtfenmeacimfiaaaGreatDoorSeqA
import Derived.Test.YtfenmeacimfiaaaGreatDoorGp8
namespace Go.Proofs.YtfenmeacimfiaaaGreatDoor
open Go.RowKit Go.Sort Wh.G

abbrev rgty : TypeId := 164
/-- A range of bytes. -/
def okB (r : Int × Int) : Prop := 0 ≤ r.1 ∧ r.1 ≤ r.2 ∧ r.2 ≤ 255
abbrev CRg := {r : Int × Int // okB r}
instance : Inhabited CRg := ⟨⟨(0, 0), by unfold okB; decide⟩⟩
def encG (x : CRg) : List Value := rgCells x.1
def cfG (x y : CRg) : Int := x.1.1 - y.1.1

theorem enters_jn1 : ∀ args w, (callFunc 235 args).run Tryz.prog w = .ok (.enter 235 args) w := enters_of Tryz.func235 (by kernel_rfl) rfl

set_option maxHeartbeats 2000000 in
theorem jn1_any (x y : Int × Int) (hx : okB x) (hy : okB y) (w : World) :
    Calls Tryz.prog 235 #[.agg #[.int .i64 x.1, .int .i64 x.2], .agg #[.int .i64 y.1, .int .i64 y.2]] w fun e w' => e = .returned (.int .i64 (x.1 - y.1)) ∧ ∃ q os', w' = grow (w.drewN q) os' := by
  have hw : IntKind.i64.wrap (x.1 - y.1) = x.1 - y.1 := IntWalk.i64_in _ (by unfold okB at hx hy; omega)
  clear hx hy
  have HB := Lib.hid (boxG_two w #[.int .i64 x.1, .int .i64 x.2] #[.int .i64 y.1, .int .i64 y.2] rgty)
  go_enter Tryz.func235, Tryz.ntmps235
  go_upto_region 1 with fail
  have a0 := HB.out.1.cell (j := 0) rfl
  have b0 := HB.out.2.1.cell (j := 0) rfl
  go_wp2_with fail
  go_ret
  refine ⟨rfl, 0, #[.cells #[.int .i64 x.1, .int .i64 x.2] rgty, .cells #[.int .i64 y.1, .int .i64 y.2] rgty], ?_⟩
  rw [alloc_eq_grow, alloc_eq_grow, grow_grow]
  rfl

theorem cmpLaysG (blk off size : Nat) (w : World) : CmpLays Tryz.prog 235 #[] encG 2 cfG blk off size w :=
  fun _ _ _ _ x y => jn1_any x.1 y.1 x.2 y.2 _
theorem swoG : SWO (ltOf cfG) where
  irrefl x := by simp [ltOf, cfG]
  trans x y z h1 h2 := by
    have h1 : x.1.1 - y.1.1 < 0 := of_decide_eq_true h1
    have h2 : y.1.1 - z.1.1 < 0 := of_decide_eq_true h2
    exact decide_eq_true (show x.1.1 - z.1.1 < 0 by omega)
  ntrans x y z h1 h2 := by
    have h1 : ¬ x.1.1 - y.1.1 < 0 := of_decide_eq_false h1
    have h2 : ¬ y.1.1 - z.1.1 < 0 := of_decide_eq_false h2
    exact decide_eq_false (show ¬ x.1.1 - z.1.1 < 0 by omega)

theorem below_sortG {α : Type} [Inhabited α] (enc : α → List Value) (k : Nat) (w : World) (g off n B : Nat) (d : Array α) (os : Array Obj) (hB : B ≤ g) (hs : B ≤ w.heap.size) : Below B w (sortWorldK enc k w g off n d os) := by
  refine ⟨rfl, rfl, rfl, size_sortWorldK_c enc k w g off n d os, fun i hi => ?_⟩
  unfold sortWorldK grow putRowK putRow mapBlock Sort.ahead
  simp only
  rw [Array.getElem?_append_left (by simp; omega), Array.getElem?_modify, if_neg (by omega)]
theorem side_sortG {α : Type} [Inhabited α] (enc : α → List Value) (k : Nat) (w : World) (g off n : Nat) (d : Array α) (os : Array Obj) : Side g w (sortWorldK enc k w g off n d os) := by
  refine ⟨rfl, rfl, rfl, size_sortWorldK_c enc k w g off n d os, fun i hi hne => ?_⟩
  unfold sortWorldK grow putRowK putRow mapBlock Sort.ahead
  simp only
  rw [Array.getElem?_append_left (by simp; omega), Array.getElem?_modify, if_neg (by omega)]

theorem holdsG_of {w : World} {g : Nat} {cur : Array Value} {t : TypeId} {d : Array CRg} (hg : w.heap[g]? = some (.cells cur t (0, 0))) (hH : HoldsR w (some ⟨g, 0, none⟩) 2 (d.toList.map encG)) : HoldsK encG 2 w g 0 d := by
  intro j hj
  rw [size_flatK] at hj
  have hk : j / 2 < d.size := by omega
  refine ⟨?_, by simp [World.frozen?, hg]⟩
  rw [get_flatK _ _ _ _ hj]
  obtain ⟨b, o, e, _, hc⟩ := hH.at (k := j / 2) (row := encG d[j / 2]) (by simp [hk])
  injection e with e
  injection e with e1 e2
  subst e1 e2
  rw [getElem!_pos d (j / 2) hk]
  have hl : (encG d[j / 2]).length = 2 := rfl
  have := hc (j % 2) ((encG d[j / 2])[j % 2]'(by omega)) (List.getElem?_eq_getElem _)
  rw [show 0 + j / 2 * 2 + j % 2 = 0 + j by omega] at this
  rw [this, getElem!_pos (encG d[j / 2]) (j % 2) (by omega)]
  rfl
theorem of_holdsG {w : World} {g : Nat} {d : Array CRg} (hg : g < w.heap.size) (hK : HoldsK encG 2 w g 0 d) : HoldsR w (some ⟨g, 0, none⟩) 2 (d.toList.map encG) := by
  refine .inr ⟨g, 0, rfl, hg, fun k row hk j u hu => ?_⟩
  rw [List.getElem?_map] at hk
  have hkl : k < d.size := by
    rcases Nat.lt_or_ge k d.size with h | h
    · exact h
    · rw [List.getElem?_eq_none (by simpa using h)] at hk; simp at hk
  have hr : row = encG d[k] := by
    rw [List.getElem?_eq_getElem (by simpa using hkl)] at hk
    simpa using hk.symm
  subst hr
  have hl : (encG d[k]).length = 2 := rfl
  have hj : j < 2 := by have := (List.getElem?_eq_some_iff.1 hu).1; omega
  have := (hK (k * 2 + j) (by rw [size_flatK]; omega)).1
  rw [get_flatK _ _ _ _ (by omega), show (k * 2 + j) / 2 = k by omega, show (k * 2 + j) % 2 = j by omega, getElem!_pos d k hkl, getElem!_pos (encG d[k]) j (by omega)] at this
  rw [show 0 + k * 2 + j = 0 + (k * 2 + j) by omega, this]
  rw [(List.getElem?_eq_some_iff.1 hu).2]
  rfl

/-- What the sort leaves. -/
def SortRgPost (z : Nat) (w : World) (a : Option Addr) (acc : List (Int × Int)) (e : Ending) (w' : World) : Prop :=
  e = .returned (.tuple #[]) ∧ ∃ d : List (Int × Int), d.length = acc.length ∧ d.Pairwise (fun x y => x.1 ≤ y.1) ∧ (∀ c, c ∈ d ↔ c ∈ acc) ∧ HoldsR w' a 2 (d.map rgCells) ∧ Below z w w' ∧ w.heap.size ≤ w'.heap.size

set_option maxRecDepth 100000 in
theorem sortRg_any {z : Nat} {w : World} {a : Option Addr} {cap : Nat} {acc : List (Int × Int)} (hO : OwnG rgty 2 rgCells z w a cap acc) (hzw : z ≤ w.heap.size) (hs : ∀ r ∈ acc, okB r) (hl : acc.length < 4611686018427387904) :
    Calls Tryz.prog 234 #[.slice a acc.length cap, .func (.func 235) #[] #[]] w (SortRgPost z w a acc) := by
  by_cases h0 : acc = []
  · subst h0
    refine (AnyF.slices_SortFunc_none Tryz.sortRg a cap _ w).mono ?_
    rintro e w' ⟨rfl, rfl⟩
    exact ⟨rfl, [], rfl, List.Pairwise.nil, fun _ => Iff.rfl, .inl rfl, Below.refl _ _, Nat.le_refl _⟩
  · obtain ⟨g, cur, rfl, hg0, hg⟩ : ∃ g cur, a = some ⟨g, 0, none⟩ ∧ z ≤ g ∧ w.heap[g]? = some (.cells cur rgty (0, 0)) := by
      rcases hO.2 with ⟨_, h⟩ | ⟨g, c, cur, hv, h1, h2, _⟩
      · exact absurd (List.eq_nil_of_length_eq_zero h) h0
      · injection hv with e1 _ _
        exact ⟨g, cur, e1, h1, h2⟩
    have hgl := (Array.getElem?_eq_some_iff.1 hg).1
    obtain ⟨d, hd⟩ : ∃ d : Array CRg, d.toList.map (·.1) = acc := ⟨(acc.attach.map fun c => ⟨c.1, hs c.1 c.2⟩).toArray, by
        rw [List.toList_toArray, List.map_map]
        exact List.attach_map_subtype_val acc⟩
    have hds : d.size = acc.length := by rw [← hd]; simp
    have hmap : d.toList.map encG = acc.map rgCells := by rw [← hd, List.map_map]; rfl
    have hK := holdsG_of hg (d := d) (by rw [hmap]; exact hO.holds (fun _ => rfl))
    have hc := AnyQ.slices_SortFunc Tryz.sortRg 2 (fun _ => by kernel_rfl) (fun _ => by kernel_rfl) encG (fun _ => rfl) (fun x v hv => by simp [encG, rgCells] at hv; rcases hv with rfl | rfl <;> rfl) cfG swoG 235 #[] g 0 cap d w enters_jn1 (cmpLaysG g 0 d.size w) hK hgl (by omega)
    rw [hds] at hc
    refine hc.mono ?_
    rintro e w' ⟨rfl, d', n, os, hp, hsd, rfl⟩
    have hsz := hp.1
    have hperm : d'.toList.Perm d.toList := by
      have e1 : d'.extract 0 acc.length = d' := by rw [← hds, ← hsz]; simp
      have e2 : d.extract 0 acc.length = d := by rw [← hds]; simp
      have := hp.2.2
      rw [e1, e2] at this
      exact this
    have hpm : (d'.toList.map (·.1)).Perm acc := by rw [← hd]; exact hperm.map _
    refine ⟨rfl, d'.toList.map (·.1), by simpa using hsz.trans hds, ?_, fun c => hpm.mem_iff, ?_, below_sortG encG 2 w g 0 n _ d' os hg0 hzw, size_sortWorldK_c encG 2 w g 0 n d' os⟩
    · rw [List.pairwise_iff_getElem]
      intro i j hi hj hij
      have hi' : i < d'.size := by simpa using hi
      have hj' : j < d'.size := by simpa using hj
      have h3 := hsd i j (Nat.zero_le _) hij (by omega)
      rw [getElem!_pos d' i hi', getElem!_pos d' j hj'] at h3
      have h4 : ¬ (d'[j].1.1 - d'[i].1.1 < 0) := of_decide_eq_false h3
      simp only [List.getElem_map, Array.getElem_toList] at *
      omega
    · have hmap' : (d'.toList.map (·.1)).map rgCells = d'.toList.map encG := by rw [List.map_map]; rfl
      rw [hmap']
      exact of_holdsG (lt_sortWorldK encG 2 w g 0 n d' os hgl) (holdsK_sortWorldK_c encG 2 w g 0 d d' n os hK hgl (hsz.trans rfl))
end Go.Proofs.YtfenmeacimfiaaaGreatDoor
namespace Go.Proofs.YtfenmeacimfiaaaGreatDoor
open Go.RowKit Wh.G

theorem OwnG.mono {α : Type} {ty : TypeId} {n : Nat} {cells : α → List Value} {z z' : Nat} {W : World} {a : Option Addr} {cap : Nat} {xs : List α} (h : OwnG ty n cells z W a cap xs) (hz : z' ≤ z) : OwnG ty n cells z' W a cap xs := by
  refine ⟨h.1, ?_⟩
  rcases h.2 with hn | ⟨g, c, cur, hv, h1, h2⟩
  · exact .inl hn
  · exact .inr ⟨g, c, cur, hv, Nat.le_trans hz h1, h2⟩
theorem lastG {α : Type} {ty : TypeId} {n : Nat} {cells : α → List Value} {z : Nat} {W : World} {a : Option Addr} {cap : Nat} {ys : List α} {p : α} (hc : ∀ x, (cells x).length = n) (h : OwnG ty n cells z W a cap (ys ++ [p])) :
    ∃ g cur, a = some ⟨g, 0, none⟩ ∧ z ≤ g ∧ W.heap[g]? = some (.cells cur ty (0, 0)) ∧ ∀ (j : Nat) (u : Value), (cells p)[j]? = some u → W.cell? ⟨g, ys.length * n + j, none⟩ = some u := by
  have hh := h.holds hc
  rcases h.2 with ⟨hv, h0⟩ | ⟨g, c, cur, hv, h1, h2, _⟩
  · simp at h0
  · injection hv with e1 _ _
    subst e1
    obtain ⟨b, off, e, _, hcc⟩ := hh.at (k := ys.length) (row := cells p) (by simp)
    injection e with e
    injection e with e2 e3
    subst e2 e3
    refine ⟨g, cur, rfl, h1, h2, fun j u hu => ?_⟩
    have := hcc j u hu
    rw [Nat.zero_add] at this
    exact this
theorem elemRg : ∃ i : TypeInfo, Tryz.prog.underlying 209 = some (.slice rgty) ∧ Tryz.prog.info? rgty = some i ∧ i.zero = some (.agg #[.int .i64 0, .int .i64 0]) ∧ i.size = 2 ∧ i.bytes = 16 := by
  obtain ⟨i0, hi, hz0, hz1, hz2⟩ := info_parts (show (Tryz.prog.info? rgty).map (fun i => (i.zero, i.size, i.bytes)) = some (some (.agg #[.int .i64 0, .int .i64 0]), 2, 16) by kernel_rfl)
  exact ⟨i0, Tryz.underlying209, hi, hz0, hz1, hz2⟩
theorem rgOne : ∀ (x : Int × Int), ∀ v ∈ rgCells x, v.oneCell' = true := by
  intro x v hv
  simp only [rgCells, List.mem_cons, List.not_mem_nil, or_false] at hv
  rcases hv with rfl | rfl <;> rfl
theorem jinv_ok {pre out acc : List (Int × Int)} (h : JInv pre out) (hp : ∀ r ∈ pre, r ∈ acc) (hs : ∀ r ∈ acc, okB r) : ∀ r ∈ out, okB r := by
  have key : ∀ (out : List (Int × Int)), Canon out → ∀ r ∈ out, r.1 ≤ r.2 := by
    intro out
    induction out with
    | nil => intro _ r hr; cases hr
    | cons x r ih =>
      intro hc y hy
      rcases List.mem_cons.1 hy with rfl | hy
      · exact hc.head
      · exact ih hc.tail y hy
  intro r hr
  obtain ⟨q1, h1, e1⟩ := h.first r hr
  obtain ⟨q2, h2, e2⟩ := h.last r hr
  have a1 := hs q1 (hp q1 h1)
  have a2 := hs q2 (hp q2 h2)
  exact ⟨by rw [e1]; exact a1.1, key out h.canon r hr, by rw [e2]; exact a2.2.2⟩
/-- What joined returns. -/
def JoinPost (z : Nat) (w : World) (acc : List (Int × Int)) (e : Ending) (w' : World) : Prop :=
  ∃ (a2 : Option Addr) (cap2 : Nat) (out : List (Int × Int)), e = .returned (.slice a2 out.length cap2) ∧ OwnG rgty 2 rgCells w.heap.size w' a2 cap2 out ∧ out = canonOf acc ∧ (∀ r ∈ out, okB r) ∧ out.length ≤ acc.length ∧ Below z w w' ∧ w.heap.size ≤ w'.heap.size

set_option maxHeartbeats 4000000 in
set_option maxRecDepth 100000 in
theorem joined_any {z : Nat} {w : World} {a : Option Addr} {cap : Nat} {acc : List (Int × Int)} (hO : OwnG rgty 2 rgCells z w a cap acc) (hzw : z ≤ w.heap.size) (hs : ∀ r ∈ acc, okB r) (hl : acc.length ≤ 1000000) :
    Calls Tryz.prog 225 #[.slice a acc.length cap] w (JoinPost z w acc) := by
  have HSo := Lib.hid (sortRg_any hO hzw hs (by omega))
  have HS := Lib.hid hs
  clear hO hs
  obtain ⟨N, hN⟩ : ∃ N, acc.length = N := ⟨_, rfl⟩
  have HN := Lib.hid hN
  rw [hN] at HSo hl ⊢
  clear hN
  go_enter Tryz.func225, Tryz.ntmps225
  go_upto_region 2 with (go_at_call 234; refine HSo.out.mono ?_; rintro e w1 ⟨rfl, d, hd1, hd2, hd3, hd4, hb1, hz1⟩; have HD := Lib.hid (And.intro hd1 (And.intro hd2 (And.intro hd3 (And.intro hd4 (And.intro hb1 hz1))))); clear hd1 hd2 hd3 hd4 hb1)
  have hdl : d.length = N := HD.out.1.trans HN.out
  have HOk : Hid (∀ r ∈ d, okB r) := Lib.hid (fun r hr => HS.out r ((HD.out.2.2.1 r).1 hr))
  go_wp2_with fail
  go_loopg [3, 11] N (fun g s3 s11 wx => ∃ (k : Nat) (a2 : Option Addr) (c2 : Nat) (out : List (Int × Int)), k + g = N ∧ s11 = .int .i64 k ∧ s3 = .slice a2 out.length c2 ∧ out.length ≤ k ∧ Hid (OwnG rgty 2 rgCells w1.heap.size wx a2 c2 out) ∧ Hid (JInv (d.take k) out) ∧ Hid (Below w1.heap.size w1 wx))
  case atStart => exact ⟨0, none, 0, [], by omega, rfl, rfl, Nat.le_refl _, Lib.hid (OwnG.nil _ _ _ _ _), Lib.hid (by rw [List.take_zero]; exact JInv.nil), Lib.hid (Below.refl _ _)⟩
  case round =>
    obtain ⟨k, a2, c2, out, hg, rfl, rfl, hol, HOw, HJ, HBw⟩ := hrel
    by_cases hlt : k < N
    rotate_left 1
    · have hkN : ¬ (k : Int) < (N : Int) := by omega
      go_wp2_with fail
      go_ret
      have hk : k = d.length := by omega
      have hJ := HJ.out
      rw [hk, List.take_length] at hJ
      have hin : ∀ n, In n out ↔ In n acc := fun n => (hJ.same n).trans ⟨fun ⟨r, hr, h⟩ => ⟨r, (HD.out.2.2.1 r).1 hr, h⟩, fun ⟨r, hr, h⟩ => ⟨r, (HD.out.2.2.1 r).2 hr, h⟩⟩
      exact ⟨a2, c2, out, rfl, HOw.out.mono hz1, (canonOf_eq hJ.canon hin).symm, jinv_ok hJ (fun r hr => (HD.out.2.2.1 r).1 hr) HS.out, by rw [HN.out, ← hdl]; exact hJ.len, HD.out.2.2.2.2.1.trans (HBw.out.mono (Nat.le_trans hzw hz1)), Nat.le_trans hz1 HBw.out.size⟩
    obtain ⟨gk', rfl⟩ : ∃ g, gk = g + 1 := ⟨gk - 1, by omega⟩
    obtain ⟨x, hx⟩ : ∃ x, d[k]? = some x := ⟨_, List.getElem?_eq_getElem (by omega)⟩
    have HX := Lib.hid hx
    have hxo := HOk.out x (List.mem_of_getElem? hx)
    obtain ⟨bl, ol, rfl, hbl, hcl⟩ := (HD.out.2.2.2.1.under HBw.out).at (k := k) (row := rgCells x) (by simp [hx])
    have x0 := hcl 0 _ rfl
    have x1 := hcl 1 _ rfl
    rw [Nat.add_zero] at x0
    clear hcl hx
    have hkI : (k : Int) < (N : Int) := by omega
    have hk0 : (0 : Int) ≤ (k : Int) := by omega
    unfold okB at hxo
    obtain ⟨xa, xc⟩ := x
    dsimp only at hxo x0 x1
    go_upto_region 6 with fail
    have HB2 := Lib.hid (bAlloc (Below.refl wr.heap.size wr) (.cells #[.int .i64 xa, .int .i64 xc] rgty))
    have HXb := Lib.hid (BoxIs.new wr #[.int .i64 xa, .int .i64 xc] rgty)
    obtain ⟨xb, hxb⟩ : ∃ xb, xb = wr.heap.size := ⟨_, rfl⟩
    rw [← hxb] at HXb
    rw [← hxb]
    have HXn : Hid (xb = wr.heap.size) := Lib.hid hxb
    clear hxb x0 x1
    generalize wr.alloc _ = w2 at *
    have HBw2 := Lib.hid (bTrans HBw.out HB2.out)
    have HOw2 := Lib.hid (HOw.out.under HB2.out)
    have z0 := HXb.out.cell (j := 0) rfl
    have z1 := HXb.out.cell (j := 1) rfl
    have hz2 := HBw2.out.size
    have HTk : Hid (d.take (k + 1) = d.take k ++ [(xa, xc)]) := Lib.hid (by
      rw [List.take_add_one, HX.out]
      rfl)
    rcases List.eq_nil_or_concat out with rfl | ⟨ys, y, hys⟩
    · have HJ2 : Hid (JInv (d.take (k + 1)) ([] ++ [(xa, xc)])) := Lib.hid (by
        rw [HTk.out]
        exact HJ.out.add (fun y hy => by cases hy) hxo.2.1)
      go_upto_region 7 with fail
      go_quiet (fail)
      have HXb3 : Hid (BoxIs (w2.drewN nq) xb #[.int .i64 xa, .int .i64 xc] rgty) := Lib.hid HXb.out
      have HOw3 : Hid (OwnG rgty 2 rgCells w1.heap.size (w2.drewN nq) a2 c2 ([] : List (Int × Int))) := Lib.hid HOw2.out
      have HBw3 : Hid (Below w1.heap.size w1 (w2.drewN nq)) := Lib.hid (bDrewN HBw2.out nq)
      clear z0 z1
      generalize w2.drewN nq = w3 at *
      have z0 := HXb3.out.cell (j := 0) rfl
      have z1 := HXb3.out.cell (j := 1) rfl
      have HB4 := Lib.hid (bAlloc (Below.refl w3.heap.size w3) (.cells #[.int .i64 xa, .int .i64 xc] rgty))
      have HX4 := Lib.hid (BoxIs.new w3 #[.int .i64 xa, .int .i64 xc] rgty)
      have HO4 := Lib.hid (HOw3.out.under HB4.out)
      have hz4 : w1.heap.size ≤ (w3.alloc (.cells #[.int .i64 xa, .int .i64 xc] rgty)).heap.size := Nat.le_trans HBw3.out.size HB4.out.size
      go_wp2_with (at_builtin; refine wpl_app elemRg (by decide) rfl (fun _ => rfl) rgOne (by decide) hz4 HO4.out (by omega) (xa, xc) HX4.out rfl (.tmp 45) (.tmp 47) rfl (by first | rfl | (rw [List.length_append]; rfl)) rfl ?_)
      intro g cap' w' hown hgr hat hlt'
      have HO5 : Hid (OwnG rgty 2 rgCells w1.heap.size w' (some ⟨g, 0, none⟩) cap' (([] : List (Int × Int)) ++ [(xa, xc)])) := Lib.hid (by first | exact hown | (rw [List.append_assoc]; exact hown))
      have HB5 : Hid (Below w1.heap.size w1 w') := Lib.hid ((bTrans HBw3.out HB4.out).grown hgr hz4 (fun q hq => (HO4.out.base q hq).1))
      clear hown hgr hat hlt' z0 z1
      go_wp2_with fail
      go_roundg gk'
      case measure => omega
      case rel => exact ⟨k + 1, some ⟨g, 0, none⟩, cap', ([] : List (Int × Int)) ++ [(xa, xc)], by omega, by go_num, by first | rfl | (rw [List.length_append]; rfl) | (simp), by rw [List.length_append]; exact Nat.succ_le_succ hol, HO5, HJ2, HB5⟩
    · rw [List.concat_eq_append] at hys
      subst hys
      obtain ⟨ya, yc⟩ := y
      obtain ⟨g0, cur, rfl, hg0, hheap, hlc⟩ := lastG (cells := rgCells) (fun _ => rfl) HOw2.out
      have y1 := hlc 1 _ rfl
      clear hlc
      have HHp := Lib.hid hheap
      have hyo := jinv_ok HJ.out (fun r hr => (HD.out.2.2.1 r).1 (List.mem_of_mem_take hr)) HS.out (ya, yc) (by simp)
      unfold okB at hyo
      dsimp only at hyo y1
      have hlen : (ys ++ [(ya, yc)]).length = ys.length + 1 := by simp
      have hol2 : ys.length + 1 ≤ k := by omega
      have hl2 : (0 : Int) < (((ys ++ [(ya, yc)]).length : Nat) : Int) := by omega
      have hl1 : (((ys ++ [(ya, yc)]).length : Nat) : Int) - 1 = (ys.length : Int) := by omega
      have hl4 : (0 : Int) ≤ (ys.length : Int) := by omega
      have hl5 : (ys.length : Int) < (ys.length : Int) + 1 := by omega
      have hl6 : (0 : Int) < (ys.length : Int) + 1 := by omega
      have hw1 : IntKind.i64.wrap (yc + 1) = yc + 1 := IntWalk.i64_in _ (by omega)
      have hwl : IntKind.i64.wrap (ys.length : Int) = (ys.length : Int) := IntWalk.i64_in _ (by omega)
      have HF1 : Hid (ya ≤ xa) := Lib.hid (by
        obtain ⟨q, hq, e⟩ := HJ.out.first (ya, yc) (by simp)
        obtain ⟨i, hi, hiq⟩ := List.getElem_of_mem hq
        rw [List.length_take] at hi
        have hp := HD.out.2.1
        rw [List.pairwise_iff_getElem] at hp
        have h1 := hp i k (by omega) (by omega) (by omega)
        rw [List.getElem_take] at hiq
        rw [hiq] at h1
        have h2 := (List.getElem?_eq_some_iff.1 HX.out).2
        rw [h2] at h1
        dsimp only at e h1
        omega)
      by_cases hjn : xa ≤ yc + 1
      · have HJ2 : Hid (JInv (d.take (k + 1)) (ys ++ [(ya, max yc xc)])) := Lib.hid (by
          rw [HTk.out]
          exact HJ.out.join HF1.out hjn hxo.2.1)
        clear hlen hheap
        go_upto_region 7 with fail
        go_quiet (fail)
        have HXb3 : Hid (BoxIs (w2.drewN nq) xb #[.int .i64 xa, .int .i64 xc] rgty) := Lib.hid HXb.out
        have HOw3 : Hid (OwnG rgty 2 rgCells w1.heap.size (w2.drewN nq) (some ⟨g0, 0, none⟩) c2 (ys ++ [(ya, yc)])) := Lib.hid HOw2.out
        have HBw3 : Hid (Below w1.heap.size w1 (w2.drewN nq)) := Lib.hid (bDrewN HBw2.out nq)
        have y13 : (w2.drewN nq).cell? ⟨g0, ys.length * 2 + 1, none⟩ = some (.int .i64 yc) := y1
        have HH3 : Hid ((w2.drewN nq).heap[g0]? = some (.cells cur rgty (0, 0))) := Lib.hid HHp.out
        clear z0 z1 y1
        generalize w2.drewN nq = w3 at *
        have z0 := HXb3.out.cell (j := 0) rfl
        have z1 := HXb3.out.cell (j := 1) rfl
        have df := Lib.frozen_of_heap HH3.out (ys.length * 2 + 1)
        go_upto_region 8 with fail
        refine wp_region_seqU (fun W => W.cell? ⟨g0, ys.length * 2 + 1, none⟩ = some (.int .i64 yc) ∧ W.cell? ⟨xb, 1, none⟩ = some (.int .i64 xc)) 14 [(0, true), (1, true), (2, true), (3, true), (4, true), (5, true), (6, true), (7, true), (8, true), (9, true), (10, true), (12, true), (11, false), (13, true), (14, false)] (by as_aux_lemma => kernel_rfl) (by as_aux_lemma => kernel_rfl) (by as_aux_lemma => kernel_rfl) (by decide) (by as_aux_lemma => kernel_rfl) (by decide) ⟨y13, z1⟩ ?_
        intro OPS HO
        refine seqT_take (o := ⟨_, _, _, _, _, _⟩) (v := ?_) (by rw [HO.out]; rfl) (by rfl) ?_ ?_
        rotate_left 1
        · first | ((intro W _; go_simp) <;> with_reducible rfl) | (intro W hW; have s1 := hW.1; have s2 := hW.2; (go_simp <;> with_reducible rfl))
        try simp only [Act.put, List.setIfInBounds_toArray, List.set_cons_zero, List.set_cons_succ]
        refine seqT_take (o := ⟨_, _, _, _, _, _⟩) (v := ?_) (by rw [HO.out]; rfl) (by rfl) ?_ ?_
        rotate_left 1
        · first | ((intro W _; go_simp) <;> with_reducible rfl) | (intro W hW; have s1 := hW.1; have s2 := hW.2; (go_simp <;> with_reducible rfl))
        try simp only [Act.put, List.setIfInBounds_toArray, List.set_cons_zero, List.set_cons_succ]
        refine seqT_take (o := ⟨_, _, _, _, _, _⟩) (v := ?_) (by rw [HO.out]; rfl) (by rfl) ?_ ?_
        rotate_left 1
        · first | ((intro W _; go_simp) <;> with_reducible rfl) | (intro W hW; have s1 := hW.1; have s2 := hW.2; (go_simp <;> with_reducible rfl))
        try simp only [Act.put, List.setIfInBounds_toArray, List.set_cons_zero, List.set_cons_succ]
        refine seqT_take (o := ⟨_, _, _, _, _, _⟩) (v := ?_) (by rw [HO.out]; rfl) (by rfl) ?_ ?_
        rotate_left 1
        · first | ((intro W _; go_simp) <;> with_reducible rfl) | (intro W hW; have s1 := hW.1; have s2 := hW.2; (go_simp <;> with_reducible rfl))
        try simp only [Act.put, List.setIfInBounds_toArray, List.set_cons_zero, List.set_cons_succ]
        refine seqT_take (o := ⟨_, _, _, _, _, _⟩) (v := ?_) (by rw [HO.out]; rfl) (by rfl) ?_ ?_
        rotate_left 1
        · first | ((intro W _; go_simp) <;> with_reducible rfl) | (intro W hW; have s1 := hW.1; have s2 := hW.2; (go_simp <;> with_reducible rfl))
        try simp only [Act.put, List.setIfInBounds_toArray, List.set_cons_zero, List.set_cons_succ]
        refine seqT_take (o := ⟨_, _, _, _, _, _⟩) (v := ?_) (by rw [HO.out]; rfl) (by rfl) ?_ ?_
        rotate_left 1
        · first | ((intro W _; go_simp) <;> with_reducible rfl) | (intro W hW; have s1 := hW.1; have s2 := hW.2; (go_simp <;> with_reducible rfl))
        try simp only [Act.put, List.setIfInBounds_toArray, List.set_cons_zero, List.set_cons_succ]
        refine seqT_take (o := ⟨_, _, _, _, _, _⟩) (v := ?_) (by rw [HO.out]; rfl) (by rfl) ?_ ?_
        rotate_left 1
        · first | ((intro W _; go_simp) <;> with_reducible rfl) | (intro W hW; have s1 := hW.1; have s2 := hW.2; (go_simp <;> with_reducible rfl))
        try simp only [Act.put, List.setIfInBounds_toArray, List.set_cons_zero, List.set_cons_succ]
        refine seqT_take (o := ⟨_, _, _, _, _, _⟩) (v := ?_) (by rw [HO.out]; rfl) (by rfl) ?_ ?_
        rotate_left 1
        · first | ((intro W _; go_simp) <;> with_reducible rfl) | (intro W hW; have s1 := hW.1; have s2 := hW.2; (go_simp <;> with_reducible rfl))
        try simp only [Act.put, List.setIfInBounds_toArray, List.set_cons_zero, List.set_cons_succ]
        refine seqT_take (o := ⟨_, _, _, _, _, _⟩) (v := ?_) (by rw [HO.out]; rfl) (by rfl) ?_ ?_
        rotate_left 1
        · first | ((intro W _; go_simp) <;> with_reducible rfl) | (intro W hW; have s1 := hW.1; have s2 := hW.2; (go_simp <;> with_reducible rfl))
        try simp only [Act.put, List.setIfInBounds_toArray, List.set_cons_zero, List.set_cons_succ]
        refine seqT_take (o := ⟨_, _, _, _, _, _⟩) (v := ?_) (by rw [HO.out]; rfl) (by rfl) ?_ ?_
        rotate_left 1
        · first | ((intro W _; go_simp) <;> with_reducible rfl) | (intro W hW; have s1 := hW.1; have s2 := hW.2; (go_simp <;> with_reducible rfl))
        try simp only [Act.put, List.setIfInBounds_toArray, List.set_cons_zero, List.set_cons_succ]
        refine seqT_take (o := ⟨_, _, _, _, _, _⟩) (v := ?_) (by rw [HO.out]; rfl) (by rfl) ?_ ?_
        rotate_left 1
        · first | ((intro W _; go_simp) <;> with_reducible rfl) | (intro W hW; have s1 := hW.1; have s2 := hW.2; (go_simp <;> with_reducible rfl))
        try simp only [Act.put, List.setIfInBounds_toArray, List.set_cons_zero, List.set_cons_succ]
        refine seqT_take (o := ⟨_, _, _, _, _, _⟩) (v := ?_) (by rw [HO.out]; rfl) (by rfl) ?_ ?_
        rotate_left 1
        · first | ((intro W _; go_simp) <;> with_reducible rfl) | (intro W hW; have s1 := hW.1; have s2 := hW.2; (go_simp <;> with_reducible rfl))
        try simp only [Act.put, List.setIfInBounds_toArray, List.set_cons_zero, List.set_cons_succ]
        refine seqT_do (o := ⟨_, _, _, _, _, _⟩) (by rw [HO.out]; rfl) (by rfl) (fun K hK => ?_)
        go_wp2_with fail
        refine hK.out _ _ (fun _ => ⟨y13, z1⟩) ?_
        clear hK K
        try simp only [Act.put, List.setIfInBounds_toArray, List.set_cons_zero, List.set_cons_succ]
        refine seqT_take (o := ⟨_, _, _, _, _, _⟩) (v := ?_) (by rw [HO.out]; rfl) (by rfl) ?_ ?_
        rotate_left 1
        · first | ((intro W _; go_simp) <;> with_reducible rfl) | (intro W hW; have s1 := hW.1; have s2 := hW.2; (go_simp <;> with_reducible rfl))
        try simp only [Act.put, List.setIfInBounds_toArray, List.set_cons_zero, List.set_cons_succ]
        refine seqT_do (o := ⟨_, _, _, _, _, _⟩) (by rw [HO.out]; rfl) (by rfl) (fun K hK => ?_)
        go_wp2_with fail
        refine hK.out _ _ (fun h => absurd rfl h) ?_
        clear hK K
        try simp only [Act.put, List.setIfInBounds_toArray, List.set_cons_zero, List.set_cons_succ]
        refine seqT_done ?_
        have HO5 := Lib.hid (OwnG.setLast (p := (ya, yc)) (p' := (ya, max yc xc)) (j := 1) (v := .int .i64 (max yc xc)) (cells := rgCells) (fun _ => rfl) (by decide) rfl HOw3.out)
        have HB5 := Lib.hid (Below.setCell (p := ⟨g0, ys.length * 2 + 1, none⟩) HBw3.out hg0 (.int .i64 (max yc xc)))
        clear df z0 z1 y13
        generalize w3.setCell _ _ = w8 at *
        have HO6 : Hid (OwnG rgty 2 rgCells w1.heap.size w8.drew (some ⟨g0, 0, none⟩) c2 (ys ++ [(ya, max yc xc)])) := Lib.hid HO5.out
        have HB6 : Hid (Below w1.heap.size w1 w8.drew) := Lib.hid (bDrewN HB5.out 1)
        clear HO5 HB5
        generalize w8.drew = w9 at *
        go_wp2_with fail
        go_roundg gk'
        case measure => omega
        case rel => exact ⟨k + 1, some ⟨g0, 0, none⟩, c2, ys ++ [(ya, max yc xc)], by omega, by go_num, by first | rfl | (rw [List.length_append]; rfl) | (simp), by rw [List.length_append] at hol ⊢; exact Nat.le_succ_of_le hol, HO6, HJ2, HB6⟩
      · have HJ2 : Hid (JInv (d.take (k + 1)) ((ys ++ [(ya, yc)]) ++ [(xa, xc)])) := Lib.hid (by
          rw [HTk.out]
          exact HJ.out.add (fun y hy => by rw [List.getLast?_concat] at hy; injection hy with hy; rw [← hy]; dsimp only; omega) hxo.2.1)
        clear hlen hheap
        go_upto_region 7 with fail
        go_quiet (fail)
        have HXb3 : Hid (BoxIs (w2.drewN nq) xb #[.int .i64 xa, .int .i64 xc] rgty) := Lib.hid HXb.out
        have HOw3 : Hid (OwnG rgty 2 rgCells w1.heap.size (w2.drewN nq) (some ⟨g0, 0, none⟩) c2 (ys ++ [(ya, yc)])) := Lib.hid HOw2.out
        have HBw3 : Hid (Below w1.heap.size w1 (w2.drewN nq)) := Lib.hid (bDrewN HBw2.out nq)
        clear z0 z1
        generalize w2.drewN nq = w3 at *
        have z0 := HXb3.out.cell (j := 0) rfl
        have z1 := HXb3.out.cell (j := 1) rfl
        have HB4 := Lib.hid (bAlloc (Below.refl w3.heap.size w3) (.cells #[.int .i64 xa, .int .i64 xc] rgty))
        have HX4 := Lib.hid (BoxIs.new w3 #[.int .i64 xa, .int .i64 xc] rgty)
        have HO4 := Lib.hid (HOw3.out.under HB4.out)
        have hz4 : w1.heap.size ≤ (w3.alloc (.cells #[.int .i64 xa, .int .i64 xc] rgty)).heap.size := Nat.le_trans HBw3.out.size HB4.out.size
        go_wp2_with (at_builtin; refine wpl_app elemRg (by decide) rfl (fun _ => rfl) rgOne (by decide) hz4 HO4.out (by omega) (xa, xc) HX4.out rfl (.tmp 45) (.tmp 47) rfl (by first | rfl | (rw [List.length_append]; rfl)) rfl ?_)
        intro g cap' w' hown hgr hat hlt'
        have HO5 : Hid (OwnG rgty 2 rgCells w1.heap.size w' (some ⟨g, 0, none⟩) cap' ((ys ++ [(ya, yc)]) ++ [(xa, xc)])) := Lib.hid (by first | exact hown | (rw [List.append_assoc]; exact hown))
        have HB5 : Hid (Below w1.heap.size w1 w') := Lib.hid ((bTrans HBw3.out HB4.out).grown hgr hz4 (fun q hq => (HO4.out.base q hq).1))
        clear hown hgr hat hlt' z0 z1
        go_wp2_with fail
        go_roundg gk'
        case measure => omega
        case rel => exact ⟨k + 1, some ⟨g, 0, none⟩, cap', (ys ++ [(ya, yc)]) ++ [(xa, xc)], by omega, by go_num, by first | rfl | (rw [List.length_append]; rfl) | (simp), by rw [List.length_append]; exact Nat.succ_le_succ hol, HO5, HJ2, HB5⟩
end Go.Proofs.YtfenmeacimfiaaaGreatDoor
namespace Go.Proofs.YtfenmeacimfiaaaGreatDoor
open Go.RowKit Wh.G

theorem BoxIs.low {w w' : World} {b z : Nat} {vs : Array Value} {t : TypeId} (h : BoxIs w b vs t) (hb : Below z w w') (hz : b < z) : BoxIs w' b vs t := (hb.block b hz).trans h
theorem Side.low {b z : Nat} {w W W' : World} (h : Side b w W) (k : Below z W W') (hz : w.heap.size ≤ z) : Side b w W' :=
  ⟨k.os.trans h.os, k.tape.trans h.tape, k.output.trans h.output, Nat.le_trans h.size k.size, fun i hi hb => (k.block i (by omega)).trans (h.block i hi hb)⟩
abbrev pSet (neg : Bool) (a : Option Addr) (l c : Nat) : Array Value := #[.int .i64 5, .string ⟨#[]⟩, .bool neg, .slice a l c, .slice none 0 0]
/-- A set under construction. -/
structure SetAt (b rb pb e : Nat) (T : ByteArray) (w W : World) (j : Nat) (neg : Bool) (a : Option Addr) (N cap : Nat) (acc : List (Int × Int)) : Prop where
  rd : RdAt W b T j e
  side : Side b w W
  res : BoxIs W rb pZero party
  part : BoxIs W pb (pSet neg a N cap) party
  own : OwnG rgty 2 rgCells (pb + 1) W a cap acc
  len : acc.length = N
  ok : ∀ r ∈ acc, okB r
theorem SetAt.drew {b rb pb e : Nat} {T : ByteArray} {w W : World} {j : Nat} {neg : Bool} {a : Option Addr} {N cap : Nat} {acc : List (Int × Int)} (h : SetAt b rb pb e T w W j neg a N cap acc) (n : Nat) : SetAt b rb pb e T w (W.drewN n) j neg a N cap acc :=
  ⟨h.rd, h.side.drew n, h.res, h.part, h.own, h.len, h.ok⟩
theorem SetAt.call {b rb pb e : Nat} {T : ByteArray} {w W W' : World} {j j' : Nat} {neg : Bool} {a : Option Addr} {N cap : Nat} {acc : List (Int × Int)} (h : SetAt b rb pb e T w W j neg a N cap acc) (hb : b < rb) (hp : rb < pb) (hs : Side b W W') (hr : RdAt W' b T j' e) : SetAt b rb pb e T w W' j' neg a N cap acc :=
  ⟨hr, h.side.trans hs, h.res.side hs (by omega), h.part.side hs (by omega), h.own.side hs (by omega), h.len, h.ok⟩
theorem SetAt.put {b rb pb e : Nat} {T : ByteArray} {w W W' : World} {j : Nat} {neg : Bool} {a a' : Option Addr} {N N' cap cap' : Nat} {acc acc' : List (Int × Int)} (h : SetAt b rb pb e T w W j neg a N cap acc) (hb : b < rb) (hp : rb < pb) (hw : w.heap.size ≤ pb) (hB : Below (pb + 1) W W') (hO : OwnG rgty 2 rgCells (pb + 1) W' a' cap' acc') (hN : acc'.length = N') (hok : ∀ r ∈ acc', okB r) :
    SetAt b rb pb e T w (W'.setCell ⟨pb, 3, none⟩ (.slice a' N' cap')) j neg a' N' cap' acc' := by
  have hs := (Side.refl pb W').set 3 (.slice a' N' cap')
  exact ⟨BoxIs.side (BoxIs.low h.rd hB (by omega)) hs (by omega), (h.side.low hB (by omega)).new hs hw, BoxIs.side (BoxIs.low h.res hB (by omega)) hs (by omega), (BoxIs.low h.part hB (by omega)).put 3 _, hO.side hs (by omega), hN, hok⟩
def setP (n : Nat) (neg : Bool) (a : Option Addr) (cap : Nat) (acc : List (Int × Int)) : P (n + 1) := (⟨5, ⟨#[]⟩, neg, ⟨a, cap, acc⟩, ⟨none, 0, []⟩⟩ : PartOf (P n))
theorem set_made {b rb pb e : Nat} {T : ByteArray} {w W : World} {j : Nat} {neg : Bool} {a : Option Addr} {N cap : Nat} {acc : List (Int × Int)} (n : Nat) (h : SetAt b rb pb e T w W j neg a N cap acc) (_hw : w.heap.size ≤ pb) : MadeP (n + 1) (pb + 1) W (setP n neg a cap acc) := by
  refine ⟨⟨⟨by show (0 : Nat) ≤ maxLen; exact Nat.zero_le _, by show (-9223372036854775808 : Int) ≤ 5; decide, by show (5 : Int) ≤ 9223372036854775807; decide⟩, ⟨h.own.holds (fun _ => rfl), ?_⟩, fun r hr => ?_, ⟨.inl rfl, Nat.le_refl _, Nat.zero_le _⟩, fun s hs => (by cases hs)⟩, .inr (.inr (.inl ⟨rfl, rfl, rfl⟩)), ?_⟩
  · rcases h.own.2 with ⟨hv, h0⟩ | ⟨g, c, cur, hv, _, _, h3, h4, _⟩
    · injection hv with _ e2 e3
      exact ⟨by show acc.length ≤ cap; omega, by show cap ≤ maxLen; rw [e3]; exact Nat.zero_le _⟩
    · injection hv with _ e2 e3
      exact ⟨by show acc.length ≤ cap; omega, by show cap ≤ maxLen; omega⟩
  · have := h.ok r hr
    unfold okB at this
    omega
  · rintro k (⟨o, t, ha⟩ | ⟨o, t, ha⟩ | ⟨q, hq, _⟩)
    · have ha : a = some ⟨k, o, t⟩ := ha
      have := h.own.base k (by rw [ha]; rfl)
      exact ⟨this.1, this.2.1⟩
    · cases ha
    · cases hq
theorem posOf_cons {T : ByteArray} {k e : Nat} (hk : k ≤ e) (h1 : 1 ≤ k) (he : e ≤ T.size) (x : UInt8) : posOf T e (x :: left T k e) = (k : Int) - 1 := by
  have hl := left_len (k := k) he
  unfold posOf
  rw [if_neg (by simp), List.length_cons, hl]
  omega
theorem left_head {T : ByteArray} {k e : Nat} {c : UInt8} (h : k < e) (he : e ≤ T.size) (hc : T[k]'(by omega) = c) : (left T k e).head? = some c := by
  rw [left_cons h he c hc]
  rfl
theorem left_tail {T : ByteArray} {k e : Nat} (h : k < e) (he : e ≤ T.size) : (left T k e).tail = left T (k + 1) e := by
  rw [left_cons h he _ rfl]
  rfl

set_option maxHeartbeats 4000000 in
set_option maxRecDepth 100000 in
theorem gset_any : SetOk := by
  intro n b T k e w h hk he hs hE
  have H := Lib.hid h
  have hbl := h.lt
  obtain ⟨Res, hRes⟩ : ∃ Res, setR (left T (k + 1) e) = Res := ⟨_, rfl⟩
  rw [hRes]
  have HRes := Lib.hid hRes
  clear hRes
  have HF := Lib.hid (fun n W => gfail_any b n W)
  have HB0 := Lib.hid (bAlloc (Below.refl w.heap.size w) (.cells pZero party))
  have HZ := Lib.hid (BoxIs.new w pZero party)
  clear h hE
  go_enter Tryz.func198, Tryz.ntmps198
  go_upto_region 1 with fail
  obtain ⟨rb, hrb0⟩ : ∃ rb, rb = w.heap.size := ⟨_, rfl⟩
  rw [← hrb0]
  rw [← hrb0] at HZ
  have hrb : b < rb := by omega
  have hrz : w.heap.size ≤ rb := by omega
  clear hrb0
  generalize w.alloc _ = w1 at *
  have HR1 : Hid (RdAt w1 b T k e) := Lib.hid (BoxIs.under H.out HB0.out)
  have HS1 : Hid (Side b w w1) := Lib.hid (Side.of HB0.out)
  have x1 := HR1.out.cell (j := 1) rfl
  have f1 := Lib.frozen_of_heap HR1.out 1
  have HR2 := Lib.hid (HR1.out.step (k + 1))
  have HSs := Lib.hid ((Side.refl b w1).set 1 (.int .i64 ((k + 1 : Nat) : Int)))
  go_upto_region 2 with fail
  have HS2 := Lib.hid (HS1.out.trans HSs.out)
  have HZ2 := Lib.hid (BoxIs.side HZ.out HSs.out (by omega))
  clear x1 f1 HR1 HS1 HZ HB0 H HSs
  have e1 : (((k + 1 : Nat) : Int)) = (k : Int) + 1 := rfl
  rw [e1] at HR2 HS2 HZ2
  clear e1
  generalize w1.setCell _ _ = w2 at *
  obtain ⟨pb, hpb0⟩ : ∃ pb, pb = w2.heap.size := ⟨_, rfl⟩
  have hrp : rb < pb := by rw [hpb0]; exact HZ2.out.lt
  have hwp : w.heap.size ≤ pb := by omega
  have HB3 := Lib.hid (bAlloc (Below.refl w2.heap.size w2) (.cells (pSet false none 0 0) party))
  have HP3 := Lib.hid (BoxIs.new w2 (pSet false none 0 0) party)
  have HA3 : Hid (SetAt b rb pb e T w (w2.alloc (.cells (pSet false none 0 0) party)) (k + 1) false none 0 0 []) := Lib.hid ⟨BoxIs.under HR2.out HB3.out, HS2.out.trans (Side.of HB3.out), BoxIs.under HZ2.out HB3.out, by rw [hpb0]; exact HP3.out, OwnG.nil _ _ _ _ _, rfl, fun r hr => by cases hr⟩
  clear HB3 HP3 HR2 HS2 HZ2
  go_upto_region 3 with fail
  rw [← hpb0]
  clear hpb0
  generalize w2.alloc _ = w3 at *
  obtain ⟨neg, hneg⟩ : ∃ neg, neg = decide ((left T (k + 1) e).head? = some 94) := ⟨_, rfl⟩
  go_cut [27] (fun s27 wx => s27 = .bool neg ∧ Hid (SetAt b rb pb e T w wx (k + 1) false none 0 0 []))
  case first =>
    have x0 := HA3.out.rd.cell (j := 0) rfl
    have x1 := HA3.out.rd.cell (j := 1) rfl
    by_cases hlt : k + 1 < e
    · obtain ⟨c, hc⟩ : ∃ c : UInt8, T[k + 1]'(by omega) = c := ⟨_, rfl⟩
      have hh := left_head hlt he hc
      have hk0 : (0 : Int) ≤ (k : Int) + 1 := by omega
      have hk1 : (k : Int) + 1 < (T.size : Int) := by omega
      have hd : decide (k + 1 < e) = true := by simpa using hlt
      have HM := Lib.hid (fun n => gmore_any b T (k + 1) e (w3.drewN n) (HA3.out.rd.drew n))
      simp only [hd] at HM
      have e94 := u8_eq c 94
      change ((c.toNat : Int) == 94) = _ at e94
      rw [hh] at hneg
      cases h94 : (c == 94)
      · have hn : neg = false := by rw [hneg]; simpa using h94
        rw [h94] at e94
        have HN := Lib.hid hn
        clear hn hneg hh h94
        go_quiet ((go_at_call 158; exact Calls.quiet_of (HM.out _)))
        go_wp2_with fail
        go_meet
        exact ⟨by rw [HN.out], Lib.hid (HA3.out.drew nq)⟩
      · have hn : neg = true := by rw [hneg]; simpa using h94
        rw [h94] at e94
        have HN := Lib.hid hn
        clear hn hneg hh h94
        go_quiet ((go_at_call 158; exact Calls.quiet_of (HM.out _)))
        go_wp2_with fail
        go_meet
        exact ⟨by rw [HN.out], Lib.hid (HA3.out.drew nq)⟩
    · have hd : decide (k + 1 < e) = false := by simpa using hlt
      have HM := Lib.hid (fun n => gmore_any b T (k + 1) e (w3.drewN n) (HA3.out.rd.drew n))
      simp only [hd] at HM
      have hn : neg = false := by rw [hneg, left_nil (by omega)]; rfl
      have HN := Lib.hid hn
      clear hn hneg
      go_quiet ((go_at_call 158; exact Calls.quiet_of (HM.out _)))
      go_wp2_with fail
      go_meet
      exact ⟨by rw [HN.out], Lib.hid (HA3.out.drew nq)⟩
  case rest =>
    obtain ⟨rfl, HA4⟩ := hcut
    clear HA3
    have HNg := Lib.hid hneg
    clear hneg
    go_upto_if 27 with fail
    go_cut [] (fun wx => ∃ k1, k1 ≤ e ∧ k < k1 ∧ Hid (SetAt b rb pb e T w wx k1 neg none 0 0 []) ∧ Hid ((SG [] (left T k1 e)).bind (fun x q => Rd.ok (.set neg (canonOf x)) q) = Res))
    case first =>
      cases neg
      · have hh : ¬ (left T (k + 1) e).head? = some 94 := of_decide_eq_false HNg.out.symm
        have HRes2 := Lib.hid ((setR_neg hh).symm.trans HRes.out)
        clear hh
        go_wp2_with fail
        go_meet
        exact ⟨k + 1, hk, Nat.lt_succ_self _, HA4, HRes2⟩
      · have hh : (left T (k + 1) e).head? = some 94 := of_decide_eq_true HNg.out.symm
        have hlt : k + 1 < e := by
          refine Nat.lt_of_not_le fun h => ?_
          rw [left_nil h] at hh
          cases hh
        have HRes2 := Lib.hid ((setR_pos hh).symm.trans HRes.out)
        rw [left_tail hlt he] at HRes2
        have q2 := HA4.out.part.cell (j := 2) rfl
        have q2f := Lib.frozen_of_heap HA4.out.part 2
        go_upto_region 5 with fail
        have HA5 : Hid (SetAt b rb pb e T w (wc.setCell ⟨pb, 2, none⟩ (.bool true)) (k + 1) true none 0 0 []) := Lib.hid (by
          have hsd := (Side.refl pb wc).set 2 (.bool true)
          exact ⟨BoxIs.side HA4.out.rd hsd (by omega), HA4.out.side.new hsd hwp, BoxIs.side HA4.out.res hsd (by omega), HA4.out.part.put 2 _, OwnG.nil _ _ _ _ _, rfl, fun r hr => by cases hr⟩)
        clear q2 q2f hh HA4 HRes
        generalize wc.setCell _ _ = w5 at *
        have x1 := HA5.out.rd.cell (j := 1) rfl
        have f1 := Lib.frozen_of_heap HA5.out.rd 1
        have HA6 : Hid (SetAt b rb pb e T w (w5.setCell ⟨b, 1, none⟩ (.int .i64 ((k : Int) + 1 + 1))) (k + 1 + 1) true none 0 0 []) := Lib.hid (HA5.out.call hrb hrp ((Side.refl b w5).set 1 _) (HA5.out.rd.step (k + 1 + 1)))
        clear HA5
        go_wp2_with fail
        go_meet
        exact ⟨k + 1 + 1, hlt, by omega, HA6, HRes2⟩
    case rest =>
      obtain ⟨k1, hk1, hk1k, HA5, HRs⟩ := hcut
      clear HRes HA4 HNg
      go_wp2_with fail
      go_loopg [4] (e - k1) (fun g s4 wx => ∃ (j : Nat) (a : Option Addr) (cap N : Nat) (acc : List (Int × Int)), j + g = e ∧ N ≤ j ∧ k < j ∧ j ≤ e ∧ Hid (SetAt b rb pb e T w wx j neg a N cap acc) ∧ Hid ((SG acc (left T j e)).bind (fun x q => Rd.ok (.set neg (canonOf x)) q) = Res))
      case atStart => exact ⟨k1, none, 0, 0, [], by omega, by omega, hk1k, hk1, HA5, HRs⟩
      case round =>
        clear HA5 HRs
        obtain ⟨j, a, cap, N, acc, hg, hNj, hkj, hje, HA, HRs⟩ := hrel
        have HLe := Lib.hid HA.out.len
        obtain ⟨cnd, hcnd⟩ : ∃ c : Bool, c = decide (acc ≠ [] ∧ (left T j e).head? = some 93) := ⟨_, rfl⟩
        have HCn := Lib.hid hcnd
        clear hcnd
        go_upto_region 6 with fail
        go_cut [56] (fun s56 wx => s56 = .bool (!cnd) ∧ Hid (SetAt b rb pb e T w wx j neg a N cap acc))
        case first =>
          have p3 := HA.out.part.cell (j := 3) rfl
          have x0 := HA.out.rd.cell (j := 0) rfl
          have x1 := HA.out.rd.cell (j := 1) rfl
          by_cases hN0 : N = 0
          · subst hN0
            have hn : cnd = false := by
              rw [HCn.out, List.eq_nil_of_length_eq_zero HLe.out]
              rfl
            have HN := Lib.hid hn
            clear hn
            go_quiet (fail)
            go_wp2_with fail
            go_meet
            exact ⟨by rw [HN.out]; rfl, Lib.hid (HA.out.drew nq)⟩
          · have hz : ((N : Int) == 0) = false := by simpa using hN0
            have HNe : Hid (acc ≠ []) := Lib.hid (fun h => hN0 (by rw [← HLe.out, h]; rfl))
            by_cases hlt : j < e
            · obtain ⟨c, hc⟩ : ∃ c : UInt8, T[j]'(by omega) = c := ⟨_, rfl⟩
              have hh := left_head hlt he hc
              have hk0 : (0 : Int) ≤ (j : Int) := by omega
              have hk1 : (j : Int) < (T.size : Int) := by omega
              have hd : decide (j < e) = true := by simpa using hlt
              have HM := Lib.hid (fun n => gmore_any b T j e (wr.drewN n) (HA.out.rd.drew n))
              simp only [hd] at HM
              have e93 := u8_eq c 93
              change ((c.toNat : Int) == 93) = _ at e93
              have hcnd := HCn.out
              rw [hh] at hcnd
              cases h93 : (c == 93)
              · have hn : cnd = false := by
                  rw [hcnd, decide_eq_false (fun h => by have := h.2; simp at this; simp [this] at h93)]
                rw [h93] at e93
                have HN := Lib.hid hn
                clear hn hcnd hh h93
                go_quiet ((go_at_call 158; exact Calls.quiet_of (HM.out _)))
                go_wp2_with fail
                go_meet
                exact ⟨by rw [HN.out]; exact congrArg (fun x => Value.bool (!x)) e93, Lib.hid (HA.out.drew nq)⟩
              · have hn : cnd = true := by
                  rw [hcnd, decide_eq_true ⟨HNe.out, by simpa using h93⟩]
                rw [h93] at e93
                have HN := Lib.hid hn
                clear hn hcnd hh h93
                go_quiet ((go_at_call 158; exact Calls.quiet_of (HM.out _)))
                go_wp2_with fail
                go_meet
                exact ⟨by rw [HN.out]; exact congrArg (fun x => Value.bool (!x)) e93, Lib.hid (HA.out.drew nq)⟩
            · have hd : decide (j < e) = false := by simpa using hlt
              have HM := Lib.hid (fun n => gmore_any b T j e (wr.drewN n) (HA.out.rd.drew n))
              simp only [hd] at HM
              have hn : cnd = false := by
                rw [HCn.out, left_nil (by omega)]
                exact decide_eq_false (fun h => by cases h.2)
              have HN := Lib.hid hn
              clear hn
              go_quiet ((go_at_call 158; exact Calls.quiet_of (HM.out _)))
              go_wp2_with fail
              go_meet
              exact ⟨by rw [HN.out]; rfl, Lib.hid (HA.out.drew nq)⟩
        case rest =>
          obtain ⟨rfl, HA2⟩ := hcut
          clear HA
          cases cnd
          · -- one range more
            have hcn : ¬ (acc ≠ [] ∧ (left T j e).head? = some 93) := of_decide_eq_false HCn.out.symm
            have HRs2 : Hid (((rng (left T j e)).bind (fun x q => SG (acc ++ [x]) q)).bind (fun x q => Rd.ok (.set neg (canonOf x)) q) = Res) := Lib.hid (by
              have h1 := HRs.out
              rw [SG_unf, if_neg hcn] at h1
              exact h1)
            clear hcn HCn HRs
            have HBd := Lib.hid (gbound_any b T j e wc HA2.out.rd hje he (by omega))
            cases hG : Wh.G.bnd (left T j e) with
            | bad r =>
              rw [hG] at HBd
              have HRs3 : Hid (Rd.bad r = Res) := Lib.hid (by
                have h1 := HRs2.out
                rw [rng_bind, hG] at h1
                exact h1)
              clear hG HRs2
              go_wp2_with (go_at_call 224; refine HBd.out.mono ?_; rintro E w3 ⟨rfl, hS3⟩)
              refine ⟨rfl, ?_⟩
              rw [← HRs3.out]
              exact ⟨rfl, HA2.out.side.trans hS3⟩
            | ok c1 q =>
              rw [hG] at HBd
              have HRs3 : Hid (((rng2 c1 q).bind (fun x q => SG (acc ++ [x]) q)).bind (fun x q => Rd.ok (.set neg (canonOf x)) q) = Res) := Lib.hid (by
                have h1 := HRs2.out
                rw [rng_bind, hG] at h1
                exact h1)
              have HQl := Lib.hid (Wh.G.bnd_len hG)
              clear hG HRs2
              go_upto_region 9 with (go_at_call 224; refine HBd.out.mono ?_; rintro E w3 ⟨v3, j3, rfl, rfl, hR3, hj3, hl3, hS3⟩; have HL3 := Lib.hid hl3; have HA3 := Lib.hid (HA2.out.call hrb hrp hS3 hR3); clear hR3 hl3 hS3; have hm10 : (0 : Int) ≤ (c1.toNat : Int) ∧ (c1.toNat : Int) ≤ 255 := (by (have := c1.toNat_lt; omega)); obtain ⟨m1, hm1⟩ : ∃ m : Int, (c1.toNat : Int) = m := ⟨_, rfl⟩; have HM1 := Lib.hid hm1; rw [hm1] at hm10; rw [hm1]; clear hm1)
              have hj3j : j < j3 := by
                have h1 := left_len (k := j) he
                have h2 := left_len (k := j3) he
                have h3 := HQl.out
                rw [← HL3.out] at h3
                omega
              obtain ⟨hy, hhy⟩ : ∃ c : Bool, c = decide ((left T j3 e).head? = some 45) := ⟨_, rfl⟩
              have HHy := Lib.hid hhy
              clear hhy
              go_cut [74] (fun s74 wx => s74 = .bool hy ∧ Hid (SetAt b rb pb e T w wx j3 neg a N cap acc))
              case first =>
                have x0 := HA3.out.rd.cell (j := 0) rfl
                have x1 := HA3.out.rd.cell (j := 1) rfl
                by_cases hlt : j3 < e
                · obtain ⟨c, hc⟩ : ∃ c : UInt8, T[j3]'(by omega) = c := ⟨_, rfl⟩
                  have hh := left_head hlt he hc
                  have hk0 : (0 : Int) ≤ (j3 : Int) := by omega
                  have hk1 : (j3 : Int) < (T.size : Int) := by omega
                  have hd : decide (j3 < e) = true := by simpa using hlt
                  have HM := Lib.hid (fun n => gmore_any b T j3 e (w3.drewN n) (HA3.out.rd.drew n))
                  simp only [hd] at HM
                  have e45 := u8_eq c 45
                  change ((c.toNat : Int) == 45) = _ at e45
                  have hcnd := HHy.out
                  rw [hh] at hcnd
                  cases h45 : (c == 45)
                  · have hn : hy = false := by
                      rw [hcnd, decide_eq_false (fun h => by simp at h; simp [h] at h45)]
                    rw [h45] at e45
                    have HN := Lib.hid hn
                    clear hn hcnd hh h45
                    go_quiet ((go_at_call 158; exact Calls.quiet_of (HM.out _)))
                    go_wp2_with fail
                    go_meet
                    exact ⟨by rw [HN.out], Lib.hid (HA3.out.drew nq)⟩
                  · have hn : hy = true := by
                      rw [hcnd, decide_eq_true (by simpa using h45)]
                    rw [h45] at e45
                    have HN := Lib.hid hn
                    clear hn hcnd hh h45
                    go_quiet ((go_at_call 158; exact Calls.quiet_of (HM.out _)))
                    go_wp2_with fail
                    go_meet
                    exact ⟨by rw [HN.out], Lib.hid (HA3.out.drew nq)⟩
                · have hd : decide (j3 < e) = false := by simpa using hlt
                  have HM := Lib.hid (fun n => gmore_any b T j3 e (w3.drewN n) (HA3.out.rd.drew n))
                  simp only [hd] at HM
                  have hn : hy = false := by
                    rw [HHy.out, left_nil (by omega)]
                    rfl
                  have HN := Lib.hid hn
                  clear hn
                  go_quiet ((go_at_call 158; exact Calls.quiet_of (HM.out _)))
                  go_wp2_with fail
                  go_meet
                  exact ⟨by rw [HN.out], Lib.hid (HA3.out.drew nq)⟩
              case rest =>
                obtain ⟨rfl, HA4⟩ := hcut
                clear HA2 HA3 HBd
                go_upto_if 74 with fail
                go_cut [5] (fun s5 wx => ∃ (m2 : Int) (j5 : Nat), s5 = .int .i64 m2 ∧ j3 ≤ j5 ∧ j5 ≤ e ∧ m1 ≤ m2 ∧ m2 ≤ 255 ∧ Hid (SetAt b rb pb e T w wx j5 neg a N cap acc) ∧ Hid (rng2 c1 q = .ok (m1, m2) (left T j5 e)))
                case first =>
                  cases hy
                  · have hh : ¬ (left T j3 e).head? = some 45 := of_decide_eq_false HHy.out.symm
                    have HRg : Hid (rng2 c1 q = .ok (m1, m1) (left T j3 e)) := Lib.hid (by
                      rw [← HL3.out, rng2_other _ hh, HM1.out])
                    clear hh
                    go_wp2_with fail
                    go_meet
                    exact ⟨m1, j3, rfl, Nat.le_refl _, hj3, Int.le_refl _, hm10.2, HA4, HRg⟩
                  · have hh : (left T j3 e).head? = some 45 := of_decide_eq_true HHy.out.symm
                    have hlt : j3 < e := by
                      refine Nat.lt_of_not_le fun h => ?_
                      rw [left_nil h] at hh
                      cases hh
                    have HRg : Hid (rng2 c1 q = rng3 c1 (left T (j3 + 1) e)) := Lib.hid (by
                      obtain ⟨c, hc⟩ : ∃ c : UInt8, T[j3]'(by omega) = c := ⟨_, rfl⟩
                      rw [left_head hlt he hc] at hh
                      injection hh with hh
                      rw [← HL3.out, left_cons hlt he c hc, hh, rng2_hyphen])
                    clear hh
                    have x1 := HA4.out.rd.cell (j := 1) rfl
                    have f1 := Lib.frozen_of_heap HA4.out.rd 1
                    have HA5 : Hid (SetAt b rb pb e T w (wc.setCell ⟨b, 1, none⟩ (.int .i64 ((j3 : Int) + 1))) (j3 + 1) neg a N cap acc) := Lib.hid (HA4.out.call hrb hrp ((Side.refl b wc).set 1 _) (HA4.out.rd.step (j3 + 1)))
                    go_upto_region 11 with fail
                    clear x1 f1 HA4
                    generalize wc.setCell _ _ = w5 at *
                    have HBd5 := Lib.hid (gbound_any b T (j3 + 1) e w5 HA5.out.rd hlt he (by omega))
                    cases hG : Wh.G.bnd (left T (j3 + 1) e) with
                    | bad r =>
                      rw [hG] at HBd5
                      have HRs4 : Hid (Rd.bad r = Res) := Lib.hid (by
                        have h1 := HRs3.out
                        rw [HRg.out] at h1
                        unfold rng3 at h1
                        rw [hG] at h1
                        exact h1)
                      clear hG HRs3
                      go_wp2_with (go_at_call 224; refine HBd5.out.mono ?_; rintro E w6 ⟨rfl, hS6⟩)
                      refine ⟨rfl, ?_⟩
                      rw [← HRs4.out]
                      exact ⟨rfl, HA5.out.side.trans hS6⟩
                    | ok c2 q2 =>
                      rw [hG] at HBd5
                      have HQ2 : Hid (rng3 c1 (left T (j3 + 1) e) = if c2.toNat < c1.toNat then .bad (c2 :: q2) else .ok (c1.toNat, c2.toNat) q2) := Lib.hid (by
                        unfold rng3
                        rw [hG]
                        rfl)
                      have HQ3 := Lib.hid (Wh.G.bnd_len hG)
                      clear hG
                      go_upto_region 12 with (go_at_call 224; refine HBd5.out.mono ?_; rintro E w6 ⟨v6, j6, rfl, rfl, hR6, hj6, hl6, hS6⟩; have HL6 := Lib.hid hl6; have HA6 := Lib.hid (HA5.out.call hrb hrp hS6 hR6); clear hR6 hl6 hS6; have hm20 : (0 : Int) ≤ (c2.toNat : Int) ∧ (c2.toNat : Int) ≤ 255 := (by (have := c2.toNat_lt; omega)); obtain ⟨m2, hm2⟩ : ∃ m : Int, (c2.toNat : Int) = m := ⟨_, rfl⟩; have HM2 := Lib.hid hm2; rw [hm2] at hm20; rw [hm2]; clear hm2)
                      have hj6j : j3 < j6 := by
                        have h1 := left_len (k := j3 + 1) he
                        have h2 := left_len (k := j6) he
                        have h3 := HQ3.out
                        rw [← HL6.out] at h3
                        omega
                      by_cases hlm : m2 < m1
                      · have HRs4 : Hid (Rd.bad (c2 :: q2) = Res) := Lib.hid (by
                          have h1 := HRs3.out
                          rw [HRg.out, HQ2.out, if_pos (by have := HM1.out; have := HM2.out; omega)] at h1
                          exact h1)
                        have HPo := Lib.hid (posOf_cons hj6 (by omega) he c2)
                        rw [HL6.out] at HPo
                        have x1 := HA6.out.rd.cell (j := 1) rfl
                        go_wp2_with (go_at_call 109; refine (HF.out _ _).mono ?_; rintro E wz ⟨rfl, hwz⟩; subst wz)
                        refine ⟨rfl, ?_⟩
                        rw [← HRs4.out]
                        exact ⟨by rw [HPo.out], HA6.out.side⟩
                      · have HRg2 : Hid (rng2 c1 q = .ok (m1, m2) (left T j6 e)) := Lib.hid (by
                          rw [HRg.out, HQ2.out, if_neg (by have := HM1.out; have := HM2.out; omega), HM1.out, HM2.out, HL6.out])
                        go_wp2_with fail
                        go_meet
                        exact ⟨m2, j6, rfl, by omega, hj6, by omega, hm20.2, HA6, HRg2⟩
                case rest =>
                  obtain ⟨m2, j5, rfl, hj35, hj5e, hm12, hm2, HA5, HRg⟩ := hcut
                  clear HA4 HHy
                  have HRs5 : Hid ((SG (acc ++ [(m1, m2)]) (left T j5 e)).bind (fun x q => Rd.ok (.set neg (canonOf x)) q) = Res) := Lib.hid (by
                    have h1 := HRs3.out
                    rw [HRg.out] at h1
                    exact h1)
                  have q3 := HA5.out.part.cell (j := 3) rfl
                  have HB6 := Lib.hid (bAlloc (Below.refl wc.heap.size wc) (.cells #[.int .i64 m1, .int .i64 m2] rgty))
                  have HX6 := Lib.hid (BoxIs.new wc #[.int .i64 m1, .int .i64 m2] rgty)
                  have HO6 := Lib.hid (HA5.out.own.under HB6.out)
                  have hz6 : pb + 1 ≤ (wc.alloc (.cells #[.int .i64 m1, .int .i64 m2] rgty)).heap.size := Nat.le_trans HA5.out.part.lt HB6.out.size
                  have hbz : pb + 1 ≤ wc.heap.size := HA5.out.part.lt
                  go_wp2_with (at_builtin; refine wpl_app elemRg (by decide) rfl (fun _ => rfl) rgOne (by decide) hz6 HO6.out (by rw [HLe.out]; omega) (m1, m2) HX6.out rfl (.tmp 96) (.tmp 100) rfl (by rw [HLe.out]; rfl) rfl ?_)
                  intro g cap' w' hown hgr hat hlt'
                  have HB7 : Hid (Below (pb + 1) wc w') := Lib.hid ((HB6.out.mono hbz).grown hgr hz6 (fun q hq => (HO6.out.base q hq).1))
                  have HO7 := Lib.hid hown
                  have HP7 := Lib.hid (BoxIs.low HA5.out.part HB7.out (Nat.lt_succ_self _))
                  have f7 := Lib.frozen_of_heap HP7.out 3
                  have q7 := HP7.out.cell (j := 3) rfl
                  have HA7 : Hid (SetAt b rb pb e T w (w'.setCell ⟨pb, 3, none⟩ (.slice (some ⟨g, 0, none⟩) (N + 1) cap')) j5 neg (some ⟨g, 0, none⟩) (N + 1) cap' (acc ++ [(m1, m2)])) := Lib.hid (HA5.out.put hrb hrp hwp HB7.out HO7.out (by rw [List.length_append, HLe.out]; rfl) (fun r hr => by
                    rcases List.mem_append.1 hr with hr | hr
                    · exact HA5.out.ok r hr
                    · rw [List.mem_singleton.1 hr]
                      exact ⟨hm10.1, hm12, hm2⟩))
                  clear hown hgr hat hlt' q3
                  rw [HLe.out]
                  go_wp2_with fail
                  go_roundg (e - j5)
                  case measure => omega
                  case rel => exact ⟨j5, some ⟨g, 0, none⟩, cap', N + 1, acc ++ [(m1, m2)], by omega, by omega, by omega, hj5e, HA7, HRs5⟩
          · -- the end
            have hcn : acc ≠ [] ∧ (left T j e).head? = some 93 := of_decide_eq_true HCn.out.symm
            have hlt : j < e := by
              refine Nat.lt_of_not_le fun h => ?_
              rw [left_nil h] at hcn
              cases hcn.2
            have HRs2 : Hid (Rd.ok (.set neg (canonOf acc)) (left T (j + 1) e) = Res) := Lib.hid (by
              have h1 := HRs.out
              rw [SG_unf, if_pos hcn, left_tail hlt he] at h1
              exact h1)
            clear hcn HCn HRs
            have x1 := HA2.out.rd.cell (j := 1) rfl
            have f1 := Lib.frozen_of_heap HA2.out.rd 1
            have HA3 : Hid (SetAt b rb pb e T w (wc.setCell ⟨b, 1, none⟩ (.int .i64 ((j : Int) + 1))) (j + 1) neg a N cap acc) := Lib.hid (HA2.out.call hrb hrp ((Side.refl b wc).set 1 _) (HA2.out.rd.step (j + 1)))
            go_upto_region 16 with fail
            clear x1 f1 HA2
            generalize wc.setCell _ _ = w6 at *
            have q3 := HA3.out.part.cell (j := 3) rfl
            have HJn := Lib.hid (joined_any HA3.out.own HA3.out.part.lt HA3.out.ok (by rw [HLe.out]; omega))
            rw [HLe.out] at HJn
            go_upto_region 17 with (go_at_call 225; refine HJn.out.mono ?_; rintro E w7 ⟨a2, cap2, out, rfl, hO7, hout, hok7, hlen7, hB7, hz7⟩; have HO7 := Lib.hid (hO7.mono (z' := pb + 1) HA3.out.part.lt); have HOut := Lib.hid hout; have HOk7 := Lib.hid hok7; have HB7 := Lib.hid hB7; clear hO7 hout hok7 hlen7 hB7 hz7; have f7 := Lib.frozen_of_heap (BoxIs.low HA3.out.part HB7.out (Nat.lt_succ_self _)) 3; have q7 := (BoxIs.low HA3.out.part HB7.out (Nat.lt_succ_self _)).cell (j := 3) rfl; clear q3)
            have HA8 : Hid (SetAt b rb pb e T w (w7.setCell ⟨pb, 3, none⟩ (.slice a2 out.length cap2)) (j + 1) neg a2 out.length cap2 out) := Lib.hid (HA3.out.put hrb hrp hwp HB7.out HO7.out rfl HOk7.out)
            clear f7 q7 HA3
            generalize w7.setCell _ _ = w8 at *
            have k0 := HA8.out.part.cell (j := 0) rfl
            have k1 := HA8.out.part.cell (j := 1) rfl
            have k2 := HA8.out.part.cell (j := 2) rfl
            have k3 := HA8.out.part.cell (j := 3) rfl
            have k4 := HA8.out.part.cell (j := 4) rfl
            have d0 := HA8.out.res.cell (j := 0) rfl
            have d1 := HA8.out.res.cell (j := 1) rfl
            have d2 := HA8.out.res.cell (j := 2) rfl
            have d3 := HA8.out.res.cell (j := 3) rfl
            have d4 := HA8.out.res.cell (j := 4) rfl
            have g0 := Lib.frozen_of_heap HA8.out.res 0
            have g1 := Lib.frozen_of_heap HA8.out.res 1
            have g2 := Lib.frozen_of_heap HA8.out.res 2
            have g3 := Lib.frozen_of_heap HA8.out.res 3
            have g4 := Lib.frozen_of_heap HA8.out.res 4
            have HFn := Lib.hid (part_put HA8.out.res (.int .i64 5) (.string ⟨#[]⟩) (.bool neg) (.slice a2 out.length cap2) (.slice none 0 0))
            go_wp2_with fail
            clear d0 d1 d2 d3 d4 g0 g1 g2 g3 g4 k0 k1 k2 k3 k4
            generalize ((((World.setCell _ _ _).setCell _ _).setCell _ _).setCell _ _).setCell _ _ = wf at *
            have d0 := HFn.out.1.cell (j := 0) rfl
            have d1 := HFn.out.1.cell (j := 1) rfl
            have d2 := HFn.out.1.cell (j := 2) rfl
            have d3 := HFn.out.1.cell (j := 3) rfl
            have d4 := HFn.out.1.cell (j := 4) rfl
            refine bodyPost_ret (v := .agg (pSet neg a2 out.length cap2)) ?_ rfl ?_
            · simp [results, Tryz.f198]
              go_simp
            · rw [← HRs2.out]
              exact ⟨_, j + 1, rfl, ⟨setP n neg a2 cap2 out, rfl, ((set_made n HA8.out hwp).same HFn.out.2.size (fun q hq => HFn.out.2.block q ((set_made n HA8.out hwp).fp q hq).2 (by have := ((set_made n HA8.out hwp).fp q hq).1; omega))).mono (by omega), by rw [← HOut.out]; rfl⟩, BoxIs.side HA8.out.rd HFn.out.2 (by omega), hlt, rfl, HA8.out.side.new HFn.out.2 hrz⟩
end Go.Proofs.YtfenmeacimfiaaaGreatDoor
namespace Go.Proofs.YtfenmeacimfiaaaGreatDoor
open Go.RowKit Wh.G

theorem glist_all : ∀ n, ListOk n
  | 0 => by
    intro b T k e d w h hk he hs hd hn hE
    exact absurd hn (Nat.not_lt_zero _)
  | n + 1 => glist_step gset_any n (gways_any n (glist_all n))

abbrev badTy : TypeId := 196
set_option maxHeartbeats 1000000 in
set_option maxRecDepth 100000 in
theorem comp1_idle (p q : Addr) (w : World) :
    CallsD Tryz.prog 157 #[.pointer (some p), .pointer (some q)] .returning w fun e u' w' => e = .returned (.tuple #[]) ∧ u' = .returning ∧ w' = w := by
  refine callsD_of_wpS Tryz.func157 rfl fun c₀ cs hu => ?_
  simp only [Tryz.ntmps157, List.size_toArray, List.length_cons, List.length_nil, Nat.reduceAdd, Nat.reduceSub, Array.replicate_succ, Array.replicate_zero, List.push_toArray, List.append_toArray, List.nil_append, List.cons_append]
  apply wpS_seq
  apply wpS_region
  simp [wpOpsS, go_sem, recoverD, hu, Exit.thenS]
  refine wpS_of_wp ?_
  go_wp2_with fail
  cases c₀
  simp_all [bodyPostS, results, Tryz.results157]
theorem assert_bad (n : Int) (t : TypeId) (W : World) : (Instr.typeAssert (.iface badTy (.agg #[.int .i64 n])) t badTy true).run Tryz.prog W = .ok (.tuple #[.agg #[.int .i64 n], .bool true]) W := by
  kernel_rfl
set_option maxHeartbeats 1000000 in
set_option maxRecDepth 100000 in
theorem comp1_pan (pa qa : Nat) (T : ByteArray) (x : Bool) (n : Int) (older : List PanicEntry) (w : World) (t1 t2 : TypeId) (hP : BoxIs w pa #[.string T] t1) (hQ : BoxIs w qa #[.bool x] t2) (_hs : T.size ≤ 1000000) :
    CallsD Tryz.prog 157 #[.pointer (some ⟨pa, 0, none⟩), .pointer (some ⟨qa, 0, none⟩)] (.panicking ({ v := .iface badTy (.agg #[.int .i64 n]), recovered := false } :: older)) w fun e u' w' =>
      e = .returned (.tuple #[]) ∧ u' = .panicking ({ v := .iface badTy (.agg #[.int .i64 n]), recovered := true } :: older) ∧ w' = (w.setCell ⟨qa, 0, none⟩ (.bool (decide (n < T.size)))).alloc (.cells #[.int .i64 n] badTy) := by
  refine callsD_of_wpS Tryz.func157 rfl fun c₀ cs hu => ?_
  simp only [Tryz.ntmps157, List.size_toArray, List.length_cons, List.length_nil, Nat.reduceAdd, Nat.reduceSub, Array.replicate_succ, Array.replicate_zero, List.push_toArray, List.append_toArray, List.nil_append, List.cons_append]
  apply wpS_seq
  apply wpS_region
  simp [wpOpsS, go_sem, recoverD, hu, Exit.thenS]
  refine wpS_of_wp ?_
  have hta := assert_bad n
  have hB := bAlloc (Below.refl w.heap.size w) (.cells #[.int .i64 n] badTy)
  have hp := hP.cell (j := 0) rfl
  have hq := hQ.cell (j := 0) rfl
  have hpb := hP.lt
  have hqb := hQ.lt
  have hf := Lib.frozen_of_heap (hQ.under hB) 0
  clear hB hP hQ
  go_wp2_with fail
  simp [bodyPostS, results, Tryz.results157]
theorem box3 (w : World) (us vs xs : Array Value) (t1 t2 t3 : TypeId) : BoxIs (((w.alloc (.cells us t1)).alloc (.cells vs t2)).alloc (.cells xs t3)) w.heap.size us t1 ∧ BoxIs (((w.alloc (.cells us t1)).alloc (.cells vs t2)).alloc (.cells xs t3)) (w.heap.size + 1) vs t2 ∧ BoxIs (((w.alloc (.cells us t1)).alloc (.cells vs t2)).alloc (.cells xs t3)) (w.heap.size + 1 + 1) xs t3 ∧
    Below w.heap.size w (((w.alloc (.cells us t1)).alloc (.cells vs t2)).alloc (.cells xs t3)) := by
  have h3 := BoxIs.new ((w.alloc (.cells us t1)).alloc (.cells vs t2)) xs t3
  have h2 := BoxIs.new (w.alloc (.cells us t1)) vs t2
  have hz : (w.alloc (.cells us t1)).heap.size = w.heap.size + 1 := by simp
  have hz2 : ((w.alloc (.cells us t1)).alloc (.cells vs t2)).heap.size = w.heap.size + 1 + 1 := by simp
  rw [hz2] at h3
  rw [hz] at h2
  exact ⟨((BoxIs.new w _ _).under (bAlloc (Below.refl _ _) _)).under (bAlloc (Below.refl _ _) _), h2.under (bAlloc (Below.refl _ _) _), h3, bAlloc (bAlloc (bAlloc (Below.refl _ _) _) _) _⟩
/-- Whether a text could be that of parts. -/
noncomputable def complR (l : List UInt8) : Bool := match PL false [] l with | .ok _ _ => true | .bad r => decide (r ≠ [])
theorem left_all (T : ByteArray) : left T 0 T.size = T.data.toList := by
  unfold left
  rw [List.drop_zero, Lib.size_eq, List.take_length]

set_option maxHeartbeats 1000000 in
set_option maxRecDepth 100000 in
theorem complete_any (T : ByteArray) (w : World) (hs : T.size ≤ 100000) (hE : Env w) :
    Calls Tryz.prog 107 #[.string T] w fun e w' => e = .returned (.bool (complR T.data.toList)) ∧ Below w.heap.size w w' := by
  have hmf : ∀ (fn : Fn) (first cap : Array Value) (w : World), (Instr.makeFunc fn first cap).run Tryz.prog w = .ok (.func fn first cap) w := fun _ _ _ _ => rfl
  have HE := Lib.hid hE
  clear hE
  obtain ⟨R, hR⟩ : ∃ R, complR T.data.toList = R := ⟨_, rfl⟩
  rw [hR]
  have HRv := Lib.hid hR
  clear hR
  go_enter_defers Tryz.func107, Tryz.ntmps107
  have HB := Lib.hid (box3 w #[.string T] #[.bool false] #[.string T, .int .i64 0, .int .i64 T.size] 9 4 grTy)
  obtain ⟨pa, hpa⟩ : ∃ pa, pa = w.heap.size := ⟨_, rfl⟩
  obtain ⟨qa, hqa⟩ : ∃ qa, qa = w.heap.size + 1 := ⟨_, rfl⟩
  obtain ⟨rb, hrb⟩ : ∃ rb, rb = w.heap.size + 1 + 1 := ⟨_, rfl⟩
  go_upto_region 3 with fail
  rw [← hrb, ← hqa] at HB ⊢
  rw [← hpa]
  generalize ((w.alloc _).alloc _).alloc _ = w3 at *
  have HLi : Hid (Calls Tryz.prog 108 #[.pointer (some ⟨rb, 0, none⟩), .int .i64 0] w3 (RdPost rb T T.size w3 (PL false [] T.data.toList) (ListVal (T.size + 1) w3.heap.size))) := Lib.hid (by
    have h1 := glist_all (T.size + 1) rb T 0 T.size 0 w3 HB.out.2.2.1 (Nat.zero_le _) (Nat.le_refl _) hs (by omega) (by rw [left_len (Nat.le_refl _)]; omega) (HE.out.under HB.out.2.2.2)
    rw [left_all] at h1
    exact h1)
  have hpr : pa ≠ rb := by omega
  have hqr : qa ≠ rb := by omega
  have hpq : pa ≠ qa := by omega
  have HW : Hid (w.heap.size ≤ pa ∧ w.heap.size ≤ qa ∧ w.heap.size ≤ rb) := Lib.hid (by omega)
  have hP0 := HB.out.1
  rw [← hpa] at hP0
  have HP := Lib.hid hP0
  have HQ := Lib.hid HB.out.2.1
  have HB3 := Lib.hid HB.out.2.2.2
  clear hpa hqa hrb hP0 HB
  obtain ⟨G, hG⟩ : ∃ G, PL false [] T.data.toList = G := ⟨_, rfl⟩
  rw [hG] at HLi
  have HG := Lib.hid hG
  clear hG
  cases G with
  | ok gps r =>
    go_wp2_with (go_at_call 108; refine HLi.out.mono ?_; rintro E w4 ⟨v4, k4, rfl, -, -, -, -, hS4⟩; have HS4 := Lib.hid hS4; have HQ4 := Lib.hid (BoxIs.side HQ.out hS4 hqr); have q0 := HQ4.out.cell (j := 0) rfl; have f0 := Lib.frozen_of_heap HQ4.out 0; clear hS4)
    have HQ5 := Lib.hid (HQ4.out.put 0 (.bool true))
    have HS5 := Lib.hid ((Side.refl qa w4).set 0 (.bool true))
    clear q0 f0
    generalize w4.setCell _ _ = w5 at *
    refine leaves_cons (f := 157) (args := #[.pointer (some ⟨pa, 0, none⟩), .pointer (some ⟨qa, 0, none⟩)]) (by simp) (by simp [go_sem]) ?_
    refine (comp1_idle ⟨pa, 0, none⟩ ⟨qa, 0, none⟩ _).mono ?_
    rintro e u' w'' ⟨rfl, rfl, rfl⟩
    have hR : R = true := by
      rw [← HRv.out]
      unfold complR
      rw [HG.out]
    subst hR
    have q0 : w''.cell? ⟨qa, 0, none⟩ = some (.bool true) := HQ5.out.cell (j := 0) rfl
    have hfin : Below w.heap.size w w'' := (HB3.out.trans ((HS4.out.below HW.out.2.2 HB3.out.size))).trans (HS5.out.below HW.out.2.1 (Nat.le_trans HB3.out.size HS4.out.size))
    simp [Leaves, settle, results, Tryz.results107, go_sem, q0]
    exact hfin
  | bad r =>
    go_wp2_with (go_at_call 108; refine HLi.out.mono ?_; rintro E w4 ⟨rfl, hS4⟩; have HS4 := Lib.hid hS4; have HQ4 := Lib.hid (BoxIs.side HQ.out hS4 hqr); have HP4 := Lib.hid (BoxIs.side HP.out hS4 hpr); clear hS4)
    refine leaves_cons (f := 157) (args := #[.pointer (some ⟨pa, 0, none⟩), .pointer (some ⟨qa, 0, none⟩)]) (by simp) (by simp [go_sem]) ?_
    refine (comp1_pan pa qa T false (posOf T T.size r) [] _ _ _ HP4.out HQ4.out (by omega)).mono ?_
    rintro e u' w'' ⟨rfl, rfl, rfl⟩
    have hR : R = decide (posOf T T.size r < T.size) := by
      rw [← HRv.out]
      unfold complR
      rw [HG.out]
      unfold posOf
      by_cases hr : r = []
      · rw [if_pos hr]
        simp [hr]
      · have hl : 0 < r.length := List.length_pos_iff.2 hr
        have hT : 0 < T.size := by
          refine Nat.pos_of_ne_zero fun h0 => ?_
          have h1 := HG.out
          rw [List.eq_nil_of_length_eq_zero ((Lib.size_eq T).symm.trans h0), PL_nil] at h1
          cases h1
        rw [if_neg hr]
        show decide (r ≠ []) = _
        rw [decide_eq_true hr, eq_comm, decide_eq_true_eq]
        omega
    have HQ5 := HQ4.out.put 0 (.bool (decide (posOf T T.size r < T.size)))
    have HS5 := (Side.refl qa w4).set 0 (.bool (decide (posOf T T.size r < T.size)))
    have HB6 := bAlloc (Below.refl (w4.setCell ⟨qa, 0, none⟩ (.bool (decide (posOf T T.size r < T.size)))).heap.size (w4.setCell ⟨qa, 0, none⟩ (.bool (decide (posOf T T.size r < T.size))))) (.cells #[.int .i64 (posOf T T.size r)] badTy)
    rw [← hR] at HQ5 HS5 HB6 ⊢
    have q0 := (HQ5.under HB6).cell (j := 0) rfl
    have hfin := ((HB3.out.trans ((HS4.out.below HW.out.2.2 HB3.out.size))).trans (HS5.below HW.out.2.1 (Nat.le_trans HB3.out.size HS4.out.size))).trans (HB6.mono (Nat.le_trans (Nat.le_trans HB3.out.size HS4.out.size) HS5.size))
    clear HQ5 HS5 HB6
    generalize (World.setCell _ _ _).alloc _ = w7 at *
    simp [Leaves, settle, results, Tryz.results107, go_sem, q0]
    exact hfin
end Go.Proofs.YtfenmeacimfiaaaGreatDoor
namespace Go.Proofs.YtfenmeacimfiaaaGreatDoor
open Go.RowKit Wh.G

abbrev glTy : TypeId := 34
/-- All blocks but two are as they were. -/
structure Two (a b : Nat) (w w' : World) : Prop where
  os : w'.os = w.os
  tape : w'.tape = w.tape
  output : w'.output = w.output
  size : w.heap.size ≤ w'.heap.size
  block : ∀ k, k < w.heap.size → k ≠ a → k ≠ b → w'.heap[k]? = w.heap[k]?
theorem Two.refl (a b : Nat) (w : World) : Two a b w w := ⟨rfl, rfl, rfl, Nat.le_refl _, fun _ _ _ _ => rfl⟩
theorem Two.of {a b : Nat} {w w' : World} (h : Below w.heap.size w w') : Two a b w w' := ⟨h.os, h.tape, h.output, h.size, fun k hk _ _ => h.block k hk⟩
theorem Two.setA {a b : Nat} {w w' : World} (h : Two a b w w') (i : Nat) (v : Value) : Two a b w (w'.setCell ⟨a, i, none⟩ v) :=
  ⟨h.os, h.tape, h.output, by simp [World.setCell]; exact h.size, fun k hk ha hb => (Below.heap_setCell _ _ _ _ ha).trans (h.block k hk ha hb)⟩
theorem Two.setB {a b : Nat} {w w' : World} (h : Two a b w w') (i : Nat) (v : Value) : Two a b w (w'.setCell ⟨b, i, none⟩ v) :=
  ⟨h.os, h.tape, h.output, by simp [World.setCell]; exact h.size, fun k hk ha hb => (Below.heap_setCell _ _ _ _ hb).trans (h.block k hk ha hb)⟩
theorem Two.drew {a b : Nat} {w w' : World} (h : Two a b w w') (n : Nat) : Two a b w (w'.drewN n) := ⟨h.os, h.tape, h.output, h.size, h.block⟩
theorem Two.alloc {a b : Nat} {w w' : World} (h : Two a b w w') (o : Obj) : Two a b w (w'.alloc o) := by
  have hb := bAlloc (Below.refl w'.heap.size w') o
  exact ⟨hb.os.trans h.os, hb.tape.trans h.tape, hb.output.trans h.output, Nat.le_trans h.size hb.size, fun k hk h1 h2 => (hb.block k (Nat.lt_of_lt_of_le hk h.size)).trans (h.block k hk h1 h2)⟩
theorem Two.below {a b z : Nat} {w w' : World} (h : Two a b w w') (ha : z ≤ a) (hb : z ≤ b) (hz : z ≤ w.heap.size) : Below z w w' := ⟨h.os, h.tape, h.output, h.size, fun k hk => h.block k (by omega) (by omega) (by omega)⟩
/-- A glob's value. -/
abbrev glV (rooted dirs : Bool) (a : Option Addr) (l c : Nat) : Array Value := #[.bool rooted, .bool dirs, .slice a l c]

set_option maxHeartbeats 1000000 in
set_option maxRecDepth 100000 in
theorem rg1_idle (p q : Addr) (w : World) :
    CallsD Tryz.prog 106 #[.pointer (some p), .pointer (some q)] .returning w fun e u' w' => e = .returned (.tuple #[]) ∧ u' = .returning ∧ w' = w := by
  refine callsD_of_wpS Tryz.func106 rfl fun c₀ cs hu => ?_
  simp only [Tryz.ntmps106, List.size_toArray, List.length_cons, List.length_nil, Nat.reduceAdd, Nat.reduceSub, Array.replicate_succ, Array.replicate_zero, List.push_toArray, List.append_toArray, List.nil_append, List.cons_append]
  apply wpS_seq
  apply wpS_region
  simp [wpOpsS, go_sem, recoverD, hu, Exit.thenS]
  refine wpS_of_wp ?_
  go_wp2_with fail
  cases c₀
  simp_all [bodyPostS, results, Tryz.results106]
set_option maxHeartbeats 1000000 in
set_option maxRecDepth 100000 in
theorem rg1_pan (ga na : Nat) (b1 b2 : Bool) (sv : Value) (m n : Int) (older : List PanicEntry) (w : World) (hG : BoxIs w ga #[.bool b1, .bool b2, sv] glTy) (hN : BoxIs w na #[.int .i64 m] 3) (hne : ga ≠ na) :
    CallsD Tryz.prog 106 #[.pointer (some ⟨ga, 0, none⟩), .pointer (some ⟨na, 0, none⟩)] (.panicking ({ v := .iface badTy (.agg #[.int .i64 n]), recovered := false } :: older)) w fun e u' w' =>
      e = .returned (.tuple #[]) ∧ u' = .panicking ({ v := .iface badTy (.agg #[.int .i64 n]), recovered := true } :: older) ∧ BoxIs w' ga (glV false false none 0 0) glTy ∧ BoxIs w' na #[.int .i64 n] 3 ∧ Two ga na w w' := by
  refine callsD_of_wpS Tryz.func106 rfl fun c₀ cs hu => ?_
  simp only [Tryz.ntmps106, List.size_toArray, List.length_cons, List.length_nil, Nat.reduceAdd, Nat.reduceSub, Array.replicate_succ, Array.replicate_zero, List.push_toArray, List.append_toArray, List.nil_append, List.cons_append]
  apply wpS_seq
  apply wpS_region
  simp [wpOpsS, go_sem, recoverD, hu, Exit.thenS]
  refine wpS_of_wp ?_
  have hta := assert_bad n
  have HT := Lib.hid ((Two.refl ga na w).alloc (.cells #[.int .i64 n] badTy))
  have HX := Lib.hid (BoxIs.new w #[.int .i64 n] badTy)
  have HB := Lib.hid (bAlloc (Below.refl w.heap.size w) (.cells #[.int .i64 n] badTy))
  have HG := Lib.hid (hG.under HB.out)
  have HN := Lib.hid (hN.under HB.out)
  have hgl := hG.lt
  have hnl := hN.lt
  clear hG hN HB
  obtain ⟨xb, hxb⟩ : ∃ xb, xb = w.heap.size := ⟨_, rfl⟩
  rw [← hxb] at HX
  have hgx : ga ≠ xb := by omega
  have hnx : na ≠ xb := by omega
  go_upto_region 5 with fail
  rw [← hxb]
  clear hxb
  generalize w.alloc _ = w1 at *
  have x0 := HX.out.cell (j := 0) rfl
  have g0 := HG.out.cell (j := 0) rfl
  have g1 := HG.out.cell (j := 1) rfl
  have g2 := HG.out.cell (j := 2) rfl
  have n0 := HN.out.cell (j := 0) rfl
  have fg0 := Lib.frozen_of_heap HG.out 0
  have fg1 := Lib.frozen_of_heap HG.out 1
  have fg2 := Lib.frozen_of_heap HG.out 2
  have fn0 := Lib.frozen_of_heap HN.out 0
  go_region
  have HG2 := ((HG.out.put 0 (.bool false)).put 1 (.bool false)).put 2 (.slice none 0 0)
  have hs3 := (((Side.refl ga w1).set 0 (.bool false)).set 1 (.bool false)).set 2 (.slice none 0 0)
  refine ⟨rfl, ⟨_, rfl, ⟨.tuple #[], ?_, rfl, rfl, ?_, ?_, ?_⟩⟩⟩
  · simp [results, Tryz.results106]
  · exact BoxIs.side HG2 (((Side.refl na _).set 0 _).drew 1) hne
  · exact (BoxIs.side HN.out hs3 (fun e => hne e.symm)).put 0 _
  · exact ((((HT.out.setA 0 _).setA 1 _).setA 2 _).setB 0 _).drew 1

/-! The place of the slash at the end, in plain words. -/
theorem left_last {T : ByteArray} {k n : Nat} (hk : k ≤ n) (hn : n < T.size) : left T k (n + 1) = left T k n ++ [T[n]'hn] := by
  unfold left
  have hd := Lib.data_getElem? T n hn
  have hlen : n < T.data.toList.length := by rw [← Lib.size_eq]; exact hn
  rw [List.getElem?_eq_getElem hlen] at hd
  injection hd with hd
  rw [List.take_succ_eq_append_getElem hlen, hd, List.drop_append_of_le_length (by rw [List.length_take]; omega)]
theorem body_left {T : ByteArray} (h0 : 0 < T.size) : bodyOf T.data.toList = left T (if rootOf T.data.toList then 1 else 0) T.size := by
  unfold bodyOf
  cases rootOf T.data.toList
  · rw [if_neg (by decide), if_neg (by decide), left_all]
  · rw [if_pos rfl, if_pos rfl, ← left_all T, left_tail h0 (Nat.le_refl _)]
theorem ext_left (T : ByteArray) (k n : Nat) : (T.extract k n).data.toList = left T k n := by
  unfold left
  rw [Lib.extract_data, List.drop_take]

/-- Whether the slash at the end is no part's. -/
noncomputable def dirsR (t : List UInt8) : Bool := decide ((bodyOf t).getLast? = some 47) && complR (bodyOf t).dropLast
/-- What is read of the parts' text says what is read of the glob's. -/
noncomputable def partsR (t : List UInt8) : GR :=
  match PL false [] (if dirsR t then (bodyOf t).dropLast else bodyOf t) with
  | .bad r => .err (t.length - (r.length + if dirsR t then 1 else 0))
  | .ok [] _ => .err t.length
  | .ok (p :: l) _ => .ok (rootOf t) (dirsR t) (p :: l)
theorem readG_parts (t : List UInt8) : readG t = partsR t := by
  unfold readG partsR
  cases hd : dirsR t
  · simp only [Bool.false_eq_true, if_false, Nat.add_zero]
    by_cases h : (bodyOf t).getLast? = some 47
    · rw [if_pos h]
      unfold dirsR at hd
      rw [decide_eq_true h, Bool.true_and] at hd
      unfold complR at hd
      cases hp : PL false [] (bodyOf t).dropLast with
      | bad r =>
        show plainG t = _
        unfold plainG
        cases PL false [] (bodyOf t) with
        | bad r => rfl
        | ok a r => cases a <;> rfl
      | ok a r => rw [hp] at hd; cases hd
    · rw [if_neg h]
      unfold plainG
      cases PL false [] (bodyOf t) with
      | bad r => rfl
      | ok a r => cases a <;> rfl
  · simp only [if_true]
    unfold dirsR at hd
    rw [Bool.and_eq_true] at hd
    have h : (bodyOf t).getLast? = some 47 := of_decide_eq_true hd.1
    rw [if_pos h]
    have hc := hd.2
    unfold complR at hc
    cases hp : PL false [] (bodyOf t).dropLast with
    | bad r =>
      rw [hp] at hc
      exact plainG_inner h hp (of_decide_eq_true hc)
    | ok a r =>
      cases a <;> rfl
end Go.Proofs.YtfenmeacimfiaaaGreatDoor
namespace Go.Proofs.YtfenmeacimfiaaaGreatDoor
open Go.RowKit Wh.G

/-- A glob under construction. -/
structure GlAt (ga na rb : Nat) (T : ByteArray) (w W : World) (k e : Nat) (rooted dirs : Bool) : Prop where
  gl : BoxIs W ga (glV rooted dirs none 0 0) glTy
  num : BoxIs W na #[.int .i64 0] 3
  rd : RdAt W rb T k e
  below : Below w.heap.size w W
theorem GlAt.drew {ga na rb : Nat} {T : ByteArray} {w W : World} {k e : Nat} {rooted dirs : Bool} (h : GlAt ga na rb T w W k e rooted dirs) (n : Nat) : GlAt ga na rb T w (W.drewN n) k e rooted dirs :=
  ⟨h.gl, h.num, h.rd, bDrewN h.below n⟩
theorem GlAt.under {ga na rb : Nat} {T : ByteArray} {w W W' : World} {k e : Nat} {rooted dirs : Bool} (h : GlAt ga na rb T w W k e rooted dirs) (hb : Below W.heap.size W W') : GlAt ga na rb T w W' k e rooted dirs :=
  ⟨h.gl.under hb, h.num.under hb, BoxIs.under h.rd hb, h.below.trans (hb.mono h.below.size)⟩
theorem GlAt.setG {ga na rb : Nat} {T : ByteArray} {w W : World} {k e : Nat} {rooted dirs r2 d2 : Bool} (h : GlAt ga na rb T w W k e rooted dirs) (h1 : ga ≠ na) (h2 : ga ≠ rb) (hw : w.heap.size ≤ ga) (i : Nat) (v : Value) (hv : (glV rooted dirs none 0 0).setIfInBounds i v = glV r2 d2 none 0 0) : GlAt ga na rb T w (W.setCell ⟨ga, i, none⟩ v) k e r2 d2 := by
  have hs := (Side.refl ga W).set i v
  refine ⟨?_, BoxIs.side h.num hs (fun e => h1 e.symm), BoxIs.side h.rd hs (fun e => h2 e.symm), h.below.trans (hs.below hw h.below.size)⟩
  rw [← hv]
  exact h.gl.put i v
theorem GlAt.setR {ga na rb : Nat} {T : ByteArray} {w W : World} {k e k2 e2 : Nat} {rooted dirs : Bool} (h : GlAt ga na rb T w W k e rooted dirs) (h1 : ga ≠ rb) (h2 : na ≠ rb) (hw : w.heap.size ≤ rb) (i : Nat) (v : Value) (hv : (#[.string T, .int .i64 k, .int .i64 e] : Array Value).setIfInBounds i v = #[.string T, .int .i64 k2, .int .i64 e2]) : GlAt ga na rb T w (W.setCell ⟨rb, i, none⟩ v) k2 e2 rooted dirs := by
  have hs := (Side.refl rb W).set i v
  refine ⟨BoxIs.side h.gl hs h1, BoxIs.side h.num hs h2, ?_, h.below.trans (hs.below hw h.below.size)⟩
  unfold RdAt
  rw [← hv]
  exact BoxIs.put h.rd i v

/-- What readGlob returns. -/
def GlPost (n z : Nat) (r : GR) (v : Value) (w' : World) : Prop := match r with
  | .err k => v = .tuple #[.agg (glV false false none 0 0), .int .i64 k]
  | .ok rooted dirs l => ∃ s : Sl (P n), v = .tuple #[.agg (glV rooted dirs s.a s.xs.length s.c), .int .i64 (-1)] ∧ MadeL n z w' s ∧ gpL n s.xs = l

set_option maxHeartbeats 4000000 in
set_option maxRecDepth 100000 in
theorem readGlob_any (dep : Nat) (T : ByteArray) (w : World) (h0 : 0 < T.size) (hs : T.size ≤ 100000) (hD : T.size < dep) (hE : Env w) :
    Calls Tryz.prog 48 #[.string T] w fun e w' => ∃ v, e = .returned v ∧ Below w.heap.size w w' ∧ GlPost dep w.heap.size (readG T.data.toList) v w' := by
  have hmf : ∀ (fn : Fn) (first cap : Array Value) (w : World), (Instr.makeFunc fn first cap).run Tryz.prog w = .ok (.func fn first cap) w := fun _ _ _ _ => rfl
  have HE := Lib.hid hE
  clear hE
  obtain ⟨R, hR⟩ : ∃ R, readG T.data.toList = R := ⟨_, rfl⟩
  rw [hR]
  rw [readG_parts] at hR
  have HRv := Lib.hid hR
  clear hR
  have HB := Lib.hid (box3 w (glV false false none 0 0) #[.int .i64 0] #[.string T, .int .i64 0, .int .i64 T.size] glTy 3 grTy)
  obtain ⟨n, hn⟩ : ∃ n, T.size = n + 1 := ⟨T.size - 1, by omega⟩
  obtain ⟨c, hc⟩ : ∃ c : UInt8, T[0]'h0 = c := ⟨_, rfl⟩
  have hnT0 : n < T.size := by omega
  obtain ⟨cn, hcn⟩ : ∃ cn : UInt8, T[n]'hnT0 = cn := ⟨_, rfl⟩
  have e47 := u8_eq c 47
  change ((c.toNat : Int) == 47) = _ at e47
  have e47n := u8_eq cn 47
  change ((cn.toNat : Int) == 47) = _ at e47n
  obtain ⟨rt, hrt⟩ : ∃ r, (c == 47) = r := ⟨_, rfl⟩
  rw [hrt] at e47
  have HRt : Hid (rootOf T.data.toList = rt) := Lib.hid (by
    rw [← hrt, ← left_all T, left_cons h0 (Nat.le_refl _) c hc]
    rfl)
  obtain ⟨k0, hk0⟩ : ∃ k, k = if rt then 1 else 0 := ⟨_, rfl⟩
  have HBody : Hid (bodyOf T.data.toList = left T k0 T.size) := Lib.hid (by rw [body_left h0, HRt.out, hk0])
  obtain ⟨D, hD⟩ : ∃ D, dirsR T.data.toList = D := ⟨_, rfl⟩
  have HD1 : Hid (¬ k0 ≤ n → D = false) := Lib.hid (fun h => by
    rw [← hD]
    unfold dirsR
    rw [HBody.out, left_nil (by omega)]
    rfl)
  have HD2 : Hid (k0 ≤ n → D = (cn == 47 && complR (left T k0 n))) := Lib.hid (fun h => by
    have hl := left_last (T := T) h (by omega)
    rw [← hn, hcn] at hl
    rw [← hD]
    unfold dirsR
    rw [HBody.out, hl, List.getLast?_concat, List.dropLast_concat]
    congr 1
    by_cases hc7 : cn = 47
    · rw [hc7]
      rfl
    · rw [decide_eq_false (fun e => hc7 (by injection e))]
      simp [hc7])
  have HP : Hid (partsR T.data.toList = match PL false [] (left T k0 (if D then n else T.size)) with
      | .bad r => .err (T.size - (r.length + if D then 1 else 0))
      | .ok [] _ => .err T.size
      | .ok (p :: l) _ => .ok rt D (p :: l)) := Lib.hid (by
    have hb : (if dirsR T.data.toList then (bodyOf T.data.toList).dropLast else bodyOf T.data.toList) = left T k0 (if D then n else T.size) := by
      rw [hD, HBody.out]
      cases hdd : D
      · rfl
      · rw [if_pos rfl, if_pos rfl]
        have hkn : k0 ≤ n := Nat.le_of_not_lt fun h => by
          have := HD1.out (by omega)
          rw [hdd] at this
          cases this
        have hl := left_last (T := T) hkn (by omega)
        rw [← hn] at hl
        rw [hl, List.dropLast_concat]
    unfold partsR
    rw [hb, hD, HRt.out, ← Lib.size_eq]
    all_goals
      cases PL false [] (left T k0 (if D then n else T.size)) with
      | bad r => rfl
      | ok a r => cases a <;> rfl)
  have HK0 := Lib.hid hk0
  have HNn := Lib.hid hn
  have hk00 : (0 : Int) < (T.size : Int) := by omega
  clear hk0 hrt hD hn
  go_enter_defers Tryz.func48, Tryz.ntmps48
  obtain ⟨ga, hga⟩ : ∃ ga, ga = w.heap.size := ⟨_, rfl⟩
  obtain ⟨na, hna⟩ : ∃ na, na = w.heap.size + 1 := ⟨_, rfl⟩
  obtain ⟨rb, hrb⟩ : ∃ rb, rb = w.heap.size + 1 + 1 := ⟨_, rfl⟩
  go_upto_region 3 with fail
  rw [← hrb, ← hna] at HB ⊢
  rw [← hga]
  generalize ((w.alloc _).alloc _).alloc _ = w3 at *
  have hgr : ga ≠ rb := by omega
  have hnr : na ≠ rb := by omega
  have hgn : ga ≠ na := by omega
  have hwg : w.heap.size ≤ ga := by omega
  have hwn : w.heap.size ≤ na := by omega
  have hwr : w.heap.size ≤ rb := by omega
  have hG0 := HB.out.1
  rw [← hga] at hG0
  have HA3 : Hid (GlAt ga na rb T w w3 0 T.size false false) := Lib.hid ⟨hG0, HB.out.2.1, HB.out.2.2.1, HB.out.2.2.2⟩
  clear hga hna hrb hG0 HB
  go_upto_if 14 with fail
  go_cut [] from 12 to 60 (fun wx => Hid (GlAt ga na rb T w wx k0 T.size rt false))
  case first =>
    cases rt
    · have hk : k0 = 0 := HK0.out
      subst hk
      go_wp2_with fail
      go_meet
      exact HA3
    · have hk : k0 = 1 := HK0.out
      subst hk
      have g0 := HA3.out.gl.cell (j := 0) rfl
      have f0 := Lib.frozen_of_heap HA3.out.gl 0
      go_upto_region 5 with fail
      have HA4 : Hid (GlAt ga na rb T w (w3.setCell ⟨ga, 0, none⟩ (.bool true)) 0 T.size true false) := Lib.hid (HA3.out.setG hgn hgr hwg 0 (.bool true) rfl)
      clear g0 f0 HA3
      generalize w3.setCell _ _ = w4 at *
      have x1 := HA4.out.rd.cell (j := 1) rfl
      have f1 := Lib.frozen_of_heap HA4.out.rd 1
      have HA5 : Hid (GlAt ga na rb T w (w4.setCell ⟨rb, 1, none⟩ (.int .i64 1)) 1 T.size true false) := Lib.hid (HA4.out.setR hgr hnr hwr 1 (.int .i64 1) rfl)
      go_wp2_with fail
      go_meet
      exact HA5
  case rest =>
    have HA4 := hcut
    clear hcut HA3
    have hn1 : (T.size : Int) - 1 = (n : Int) := by have := HNn.out; omega
    have hnT : (n : Int) < (T.size : Int) := by omega
    have hn0 : (0 : Int) ≤ (n : Int) := by omega
    go_upto_region 7 with fail
    go_cut [43] from 12 to 60 (fun s43 wx => s43 = .bool D ∧ Hid (GlAt ga na rb T w wx k0 T.size rt false))
    case first =>
      have x1 := HA4.out.rd.cell (j := 1) rfl
      by_cases hkn : k0 ≤ n
      · have hD2 := HD2.out hkn
        have hknI : (k0 : Int) ≤ (n : Int) := by omega
        have hk0I : (0 : Int) ≤ (k0 : Int) := by omega
        have hnT2 : (n : Int) ≤ (T.size : Int) := by omega
        cases h47 : (cn == 47)
        · rw [h47] at e47n hD2
          have HDf : Hid (D = false) := Lib.hid (by rw [hD2]; rfl)
          clear hD2 h47
          go_wp2_with fail
          go_meet
          exact ⟨by rw [HDf.out], HA4⟩
        · rw [h47] at e47n hD2
          have HDt : Hid (D = complR (left T k0 n)) := Lib.hid (by rw [hD2]; rfl)
          clear hD2 h47
          have HCo := Lib.hid (fun W (hE : Env W) => by
            have h1 := complete_any (T.extract k0 n) W (by rw [Lib.size_eq, ext_left, left_len (by omega)]; omega) hE
            rw [ext_left] at h1
            exact h1)
          have HEc := Lib.hid (HE.out.under HA4.out.below)
          have HCo2 := Lib.hid (HCo.out _ HEc.out)
          go_wp2_with (go_at_call 107; refine HCo2.out.mono ?_; rintro E w6 ⟨rfl, hb6⟩; have HA6 := Lib.hid (HA4.out.under hb6); clear hb6)
          go_meet
          exact ⟨by rw [HDt.out], HA6⟩
      · have hD1 := HD1.out hkn
        have HDf : Hid (D = false) := Lib.hid hD1
        have hknI : ¬ (k0 : Int) ≤ (n : Int) := by omega
        clear hD1
        go_wp2_with fail
        go_meet
        exact ⟨by rw [HDf.out], HA4⟩
    case rest =>
      obtain ⟨rfl, HA5⟩ := hcut
      clear HA4
      obtain ⟨e, he⟩ : ∃ e, e = if D then n else T.size := ⟨_, rfl⟩
      have HEe := Lib.hid he
      rw [← he] at HP
      clear he
      go_upto_if 43 with fail
      go_cut [] from 12 to 60 (fun wx => Hid (GlAt ga na rb T w wx k0 e rt D))
      case first =>
        cases D
        · have hk : e = T.size := HEe.out
          subst hk
          go_wp2_with fail
          go_meet
          exact HA5
        · have hk : e = n := HEe.out
          subst hk
          have g1 := HA5.out.gl.cell (j := 1) rfl
          have f1 := Lib.frozen_of_heap HA5.out.gl 1
          have HA6 : Hid (GlAt ga na rb T w (wc.setCell ⟨ga, 1, none⟩ (.bool true)) k0 T.size rt true) := Lib.hid (HA5.out.setG hgn hgr hwg 1 (.bool true) rfl)
          go_upto_region 9 with fail
          clear g1 f1 HA5
          generalize wc.setCell _ _ = w6 at *
          have x2 := HA6.out.rd.cell (j := 2) rfl
          have f2 := Lib.frozen_of_heap HA6.out.rd 2
          have HA7 : Hid (GlAt ga na rb T w (w6.setCell ⟨rb, 2, none⟩ (.int .i64 e)) k0 e rt true) := Lib.hid (HA6.out.setR hgr hnr hwr 2 (.int .i64 e) rfl)
          go_wp2_with fail
          go_meet
          exact HA7
      case rest =>
        have HA6 := hcut
        clear hcut HA5
        rename_i wc
        have HK : Hid (k0 ≤ e ∧ e ≤ T.size) := Lib.hid (by
          have h1 := HEe.out
          have h2 := HK0.out
          have h3 : k0 ≤ 1 := by rw [h2]; split <;> decide
          cases hD : D
          · rw [hD] at h1
            have h1 : e = T.size := h1
            omega
          · have h4 : k0 ≤ n := Nat.le_of_not_lt fun h => by
              have := HD1.out (by omega)
              rw [hD] at this
              cases this
            rw [hD] at h1
            have h1 : e = n := h1
            omega)
        have HLi : Hid (Calls Tryz.prog 108 #[.pointer (some ⟨rb, 0, none⟩), .int .i64 0] wc (RdPost rb T e wc (PL false [] (left T k0 e)) (ListVal dep wc.heap.size))) := Lib.hid (by
          have hk := HK.out
          exact glist_all dep rb T k0 e 0 wc HA6.out.rd hk.1 hk.2 hs (by omega) (by rw [left_len hk.2]; omega) (HE.out.under HA6.out.below))
        have HWz := Lib.hid HA6.out.below.size
        obtain ⟨G, hG⟩ : ∃ G, PL false [] (left T k0 e) = G := ⟨_, rfl⟩
        rw [hG] at HLi HP
        have HG := Lib.hid hG
        clear hG
        cases G with
        | bad r =>
          have HRb : Hid (∃ m : Nat, R = .err m ∧ posOf T e r = m) := Lib.hid (by
            refine ⟨T.size - (r.length + if D then 1 else 0), HRv.out.symm.trans HP.out, ?_⟩
            have h1 := HEe.out
            have h2 := HNn.out
            have h3 := HG.out
            unfold posOf
            cases hD : D
            · rw [hD] at h1
              have h1 : e = T.size := h1
              by_cases hr : r = []
              · rw [if_pos hr, hr]
                rfl
              · rw [if_neg hr, h1]
                rfl
            · rw [hD] at h1
              have h1 : e = n := h1
              have h4 : k0 ≤ n := Nat.le_of_not_lt fun h => by
                have := HD1.out (by omega)
                rw [hD] at this
                cases this
              have h5 := HD2.out h4
              rw [hD, eq_comm, Bool.and_eq_true] at h5
              have h6 := h5.2
              unfold complR at h6
              rw [← h1, h3] at h6
              rw [if_neg (of_decide_eq_true h6), h1, h2]
              congr 1
              show n - r.length = n + 1 - (r.length + 1)
              omega)
          go_wp2_with (go_at_call 108; refine HLi.out.mono ?_; rintro E w7 ⟨rfl, hS7⟩; have HB7 := Lib.hid (HA6.out.below.trans (hS7.below hwr HWz.out)); have HG7 := Lib.hid (BoxIs.side HA6.out.gl hS7 hgr); have HN7 := Lib.hid (BoxIs.side HA6.out.num hS7 hnr); clear hS7)
          refine leaves_cons (f := 106) (args := #[.pointer (some ⟨ga, 0, none⟩), .pointer (some ⟨na, 0, none⟩)]) (by simp) (by simp [go_sem]) ?_
          refine (rg1_pan ga na rt D (.slice none 0 0) 0 (posOf T e r) [] _ HG7.out HN7.out hgn).mono ?_
          rintro e2 u' w'' ⟨rfl, rfl, hg, hnn, ht⟩
          have q0 := hg.cell (j := 0) rfl
          have q1 := hg.cell (j := 1) rfl
          have q2 := hg.cell (j := 2) rfl
          have q3 := hnn.cell (j := 0) rfl
          obtain ⟨m, hm1, hm2⟩ := HRb.out
          have hfin := HB7.out.trans (ht.below hwg hwn HB7.out.size)
          rw [hm2] at q3 ⊢
          clear hg hnn ht
          simp [Leaves, settle, results, Tryz.results48, go_sem, q0, q1, q2, q3]
          exact ⟨hfin, by rw [hm1]; rfl⟩
        | ok gps r =>
          go_upto_region 11 with (go_at_call 108; refine HLi.out.mono ?_; rintro E w7 ⟨v7, k7, rfl, ⟨s7, rfl, hm7, hg7⟩, -, -, -, hS7⟩; have HM7 := Lib.hid hm7; have HL7 := Lib.hid hg7; have HB7 := Lib.hid (HA6.out.below.trans (hS7.below hwr HWz.out)); have HG7 := Lib.hid (BoxIs.side HA6.out.gl hS7 hgr); have HN7 := Lib.hid (BoxIs.side HA6.out.num hS7 hnr); clear hS7 hm7 hg7; have g2 := HG7.out.cell (j := 2) rfl; have f2 := Lib.frozen_of_heap HG7.out 2)
          have HG8 := Lib.hid (HG7.out.put 2 (.slice s7.a s7.xs.length s7.c))
          have hs8 := (Side.refl ga w7).set 2 (.slice s7.a s7.xs.length s7.c)
          have HN8 := Lib.hid (BoxIs.side HN7.out hs8 (fun e => hgn e.symm))
          have HB8 := Lib.hid (HB7.out.trans (hs8.below hwg HB7.out.size))
          have HM8 := Lib.hid (HM7.out.same hs8.size (fun q hq => hs8.block q (HM7.out.fp q hq).2 (by have := (HM7.out.fp q hq).1; have := HA6.out.gl.lt; omega)))
          clear g2 f2 hs8
          generalize w7.setCell _ _ = w8 at *
          have g2 := HG8.out.cell (j := 2) rfl
          obtain ⟨N, hN⟩ : ∃ N, s7.xs.length = N := ⟨_, rfl⟩
          have HNl : Hid (gps.length = N) := Lib.hid (by rw [← HL7.out, List.length_map]; exact hN)
          by_cases hN0 : N = 0
          · subst hN0
            have hgn0 : gps = [] := List.eq_nil_of_length_eq_zero HNl.out
            have HRb : Hid (R = .err T.size) := Lib.hid (by
              have h1 := HP.out
              rw [hgn0] at h1
              exact HRv.out.symm.trans h1)
            clear hgn0
            rw [hN] at g2
            have HFl := Lib.hid (gfail_any rb T.size w8)
            go_wp2_with (go_at_call 109; refine HFl.out.mono ?_; rintro E wz ⟨rfl, hwz⟩; subst wz)
            refine leaves_cons (f := 106) (args := #[.pointer (some ⟨ga, 0, none⟩), .pointer (some ⟨na, 0, none⟩)]) (by simp) (by simp [go_sem]) ?_
            refine (rg1_pan ga na rt D (.slice s7.a s7.xs.length s7.c) 0 T.size [] _ HG8.out HN8.out hgn).mono ?_
            rintro e2 u' w'' ⟨rfl, rfl, hg, hnn, ht⟩
            have q0 := hg.cell (j := 0) rfl
            have q1 := hg.cell (j := 1) rfl
            have q2 := hg.cell (j := 2) rfl
            have q3 := hnn.cell (j := 0) rfl
            have hfin := HB8.out.trans (ht.below hwg hwn HB8.out.size)
            clear hg hnn ht
            simp [Leaves, settle, results, Tryz.results48, go_sem, q0, q1, q2, q3]
            exact ⟨hfin, by rw [HRb.out]; rfl⟩
          · have hz : ((N : Int) == 0) = false := by simpa using hN0
            have HRb : Hid (R = .ok rt D gps) := Lib.hid (by
              have h1 := HP.out
              cases hgp : gps with
              | nil =>
                have := HNl.out
                rw [hgp] at this
                exact absurd this.symm hN0
              | cons p l =>
                rw [hgp] at h1
                exact HRv.out.symm.trans h1)
            rw [hN] at g2 HG8
            have g0 := HG8.out.cell (j := 0) rfl
            have g1 := HG8.out.cell (j := 1) rfl
            have f0 := Lib.frozen_of_heap HG8.out 0
            have f1 := Lib.frozen_of_heap HG8.out 1
            have f2 := Lib.frozen_of_heap HG8.out 2
            have n0 := HN8.out.cell (j := 0) rfl
            have fn := Lib.frozen_of_heap HN8.out 0
            rw [hN]
            go_wp2_with fail
            have hs9 := (((Side.refl ga w8).set 0 (.bool rt)).set 1 (.bool D)).set 2 (.slice s7.a N s7.c)
            have HG9 := Lib.hid (((HG8.out.put 0 (.bool rt)).put 1 (.bool D)).put 2 (.slice s7.a N s7.c))
            have HN9 := Lib.hid (BoxIs.side HN8.out hs9 (fun e => hgn e.symm))
            have HB9 := Lib.hid (HB8.out.trans (hs9.below hwg HB8.out.size))
            have HM9 := Lib.hid (HM8.out.same hs9.size (fun q hq => hs9.block q (HM8.out.fp q hq).2 (by have := (HM8.out.fp q hq).1; have := HA6.out.gl.lt; omega)))
            clear g0 g1 g2 f0 f1 f2 n0 fn hs9
            generalize ((World.setCell _ _ _).setCell _ _).setCell _ _ = w9 at *
            have hs10 := (Side.refl na w9).set 0 (.int .i64 (-1))
            have HG10 := Lib.hid (BoxIs.side HG9.out hs10 hgn)
            have HN10 := Lib.hid (HN9.out.put 0 (.int .i64 (-1)))
            have HB10 := Lib.hid (HB9.out.trans (hs10.below hwn HB9.out.size))
            have HM10 := Lib.hid (HM9.out.same hs10.size (fun q hq => hs10.block q (HM9.out.fp q hq).2 (by have := (HM9.out.fp q hq).1; have := HA6.out.num.lt; omega)))
            clear hs10
            generalize w9.setCell _ _ = w10 at *
            refine leaves_cons (f := 106) (args := #[.pointer (some ⟨ga, 0, none⟩), .pointer (some ⟨na, 0, none⟩)]) (by simp) (by simp [go_sem]) ?_
            refine (rg1_idle ⟨ga, 0, none⟩ ⟨na, 0, none⟩ _).mono ?_
            rintro e2 u' w'' ⟨rfl, rfl, rfl⟩
            have q0 : w''.cell? ⟨ga, 0, none⟩ = some (.bool rt) := HG10.out.cell (j := 0) rfl
            have q1 : w''.cell? ⟨ga, 1, none⟩ = some (.bool D) := HG10.out.cell (j := 1) rfl
            have q2 : w''.cell? ⟨ga, 2, none⟩ = some (.slice s7.a N s7.c) := HG10.out.cell (j := 2) rfl
            have q3 : w''.cell? ⟨na, 0, none⟩ = some (.int .i64 (-1)) := HN10.out.cell (j := 0) rfl
            simp [Leaves, settle, results, Tryz.results48, go_sem, q0, q1, q2, q3]
            refine ⟨HB10.out, ?_⟩
            rw [HRb.out]
            exact ⟨s7, by rw [hN], HM10.out.mono HWz.out, HL7.out⟩
end Go.Proofs.YtfenmeacimfiaaaGreatDoor
namespace Go.Proofs.YtfenmeacimfiaaaGreatDoor
open Go.RowKit Wh.G

/-! The bulk of what is read. -/
theorem sum_gW {n : Nat} (ih : ∀ q : P n, Clean n q → sz n q = gP (gpOf n q)) : ∀ (ws : List (Sl (P n))), (∀ s ∈ ws, ∀ q ∈ s.xs, Clean n q) → (ws.map (fun s => 1 + (s.xs.map (sz n)).sum)).sum = gW (ws.map (fun s => s.xs.map (gpOf n)))
  | [], _ => rfl
  | s :: ws, h => by
    have hl : ∀ (xs : List (P n)), (∀ q ∈ xs, Clean n q) → (xs.map (sz n)).sum = gL (xs.map (gpOf n)) := by
      intro xs
      induction xs with
      | nil => intro _; rfl
      | cons q xs ih2 =>
        intro hc
        show sz n q + (xs.map (sz n)).sum = gP (gpOf n q) + gL (xs.map (gpOf n))
        rw [ih q (hc q (by simp)), ih2 (fun y hy => hc y (by simp [hy]))]
    show 1 + (s.xs.map (sz n)).sum + (ws.map (fun s => 1 + (s.xs.map (sz n)).sum)).sum = 1 + gL (s.xs.map (gpOf n)) + gW (ws.map (fun s => s.xs.map (gpOf n)))
    rw [hl s.xs (h s (by simp)), sum_gW ih ws (fun t ht => h t (by simp [ht]))]
theorem sz_gp : ∀ (n : Nat) (p : P n), Clean n p → sz n p = gP (gpOf n p)
  | 0, e, _ => nomatch e
  | n + 1, (p : PartOf (P n)), h => by
    obtain ⟨k, t, ng, rg, ws⟩ := p
    show 1 + t.size + rg.xs.length + (ws.xs.map (fun s => 1 + (s.xs.map (sz n)).sum)).sum = _
    rcases h with ⟨h1, h2, h3, h4⟩ | ⟨h1, h2, h3, h4, h5⟩ | ⟨h1, h2, h3⟩ | ⟨h1, h2, h3, h4, h5⟩
    · have h1 : k = 1 := h1
      have h3 : rg.xs = [] := h3
      have h4 : ws.xs = [] := h4
      subst h1
      rw [h3, h4, Lib.size_eq]
      rfl
    · have h2 : t.data.toList = [] := h2
      have h4 : rg.xs = [] := h4
      have h5 : ws.xs = [] := h5
      rw [h4, h5, Lib.size_eq, h2]
      rcases h1 with h1 | h1 | h1
      all_goals
        have h1 : k = _ := h1
        subst h1
        rfl
    · have h1 : k = 5 := h1
      have h2 : t.data.toList = [] := h2
      have h3 : ws.xs = [] := h3
      subst h1
      rw [h3, Lib.size_eq, h2]
      show 1 + 0 + rg.xs.length + 0 = 1 + rg.xs.length
      omega
    · have h1 : k = 6 := h1
      have h2 : t.data.toList = [] := h2
      have h4 : rg.xs = [] := h4
      subst h1
      rw [h4, Lib.size_eq, h2, sum_gW (sz_gp n) ws.xs h5]
      show 1 + 0 + 0 + gW (ws.xs.map (fun s => s.xs.map (gpOf n))) = 1 + gW (ws.xs.map (fun s => s.xs.map (gpOf n)))
      omega
theorem szL_gp (n : Nat) : ∀ (xs : List (P n)), (∀ q ∈ xs, Clean n q) → szL n xs = gL (gpL n xs)
  | [], _ => rfl
  | q :: xs, h => by
    show sz n q + szL n xs = gP (gpOf n q) + gL (gpL n xs)
    rw [sz_gp n q (h q (by simp)), szL_gp n xs (fun y hy => h y (by simp [hy]))]
theorem body_len (t : List UInt8) : (bodyOf t).length ≤ t.length := by
  unfold bodyOf
  split
  · rw [List.length_tail]
    omega
  · exact Nat.le_refl _
theorem readG_sz {t : List UInt8} {rooted dirs : Bool} {l : List GP} (h : readG t = .ok rooted dirs l) : gL l ≤ 300 * t.length := by
  rw [readG_parts] at h
  unfold partsR at h
  have hb := body_len t
  have hl : (if dirsR t then (bodyOf t).dropLast else bodyOf t).length ≤ t.length := by
    split
    · rw [List.length_dropLast]
      omega
    · exact hb
  cases hp : PL false [] (if dirsR t then (bodyOf t).dropLast else bodyOf t) with
  | bad r => rw [hp] at h; cases h
  | ok a r =>
    have h1 := PL_sz hp
    rw [hp] at h
    cases a with
    | nil => cases h
    | cons p a =>
      injection h with _ _ h
      rw [← h]
      omega
end Go.Proofs.YtfenmeacimfiaaaGreatDoor
namespace Go.Proofs.YtfenmeacimfiaaaGreatDoor
open Go.RowKit Wh.G

abbrev gl0 : Value := .agg (glV false false none 0 0)
/-- What ParseGlob returns. -/
def PgPost (n z : Nat) (T : ByteArray) (v : Value) (w' : World) : Prop :=
  if T.size = 0 then v = .tuple #[gl0, .int .i64 0, .int .i64 21] else if 200 < T.size then v = .tuple #[gl0, .int .i64 0, .int .i64 8] else
  match readG T.data.toList with
  | .err k => v = .tuple #[gl0, .int .i64 k, .int .i64 9]
  | .ok rooted dirs l => ∃ s : Sl (P n), MadeL n z w' s ∧ gpL n s.xs = l ∧ if ckG rooted dirs n s.xs = 0 then v = .tuple #[.agg (glV rooted dirs s.a s.xs.length s.c), .int .i64 0, .int .i64 0] else v = .tuple #[gl0, .int .i64 0, .int .i64 (ckG rooted dirs n s.xs)]

/-- A glob's box is filled. -/
theorem gl_put {W : World} {r : Nat} {v0 v1 v2 : Value} (h : BoxIs W r #[v0, v1, v2] glTy) (u0 u1 u2 : Value) :
    BoxIs (((W.setCell ⟨r, 0, none⟩ u0).setCell ⟨r, 1, none⟩ u1).setCell ⟨r, 2, none⟩ u2) r #[u0, u1, u2] glTy ∧ Side r W (((W.setCell ⟨r, 0, none⟩ u0).setCell ⟨r, 1, none⟩ u1).setCell ⟨r, 2, none⟩ u2) :=
  ⟨((h.put 0 u0).put 1 u1).put 2 u2, (((Side.refl r W).set 0 u0).set 1 u1).set 2 u2⟩

set_option maxHeartbeats 4000000 in
set_option maxRecDepth 100000 in
theorem parseGlob_any (dep : Nat) (T : ByteArray) (w : World) (hs : T.size ≤ maxLen) (hD : T.size < dep) (hE : Env w) :
    Calls Tryz.prog 12 #[.string T] w fun e w' => ∃ v, e = .returned v ∧ Below w.heap.size w w' ∧ PgPost dep w.heap.size T v w' := by
  have HE := Lib.hid hE
  clear hE
  unfold maxLen at hs
  obtain ⟨PP, hPP⟩ : ∃ PP, PgPost dep w.heap.size T = PP := ⟨_, rfl⟩
  rw [hPP]
  have HPP := Lib.hid hPP
  clear hPP
  by_cases h0 : T.size = 0
  · have he : T.toList.isEmpty = true := by
      rw [Lib.toList_data, List.eq_nil_of_length_eq_zero ((Lib.size_eq T).symm.trans h0)]
      rfl
    have HFin : Hid (∀ w', PP (.tuple #[gl0, .int .i64 0, .int .i64 21]) w') := Lib.hid (fun w' => by
      rw [← HPP.out]
      unfold PgPost
      rw [if_pos h0])
    clear HPP hs h0
    have HB0 := Lib.hid (bAlloc (Below.refl w.heap.size w) (.cells (glV false false none 0 0) glTy))
    have HZ := Lib.hid (BoxIs.new w (glV false false none 0 0) glTy)
    go_enter Tryz.func12, Tryz.ntmps12
    go_upto_region 1 with fail
    obtain ⟨ga, hga⟩ : ∃ ga, ga = w.heap.size := ⟨_, rfl⟩
    rw [← hga]
    rw [← hga] at HZ
    have hwg : w.heap.size ≤ ga := by omega
    clear hga
    generalize w.alloc _ = w1 at *
    have g0 := HZ.out.cell (j := 0) rfl
    have g1 := HZ.out.cell (j := 1) rfl
    have g2 := HZ.out.cell (j := 2) rfl
    have f0 := Lib.frozen_of_heap HZ.out 0
    have f1 := Lib.frozen_of_heap HZ.out 1
    have f2 := Lib.frozen_of_heap HZ.out 2
    have HFn := Lib.hid (gl_put HZ.out (.bool false) (.bool false) (.slice none 0 0))
    go_wp2_with fail
    clear g0 g1 g2 f0 f1 f2
    generalize ((World.setCell _ _ _).setCell _ _).setCell _ _ = wf at *
    have d0 := HFn.out.1.cell (j := 0) rfl
    have d1 := HFn.out.1.cell (j := 1) rfl
    have d2 := HFn.out.1.cell (j := 2) rfl
    refine bodyPost_ret (v := .tuple #[gl0, .int .i64 0, .int .i64 21]) ?_ rfl ?_
    · simp [results, Tryz.f12]
      go_simp
    · exact ⟨_, rfl, HB0.out.trans (HFn.out.2.below hwg HB0.out.size), HFin.out _⟩
  have he : T.toList.isEmpty = false := by
    rw [Lib.toList_data]
    cases h : T.data.toList with
    | nil => exact absurd (by rw [Lib.size_eq, h]; rfl) h0
    | cons c r => rfl
  by_cases h200 : 200 < T.size
  · have HFin : Hid (∀ w', PP (.tuple #[gl0, .int .i64 0, .int .i64 8]) w') := Lib.hid (fun w' => by
      rw [← HPP.out]
      unfold PgPost
      rw [if_neg h0, if_pos h200])
    have h200I : (200 : Int) < (T.size : Int) := by omega
    clear HPP h0 h200
    have HB0 := Lib.hid (bAlloc (Below.refl w.heap.size w) (.cells (glV false false none 0 0) glTy))
    have HZ := Lib.hid (BoxIs.new w (glV false false none 0 0) glTy)
    go_enter Tryz.func12, Tryz.ntmps12
    go_upto_region 1 with fail
    obtain ⟨ga, hga⟩ : ∃ ga, ga = w.heap.size := ⟨_, rfl⟩
    rw [← hga]
    rw [← hga] at HZ
    have hwg : w.heap.size ≤ ga := by omega
    clear hga
    generalize w.alloc _ = w1 at *
    have g0 := HZ.out.cell (j := 0) rfl
    have g1 := HZ.out.cell (j := 1) rfl
    have g2 := HZ.out.cell (j := 2) rfl
    have f0 := Lib.frozen_of_heap HZ.out 0
    have f1 := Lib.frozen_of_heap HZ.out 1
    have f2 := Lib.frozen_of_heap HZ.out 2
    have HFn := Lib.hid (gl_put HZ.out (.bool false) (.bool false) (.slice none 0 0))
    go_wp2_with fail
    clear g0 g1 g2 f0 f1 f2
    generalize ((World.setCell _ _ _).setCell _ _).setCell _ _ = wf at *
    have d0 := HFn.out.1.cell (j := 0) rfl
    have d1 := HFn.out.1.cell (j := 1) rfl
    have d2 := HFn.out.1.cell (j := 2) rfl
    refine bodyPost_ret (v := .tuple #[gl0, .int .i64 0, .int .i64 8]) ?_ rfl ?_
    · simp [results, Tryz.f12]
      go_simp
    · exact ⟨_, rfl, HB0.out.trans (HFn.out.2.below hwg HB0.out.size), HFin.out _⟩
  have h200I : ¬ (200 : Int) < (T.size : Int) := by omega
  have HRd := Lib.hid (fun W (hE : Env W) => readGlob_any dep T W (by omega) (by omega) hD hE)
  obtain ⟨R, hR⟩ : ∃ R, readG T.data.toList = R := ⟨_, rfl⟩
  rw [hR] at HRd
  cases R with
  | err k =>
    have HFin : Hid (∀ w', PP (.tuple #[gl0, .int .i64 k, .int .i64 9]) w') := Lib.hid (fun w' => by
      rw [← HPP.out]
      unfold PgPost
      rw [if_neg h0, if_neg h200, hR])
    have hk0 : (0 : Int) ≤ (k : Int) := by omega
    clear HPP h0 h200 hR
    have HB0 := Lib.hid (bAlloc (Below.refl w.heap.size w) (.cells (glV false false none 0 0) glTy))
    have HZ := Lib.hid (BoxIs.new w (glV false false none 0 0) glTy)
    go_enter Tryz.func12, Tryz.ntmps12
    go_upto_region 1 with fail
    obtain ⟨ga, hga⟩ : ∃ ga, ga = w.heap.size := ⟨_, rfl⟩
    rw [← hga]
    rw [← hga] at HZ
    have hwg : w.heap.size ≤ ga := by omega
    clear hga
    generalize w.alloc _ = w1 at *
    have HRd1 := Lib.hid (HRd.out w1 (HE.out.under HB0.out))
    go_upto_region 6 with (go_at_call 48; refine HRd1.out.mono ?_; rintro E w2 ⟨v2, rfl, hB2, rfl⟩; have HB2 := Lib.hid hB2; clear hB2)
    have HB3 := Lib.hid (bAlloc (Below.refl w2.heap.size w2) (.cells (glV false false none 0 0) glTy))
    have HZ3 := Lib.hid (BoxIs.under (BoxIs.under HZ.out HB2.out) HB3.out)
    have HBb := Lib.hid ((HB0.out.trans (HB2.out.mono HB0.out.size)).trans (HB3.out.mono (Nat.le_trans HB0.out.size HB2.out.size)))
    generalize w2.alloc _ = w3 at *
    have g0 := HZ3.out.cell (j := 0) rfl
    have g1 := HZ3.out.cell (j := 1) rfl
    have g2 := HZ3.out.cell (j := 2) rfl
    have f0 := Lib.frozen_of_heap HZ3.out 0
    have f1 := Lib.frozen_of_heap HZ3.out 1
    have f2 := Lib.frozen_of_heap HZ3.out 2
    have HFn := Lib.hid (gl_put HZ3.out (.bool false) (.bool false) (.slice none 0 0))
    go_wp2_with fail
    clear g0 g1 g2 f0 f1 f2
    generalize ((World.setCell _ _ _).setCell _ _).setCell _ _ = wf at *
    have d0 := HFn.out.1.cell (j := 0) rfl
    have d1 := HFn.out.1.cell (j := 1) rfl
    have d2 := HFn.out.1.cell (j := 2) rfl
    refine bodyPost_ret (v := .tuple #[gl0, .int .i64 k, .int .i64 9]) ?_ rfl ?_
    · simp [results, Tryz.f12]
      go_simp
    · exact ⟨_, rfl, HBb.out.trans (HFn.out.2.below hwg HBb.out.size), HFin.out _⟩
  | ok rooted dirs l =>
    have HFin : Hid (∀ (s : Sl (P dep)) w', MadeL dep w.heap.size w' s → gpL dep s.xs = l → (ckG rooted dirs dep s.xs = 0 → PP (.tuple #[.agg (glV rooted dirs s.a s.xs.length s.c), .int .i64 0, .int .i64 0]) w') ∧ (ckG rooted dirs dep s.xs ≠ 0 → PP (.tuple #[gl0, .int .i64 0, .int .i64 (ckG rooted dirs dep s.xs)]) w')) := Lib.hid (fun s w' hm hg => by
      rw [← HPP.out]
      constructor
      · intro h
        unfold PgPost
        rw [if_neg h0, if_neg h200, hR]
        exact ⟨s, hm, hg, by rw [if_pos h]⟩
      · intro h
        unfold PgPost
        rw [if_neg h0, if_neg h200, hR]
        exact ⟨s, hm, hg, by rw [if_neg h]⟩)
    have HSz : Hid (gL l ≤ 60000) := Lib.hid (by
      have := readG_sz hR
      rw [← Lib.size_eq] at this
      omega)
    clear HPP h0 h200 hR
    have HB0 := Lib.hid (bAlloc (Below.refl w.heap.size w) (.cells (glV false false none 0 0) glTy))
    have HZ := Lib.hid (BoxIs.new w (glV false false none 0 0) glTy)
    go_enter Tryz.func12, Tryz.ntmps12
    go_upto_region 1 with fail
    obtain ⟨ga, hga⟩ : ∃ ga, ga = w.heap.size := ⟨_, rfl⟩
    rw [← hga]
    rw [← hga] at HZ
    have hwg : w.heap.size ≤ ga := by omega
    clear hga
    generalize w.alloc _ = w1 at *
    have HRd1 := Lib.hid (HRd.out w1 (HE.out.under HB0.out))
    go_upto_region 6 with (go_at_call 48; refine HRd1.out.mono ?_; rintro E w2 ⟨v2, rfl, hB2, s2, rfl, hm2, hg2⟩; have HB2 := Lib.hid hB2; have HM2 := Lib.hid hm2; have HG2 := Lib.hid hg2; clear hB2 hm2 hg2)
    have HB3 := Lib.hid (bAlloc (Below.refl w2.heap.size w2) (.cells (glV rooted dirs s2.a s2.xs.length s2.c) glTy))
    have HX3 := Lib.hid (BoxIs.new w2 (glV rooted dirs s2.a s2.xs.length s2.c) glTy)
    have HZ3 := Lib.hid (BoxIs.under (BoxIs.under HZ.out HB2.out) HB3.out)
    have HBb := Lib.hid ((HB0.out.trans (HB2.out.mono HB0.out.size)).trans (HB3.out.mono (Nat.le_trans HB0.out.size HB2.out.size)))
    have HM3 := Lib.hid (HM2.out.same HB3.out.size (fun q hq => HB3.out.block q (HM2.out.fp q hq).2))
    obtain ⟨xb, hxb⟩ : ∃ xb, xb = w2.heap.size := ⟨_, rfl⟩
    rw [← hxb] at HX3
    rw [← hxb]
    have hgx : Hid (ga ≠ xb) := Lib.hid (by have := (BoxIs.under HZ.out HB2.out).lt; omega)
    clear hxb HB3
    generalize w2.alloc _ = w3 at *
    have HCk := Lib.hid (checkGlob_any dep s2 rooted dirs w3 HM3.out.ok (by rw [szL_gp _ _ HM3.out.cl, HG2.out]; have := HSz.out; omega))
    obtain ⟨ce, hce⟩ : ∃ ce, ckG rooted dirs dep s2.xs = ce := ⟨_, rfl⟩
    rw [hce] at HCk
    have k0 := HX3.out.cell (j := 0) rfl
    have k1 := HX3.out.cell (j := 1) rfl
    have k2 := HX3.out.cell (j := 2) rfl
    go_upto_region 9 with (go_at_call 16; refine HCk.out.mono ?_; rintro E w4 ⟨rfl, hB4⟩; have HB4 := Lib.hid hB4; clear hB4)
    clear k0 k1 k2
    have HX4 := Lib.hid (HX3.out.under HB4.out)
    have HZ4 := Lib.hid (BoxIs.under HZ3.out HB4.out)
    have HBc := Lib.hid (HBb.out.trans (HB4.out.mono HBb.out.size))
    have HM4 := Lib.hid (HM3.out.same HB4.out.size (fun q hq => HB4.out.block q (HM3.out.fp q hq).2))
    have HCe := Lib.hid hce
    clear hce
    by_cases hc0 : ce = 0
    · subst hc0
      have k0 := HX4.out.cell (j := 0) rfl
      have k1 := HX4.out.cell (j := 1) rfl
      have k2 := HX4.out.cell (j := 2) rfl
      have g0 := HZ4.out.cell (j := 0) rfl
      have g1 := HZ4.out.cell (j := 1) rfl
      have g2 := HZ4.out.cell (j := 2) rfl
      have f0 := Lib.frozen_of_heap HZ4.out 0
      have f1 := Lib.frozen_of_heap HZ4.out 1
      have f2 := Lib.frozen_of_heap HZ4.out 2
      have HFn := Lib.hid (gl_put HZ4.out (.bool rooted) (.bool dirs) (.slice s2.a s2.xs.length s2.c))
      go_wp2_with fail
      clear g0 g1 g2 f0 f1 f2 k0 k1 k2
      generalize ((World.setCell _ _ _).setCell _ _).setCell _ _ = wf at *
      have d0 := HFn.out.1.cell (j := 0) rfl
      have d1 := HFn.out.1.cell (j := 1) rfl
      have d2 := HFn.out.1.cell (j := 2) rfl
      refine bodyPost_ret (v := .tuple #[.agg (glV rooted dirs s2.a s2.xs.length s2.c), .int .i64 0, .int .i64 0]) ?_ rfl ?_
      · simp [results, Tryz.f12]
        go_simp
      · exact ⟨_, rfl, HBc.out.trans (HFn.out.2.below hwg HBc.out.size), (HFin.out s2 wf ((HM4.out.same HFn.out.2.size (fun q hq => HFn.out.2.block q (HM4.out.fp q hq).2 (by have := (HM4.out.fp q hq).1; have := HZ.out.lt; omega))).mono HB0.out.size) HG2.out).1 HCe.out⟩
    · have hz : (ce == 0) = false := by simpa using hc0
      have HC0 := Lib.hid hc0
      clear hc0
      have g0 := HZ4.out.cell (j := 0) rfl
      have g1 := HZ4.out.cell (j := 1) rfl
      have g2 := HZ4.out.cell (j := 2) rfl
      have f0 := Lib.frozen_of_heap HZ4.out 0
      have f1 := Lib.frozen_of_heap HZ4.out 1
      have f2 := Lib.frozen_of_heap HZ4.out 2
      have HFn := Lib.hid (gl_put HZ4.out (.bool false) (.bool false) (.slice none 0 0))
      go_wp2_with fail
      clear g0 g1 g2 f0 f1 f2
      generalize ((World.setCell _ _ _).setCell _ _).setCell _ _ = wf at *
      have d0 := HFn.out.1.cell (j := 0) rfl
      have d1 := HFn.out.1.cell (j := 1) rfl
      have d2 := HFn.out.1.cell (j := 2) rfl
      refine bodyPost_ret (v := .tuple #[gl0, .int .i64 0, .int .i64 ce]) ?_ rfl ?_
      · simp [results, Tryz.f12]
        go_simp
      · exact ⟨_, rfl, HBc.out.trans (HFn.out.2.below hwg HBc.out.size), (by rw [← HCe.out]; exact (HFin.out s2 wf ((HM4.out.same HFn.out.2.size (fun q hq => HFn.out.2.block q (HM4.out.fp q hq).2 (by have := (HM4.out.fp q hq).1; have := HZ.out.lt; omega))).mono HB0.out.size) HG2.out).2 (by rw [HCe.out]; exact HC0.out))⟩
end Go.Proofs.YtfenmeacimfiaaaGreatDoor
