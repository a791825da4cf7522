/-
  Parts of the proof: TqL.
-/
import Derived.Shelf.SlSortCmp.Whole1
import Derived.Shelf.SlSortCmp.NoneTotal
import Derived.Shelf.GgSortFunc.Compose
import Derived.Deep.AppendLies
import Derived.Laws.OwnMore
import Derived.Test.YtchfhojighopkaaGreatDoorGuAL
import Derived.Test.YtchfhojighopkaaGreatDoorGuAS
import Derived.Test.YtchfhojighopkaaGreatDoorGuAJ
import Derived.Test.YtchfhojighopkaaGreatDoorGuAT
import Derived.Test.YtchfhojighopkaaGreatDoorGuAC
namespace Wh
open Go
theorem cmpL_neg : ∀ a b : List UInt8, Lib.compareBytes a b < 0 ↔ Op.bytesLess a b = true
 | [], [] => by simp [Lib.compareBytes, Op.bytesLess]
 | [], _ :: _ => by simp [Lib.compareBytes, Op.bytesLess]
 | _ :: _, [] => by simp [Lib.compareBytes, Op.bytesLess]
 | x :: a, y :: b => by
  have ih := cmpL_neg a b
  rw [Lib.compareBytes, Op.bytesLess]
  by_cases h : x < y
  ·simp [h]
  ·by_cases h2 : y < x
   ·have h3 : x ≠ y := fun e => by subst e; exact h h2
    simp [h, h2, h3]
   ·have h3 : x = y := by
     rw [UInt8.lt_iff_toNat_lt] at h h2
     exact UInt8.toNat_inj.1 (by omega)
    subst h3
    simpa [h] using ih
end Wh
namespace Go.Proofs.YtchfhojighopkaaGreatDoor
open Go.RowKit
def ltN (a b : ByteArray) : Bool := Op.bytesLess a.toList b.toList
def cmpN (a b : ByteArray) : Int := Lib.compareBytes a.data.toList b.data.toList
theorem ltN_of (a b : ByteArray) : decide (cmpN a b < 0) = ltN a b := by
 unfold cmpN ltN
 rw [Lib.toList_data, Lib.toList_data, Bool.eq_iff_iff, decide_eq_true_eq]
 exact Wh.cmpL_neg _ _
theorem ltN_irrefl (a : ByteArray) : ltN a a = false := Wh.bytesLess_irrefl _
theorem ltN_trans {a b c : ByteArray} (h1 : ltN a b = true) (h2 : ltN b c = true) : ltN a c = true := Wh.bytesLess_trans _ _ _ h1 h2
theorem ltN_tri {a b : ByteArray} (h1 : ltN a b = false) (h2 : ltN b a = false) : a = b := by
 have := Wh.bytesLess_flip a.toList b.toList
 unfold ltN at h1 h2
 rw [h1, h2] at this
 simp at this
 rw [Lib.toList_data, Lib.toList_data] at this
 exact Wh.map_data_inj (xs := [a]) (ys := [b]) (by simp [this]) |> fun h => by injection h
theorem enters_ord1 : ∀ args w, (callFunc 168 args).run Tryz.prog w = .ok (.enter 168 args) w := enters_of Tryz.func168 (by kernel_rfl) rfl
set_option maxHeartbeats 1000000 in
theorem cmpNode_any (x y : Nat) (a b : ByteArray) (w : World) (hx : w.cell? ⟨x, 0, none⟩ = some (.string a)) (hy : w.cell? ⟨y, 0, none⟩ = some (.string b)) :
  Calls Tryz.prog 168 #[ptr x, ptr y] w fun e w' => e = .returned (.int .i64 (cmpN a b)) ∧ ∃ n, w' = w.drewN n := by
 have HC := Lib.hid (fun W => Tryz.strings_Compare a b W)
 obtain ⟨z, hz⟩ : ∃ z, cmpN a b = z := ⟨_, rfl⟩
 unfold cmpN at hz
 rw [hz] at HC
 rw [show cmpN a b = z from hz]
 clear hz
 go_enter Tryz.func168, Tryz.ntmps168
 go_wp2_with fail
 go_quiet ((go_at_call 169; exact Calls.quiet_of_same (HC.out _)))
 go_wp2_with fail
 go_ret
 exact ⟨rfl, nq, rfl⟩
/-- A node whose name stands in a world, off the row. -/
abbrev NdIn (w : World) (g : Nat) := {x : Nat × ByteArray // w.cell? ⟨x.1, 0, none⟩ = some (.string x.2) ∧ x.1 ≠ g ∧ x.1 < w.heap.size}
def encNd {w : World} {g : Nat} (x : NdIn w g) : Value := ptr x.1.1
def cfNd {w : World} {g : Nat} (x y : NdIn w g) : Int := cmpN x.1.2 y.1.2
theorem ltOf_nd {w : World} {g : Nat} (x y : NdIn w g) : ltOf cfNd x y = ltN x.1.2 y.1.2 := ltN_of _ _
theorem swoNd (w : World) (g : Nat) : Sort.SWO (ltOf (cfNd (w := w) (g := g))) where
 irrefl x := by rw [ltOf_nd]; exact ltN_irrefl _
 trans x y z h1 h2 := by
  rw [ltOf_nd] at *
  exact ltN_trans h1 h2
 ntrans x y z h1 h2 := by
  rw [ltOf_nd] at *
  cases h3 : ltN x.1.2 z.1.2 with
  | false => rfl
  | true =>
   cases h4 : ltN y.1.2 x.1.2 with
   | true =>
    rw [ltN_trans h4 h3] at h2
    cases h2
   | false =>
    have := ltN_tri h1 h4
    rw [this, h2] at h3
    cases h3
theorem cmpLaysNd (g off size : Nat) (w : World) [Inhabited (NdIn w g)] : CmpLays1 Tryz.prog 168 #[] (encNd (w := w) (g := g)) cfNd g off size w := by
 intro m os dk _ x y
 have hc : ∀ z : NdIn w g, (sortWorld (encNd (w := w) (g := g)) w g off m dk os).cell? ⟨z.1.1, 0, none⟩ = some (.string z.1.2) := fun z => by
  obtain ⟨⟨b, s⟩, h1, h2, h3⟩ := z
  unfold sortWorld
  rw [Sort.cell?_grow _ _ _ (by rw [Sort.size_putRow]; exact h3), Sort.cell?_putRow_other _ _ _ _ _ _ (.inl h2)]
  exact h1
 refine (cmpNode_any x.1.1 y.1.1 x.1.2 y.1.2 _ (hc x) (hc y)).mono ?_
 rintro e w' ⟨rfl, n, rfl⟩
 exact ⟨rfl, n, #[], by rw [Sort.grow_empty]⟩
/-- What the sort leaves: the row by rising names. -/
def SortNdPost (w : World) (g : Nat) (l : List (Nat × ByteArray)) (e : Ending) (w' : World) : Prop :=
 e = .returned (.tuple #[]) ∧ ∃ l' : List (Nat × ByteArray), l'.Perm l ∧ l'.Pairwise (fun x y => ltN x.2 y.2 = true) ∧ Holds w' (some ⟨g, 0, none⟩) (l'.map fun x => ptr x.1) ∧ Kp (fun i => i = g) w w'
theorem kp_sortWorld {α : Type} [Inhabited α] (enc : α → Value) (w : World) (g off n : Nat) (d : Array α) (os : Array Obj) : Kp (fun i => i = g) w (sortWorld enc w g off n d os) := by
 refine ⟨rfl, rfl, rfl, ?_, fun i hi hne => ?_⟩
 ·unfold sortWorld
  rw [Sort.size_grow, Sort.size_putRow]
  exact Nat.le_add_right _ _
 ·unfold sortWorld Sort.grow Sort.putRow Sort.mapBlock Sort.ahead
  simp only
  rw [Array.getElem?_append_left (by simp; omega), Array.getElem?_modify, if_neg (fun e => hne e.symm)]
set_option maxRecDepth 100000 in
theorem sortNd_any {w : World} {g cap : Nat} {cur : Array Value} {t : TypeId} (l : List (Nat × ByteArray)) (hg : w.heap[g]? = some (.cells cur t (0, 0))) (hc : ∀ k x, l[k]? = some x → w.cell? ⟨g, k, none⟩ = some (ptr x.1))
  (hnm : ∀ x ∈ l, w.cell? ⟨x.1, 0, none⟩ = some (.string x.2) ∧ x.1 ≠ g) (hne : l.Pairwise (fun x y => x.2 ≠ y.2)) (hl : l.length < 4611686018427387904) (h0 : l ≠ []) :
  Calls Tryz.prog 167 #[.slice (some ⟨g, 0, none⟩) l.length cap, .func (.func 168) #[] #[]] w (SortNdPost w g l) := by
 have hin : ∀ x ∈ l, w.cell? ⟨x.1, 0, none⟩ = some (.string x.2) ∧ x.1 ≠ g ∧ x.1 < w.heap.size := fun x hx => ⟨(hnm x hx).1, (hnm x hx).2, cell_lt (hnm x hx).1⟩
 have hgl := (Array.getElem?_eq_some_iff.1 hg).1
 obtain ⟨d, hd⟩ : ∃ d : Array (NdIn w g), d.toList.map (·.1) = l := ⟨(l.attach.map fun x => ⟨x.1, hin x.1 x.2⟩).toArray, by rw [List.toList_toArray, List.map_map]; exact List.attach_map_subtype_val l⟩
 have hds : d.size = l.length := by rw [← hd]; simp
 have hd0 : 0 < d.size := by rw [hds]; exact List.length_pos_iff.2 h0
 haveI : Inhabited (NdIn w g) := ⟨d[0]⟩
 have hH : Sort.Holds encNd w g 0 d := fun j hj => by
  refine ⟨?_, by simp [World.frozen?, hg]⟩
  rw [Nat.zero_add, getElem!_pos d j hj]
  refine hc j d[j].1 ?_
  rw [← hd, List.getElem?_map, Array.getElem?_toList, Array.getElem?_eq_getElem hj]
  rfl
 have hcon := Any.slices_SortFunc Tryz.sortNd encNd (fun _ => rfl) cfNd (swoNd w g) 168 #[] g 0 cap d w enters_ord1 (cmpLaysNd g 0 d.size w) hH hgl (by omega)
 rw [hds] at hcon
 refine hcon.mono ?_
 rintro e w' ⟨rfl, d', n, os, hp, hsd, rfl⟩
 have hsz := hp.1
 have hperm : d'.toList.Perm d.toList := by
  have e1 : d'.extract 0 l.length = d' := by rw [← hds, ← hsz]; simp
  have e2 : d.extract 0 l.length = d := by rw [← hds]; simp
  have := hp.2.2
  rw [e1, e2] at this
  exact this
 have hpm : (d'.toList.map (·.1)).Perm l := by rw [← hd]; exact hperm.map _
 refine ⟨rfl, d'.toList.map (·.1), hpm, ?_, ?_, kp_sortWorld _ _ _ _ _ _ _⟩
 ·have hn' : (d'.toList.map (·.1)).Pairwise (fun x y => x.2 ≠ y.2) := (hpm.pairwise_iff (fun h => Ne.symm h)).2 hne
  rw [List.pairwise_iff_getElem] at hn' ⊢
  intro i j hi hj hij
  have hne := hn' i j hi hj hij
  have hi' : i < d'.size := by simpa using hi
  have hj' : j < d'.size := by simpa using hj
  have h3 := hsd i j (Nat.zero_le _) hij (by omega)
  rw [getElem!_pos d' i hi', getElem!_pos d' j hj', ltOf_nd] at h3
  simp only [List.getElem_map, Array.getElem_toList] at *
  cases h4 : ltN d'[i].1.2 d'[j].1.2 with
  | true => rfl
  | false => exact absurd (ltN_tri h4 h3) hne
 ·have hh := holds_sortWorld encNd w g 0 n d d' os hgl hH hsz
  refine .inr ⟨g, 0, rfl, lt_sortWorld encNd w g 0 n d' os hgl, fun j u hu => ?_⟩
  rw [List.map_map, List.getElem?_map] at hu
  have hj : j < d'.size := by
   rcases Nat.lt_or_ge j d'.size with h | h
   ·exact h
   ·rw [Array.getElem?_toList, Array.getElem?_eq_none h] at hu
    cases hu
  rw [Array.getElem?_toList, Array.getElem?_eq_getElem hj] at hu
  injection hu with hu
  have := (hh j hj).1
  rw [getElem!_pos d' j hj] at this
  rw [this, ← hu]
  rfl
end Go.Proofs.YtchfhojighopkaaGreatDoor
namespace Go.Proofs.YtchfhojighopkaaGreatDoor
open Go.RowKit
/-- A row of structs of m cells each. -/
def RowG (e : TypeId) (m : Nat) (w : World) (B : Nat) (ra : Option Addr) (cap : Nat) (xs : List (List Value)) : Prop :=
 (∀ r ∈ xs, r.length = m) ∧ w.ownsRow B e m (.slice ra xs.length cap) xs.length xs.flatten
section
variable {e : TypeId} {m : Nat} {w : World} {B cap : Nat} {ra : Option Addr} {xs : List (List Value)}
theorem RowG.nil (e : TypeId) (m : Nat) (w : World) (B : Nat) : RowG e m w B none 0 [] := ⟨by simp, by simp, .inl ⟨rfl, rfl⟩⟩
theorem RowG.lower (h : RowG e m w B ra cap xs) {B' : Nat} (hb : B' ≤ B) : RowG e m w B' ra cap xs := by
 refine ⟨h.1, h.2.1, ?_⟩
 rcases h.2.2 with h1 | ⟨g, c, cur, h1, h2, h3⟩
 ·exact .inl h1
 ·exact .inr ⟨g, c, cur, h1, Nat.le_trans hb h2, h3⟩
theorem RowG.base (h : RowG e m w B ra cap xs) : ∀ i, rb ra i → B ≤ i ∧ i < w.heap.size := by
 rintro i ⟨a, rfl, rfl⟩
 rcases h.2.2 with ⟨h1, _⟩ | ⟨g, cap', cur, h1, h2, h3, _⟩
 ·cases h1
 ·injection h1 with h1
  injection h1 with h1
  subst h1
  exact ⟨h2, (Array.getElem?_eq_some_iff.1 h3).1⟩
theorem RowG.kp {F : Nat → Prop} {w' : World} (h : RowG e m w B ra cap xs) (hk : Kp F w w') (hF : ∀ i, rb ra i → ¬ F i) : RowG e m w' B ra cap xs := by
 refine ⟨h.1, h.2.1, ?_⟩
 rcases h.2.2 with h1 | ⟨g, cap', cur, h1, h2, h3, h4⟩
 ·exact .inl h1
 ·refine .inr ⟨g, cap', cur, h1, h2, ?_, h4⟩
  rw [hk.block g (Array.getElem?_eq_some_iff.1 h3).1 (hF g ?_)]
  ·exact h3
  ·injection h1 with h1
   exact ⟨_, h1, rfl⟩
theorem RowG.holds (hm : 0 < m) (h : RowG e m w B ra cap xs) : HoldsR w ra m xs := by
 rcases h.2.2 with ⟨hv, h0⟩ | ⟨g, cap', cur, hv, _, hg, hn, _, hsz, htk⟩
 ·rw [List.length_eq_zero_iff] at h0
  exact .inl h0
 ·injection hv with e1 _ _
  subst e1
  refine .inr ⟨g, 0, rfl, (Array.getElem?_eq_some_iff.1 hg).1, fun k row hk j u hu => ?_⟩
  have hrl : row.length = m := h.1 row (List.mem_of_getElem? hk)
  have hj : j < m := by have := (List.getElem?_eq_some_iff.1 hu).1; omega
  have hkl : k < xs.length := (List.getElem?_eq_some_iff.1 hk).1
  have hf := flat_get m hm xs h.1 (k * m + j)
  have e1 : (k * m + j) / m = k := by rw [Nat.mul_comm, Nat.mul_add_div hm, Nat.div_eq_of_lt hj, Nat.add_zero]
  have e2 : (k * m + j) % m = j := by rw [Nat.mul_comm, Nat.mul_add_mod, Nat.mod_eq_of_lt hj]
  rw [e1, e2, hk, Option.bind_some, hu] at hf
  have hlt : k * m + j < xs.length * m := by
   have : (k + 1) * m ≤ xs.length * m := Nat.mul_le_mul_right m hkl
   rw [Nat.succ_mul] at this
   omega
  rw [← htk, List.getElem?_take_of_lt hlt] at hf
  rw [Nat.zero_add]
  simp only [World.cell?, hg]
  simpa using hf
theorem RowG.some_of (h : RowG e m w B ra cap xs) (h0 : 0 < xs.length) : ∃ g, ra = some ⟨g, 0, none⟩ := by
 rcases h.2.2 with ⟨hv, h1⟩ | ⟨g, c, cur, hv, _⟩
 ·omega
 ·injection hv with e1 _ _
  exact ⟨g, e1⟩
end
/-- One struct that was built is appended, in a region that draws its order. -/
theorem wp_appG {P : Program} {K : Act → World → Prop} {o : Oper} {act : Act} {Q : Exit → Act → World → Prop} {t e te : TypeId} {i : TypeInfo} {z : Value} {m bytes : Nat} {w : World} {B cap : Nat} {ra : Option Addr} {xs : List (List Value)}
  (hR : RowG e m w B ra cap xs) (ht : P.underlying t = some (.slice e)) (hi : P.info? e = some i) (hz : i.zero = some z) (hz1 : i.size = m) (hz2 : i.bytes = bytes) (hz3 : z.cells.size = m) (hm0 : 0 < m) (hby : bytes ≤ 1000)
  (row : List Value) (hrow : row.length = m) (hone : ∀ u ∈ row, u.oneCell' = true) (hs : xs.length ≤ 1000000) (hB : B ≤ w.heap.size) (s x : Operand)
  (ho : o.op = .call { callee := .builtin .append, args := #[s, x], argTypes := #[t, t] }) (hsl : act.eval s = .slice ra xs.length cap) (hx : act.eval x = .slice (some ⟨w.heap.size, 0, none⟩) 1 1)
  (h : ∀ g cap' w', RowG e m w' B (some ⟨g, 0, none⟩) cap' (xs ++ [row]) → Kp (rb ra) w w' → (rb ra g ∨ w.heap.size ≤ g) → K (act.put o.dst (.slice (some ⟨g, 0, none⟩) (xs.length + 1) cap')) w') :
  Oper.wp P o act (w.alloc (.cells row.toArray te)) K Q := by
 have hba : B ≤ (w.alloc (.cells row.toArray te)).heap.size := by simp; omega
 have hal : Below w.heap.size w (w.alloc (.cells row.toArray te)) := bAlloc (Below.refl _ _) _
 have how : RowG e m (w.alloc (.cells row.toArray te)) B ra cap xs := hR.kp (Kp.of (F := fun _ => False) hal) (fun _ _ e => e)
 have hbyt : (xs.length + 1) * bytes ≤ 140737488355328 := by
  have : (xs.length + 1) * bytes ≤ (1000000 + 1) * 1000 := Nat.mul_le_mul (by omega) hby
  omega
 refine wp_append_lies _ s x t ho B e i z m bytes ht hi hz hz1 hz2 hz3 hm0 _ xs.length xs.flatten hsl how.2 ⟨w.heap.size, 0, none⟩ 1 1 row hx (by rw [hrow, Nat.one_mul]) (World.news_of_block (heap_alloc_new w _)) hone (by decide) (by unfold maxLen; omega) hbyt hba _ rfl ?_
 intro g cap' w' hown hgrow hat hlt
 refine h g cap' w' ⟨?_, ?_⟩ ?_ ?_
 ·intro r hr
  rcases List.mem_append.1 hr with hr | hr
  ·exact hR.1 r hr
  ·simp at hr
   rw [hr]; exact hrow
 ·rw [List.flatten_append, List.length_append]
  simpa using hown
 ·refine (Kp.of (F := rb ra) hal).trans ⟨hgrow.os, hgrow.tape, hgrow.output, hgrow.size, fun k hk hF => hgrow.block k hk (fun e => hF ?_)⟩
  cases ra with
  | none => cases e
  | some a =>
   have h9 : (some k : Option Nat) = some a.block := e
   injection h9 with h9
   exact ⟨a, rfl, h9⟩
 ·rcases hat with hat | hat
  ·left
   cases ra with
   | none => cases hat
   | some a =>
    have h9 : (some a.block : Option Nat) = some g := hat
    injection h9 with h9
    exact ⟨a, rfl, h9.symm⟩
  ·right
   have : (w.alloc (.cells row.toArray te)).heap.size = w.heap.size + 1 := by simp
   omega
/-- One struct that was built is appended. -/
theorem wpList_appG {P : Program} {ops : Array Oper} {rest : List Oper} {o : Oper} {act : Act} {Q : Exit → Act → World → Prop} {t e te : TypeId} {i : TypeInfo} {z : Value} {m bytes : Nat} {w : World} {B cap : Nat} {ra : Option Addr} {xs : List (List Value)}
  (hR : RowG e m w B ra cap xs) (ht : P.underlying t = some (.slice e)) (hi : P.info? e = some i) (hz : i.zero = some z) (hz1 : i.size = m) (hz2 : i.bytes = bytes) (hz3 : z.cells.size = m) (hm0 : 0 < m) (hby : bytes ≤ 1000)
  (row : List Value) (hrow : row.length = m) (hone : ∀ u ∈ row, u.oneCell' = true) (hs : xs.length ≤ 1000000) (hB : B ≤ w.heap.size) (hgd : o.guard = none) (s x : Operand)
  (ho : o.op = .call { callee := .builtin .append, args := #[s, x], argTypes := #[t, t] }) (hsl : act.eval s = .slice ra xs.length cap) (hx : act.eval x = .slice (some ⟨w.heap.size, 0, none⟩) 1 1)
  (h : ∀ g cap' w', RowG e m w' B (some ⟨g, 0, none⟩) cap' (xs ++ [row]) → Kp (rb ra) w w' → (rb ra g ∨ w.heap.size ≤ g) → wpList P ops Q rest (act.put o.dst (.slice (some ⟨g, 0, none⟩) (xs.length + 1) cap')) w') :
  wpList P ops Q (o :: rest) act (w.alloc (.cells row.toArray te)) :=
 wpList_plain hgd fun _ hK => wp_appG hR ht hi hz hz1 hz2 hz3 hm0 hby row hrow hone hs hB s x ho hsl hx (fun g cap' w' h1 h2 h3 => hK _ _ (h g cap' w' h1 h2 h3))
theorem RowG.ne {e : TypeId} {m : Nat} {w : World} {B cap : Nat} {ra : Option Addr} {xs : List (List Value)} (h : RowG e m w B ra cap xs) {b : Nat} {vs : Array Value} {t : TypeId} (k : BoxIs w b vs t) (hn : t ≠ e) : ¬ rb ra b := by
 rintro ⟨a, rfl, rfl⟩
 rcases h.2.2 with ⟨h1, _⟩ | ⟨g, cap', cur, h1, h2, h3, _⟩
 ·cases h1
 ·injection h1 with h1
  injection h1 with h1
  subst h1
  exact BoxIs.ne k (show BoxIs w g cur e from h3) hn rfl
theorem RowG.cell_at {e : TypeId} {m : Nat} {w : World} {B cap g : Nat} {xs : List (List Value)} (hm : 0 < m) (h : RowG e m w B (some ⟨g, 0, none⟩) cap xs) {k : Nat} {row : List Value} (hk : xs[k]? = some row) {j : Nat} {u : Value} (hu : row[j]? = some u) : w.cell? ⟨g, k * m + j, none⟩ = some u := by
 obtain ⟨b, off, ha, _, hc⟩ := (h.holds hm).at hk
 injection ha with ha
 injection ha with h1 h2
 subst h1 h2
 have := hc j u hu
 rw [Nat.zero_add] at this
 exact this
end Go.Proofs.YtchfhojighopkaaGreatDoor
namespace Go.Proofs.YtchfhojighopkaaGreatDoor
open Go.RowKit
/-- No more than so many nodes below the root. -/
def AtMost (F : Tr) (N : Nat) : Prop := ∀ l : List (List ByteArray), l.Nodup → (∀ ks ∈ l, ks ≠ [] ∧ ∃ n, F ks = some n) → l.length ≤ N
theorem perm_map_inv {α β : Type} {f : α → β} : ∀ {l' : List β} {l : List α}, l'.Perm (l.map f) → ∃ l2 : List α, l2.Perm l ∧ l' = l2.map f
 | [], l, h => by
  have := h.length_eq
  simp at this
  exact ⟨[], by rw [List.length_eq_zero_iff.1 this.symm], rfl⟩
 | y :: t, l, h => by
  have hy : y ∈ l.map f := h.mem_iff.1 (by simp)
  obtain ⟨x, hx, rfl⟩ := List.mem_map.1 hy
  obtain ⟨a, c, rfl⟩ := List.append_of_mem hx
  have h2 : (f x :: t).Perm (f x :: (a ++ c).map f) := by
   refine h.trans ?_
   rw [List.map_append, List.map_cons, List.map_append]
   exact List.perm_middle
  obtain ⟨l2, h3, h4⟩ := perm_map_inv h2.cons_inv
  exact ⟨x :: l2, (h3.cons x).trans List.perm_middle.symm, by rw [h4]; rfl⟩
theorem infoNodeN : (Tryz.prog.info? 105).map (fun i => (i.zero, i.size, i.bytes)) = some (some (.pointer none), 1, 8) := by kernel_rfl
/-- The kids of a directory, by rising names. -/
structure Kids (F : Tr) (ks : List ByteArray) (l : List Nd) : Prop where
 up : l.Pairwise (fun x y => ltN x.name y.name = true)
 mem : ∀ m, m ∈ l ↔ ∃ k, F (ks ++ [k]) = some m
def OrdPost (w : World) (F : Tr) (ks : List ByteArray) (e : Ending) (w' : World) : Prop :=
 ∃ (l : List Nd) (a : Option Addr) (cap : Nat), e = .returned (.slice a l.length cap) ∧ l.length ≤ 4000 ∧ Holds w' a (l.map fun n => ptr n.b) ∧ Below w.heap.size w w' ∧ Kids F ks l
theorem kids_le {F : Tr} {N : Nat} (h : AtMost F N) {ks : List ByteArray} {L : List (ByteArray × Value)} (hn : (L.map (fun kv => kv.1)).Nodup) (hm : ∀ q v, (q, v) ∈ L → F.kid ks q = some v) : L.length ≤ N := by
 have := h ((L.map (fun kv => kv.1)).map (fun q => ks ++ [q])) (List.pairwise_map.2 (hn.imp (fun h e => h (by simpa using e)))) (fun ls hl => by
  obtain ⟨q, hq, rfl⟩ := List.mem_map.1 hl
  obtain ⟨⟨q, v⟩, hv, rfl⟩ := List.mem_map.1 hq
  have h1 := hm q v hv
  refine ⟨by simp, ?_⟩
  unfold Tr.kid at h1
  cases hF : F (ks ++ [q]) with
  | none => rw [hF] at h1; cases h1
  | some c => exact ⟨c, rfl⟩)
 simpa using this
theorem RowG.ne_it {e : TypeId} {m B cap b r : Nat} {w : World} {ra : Option Addr} {xs : List (List Value)} {left : List (ByteArray × Value)} (h : RowG e m w B ra cap xs) (k : ItN w b r left) : ¬ Go.Proofs.YtchfhojighopkaaGreatDoor.rb ra r ∧ ¬ Go.Proofs.YtchfhojighopkaaGreatDoor.rb ra b := by
 obtain ⟨es, cl, since, c0, sn, hb, p1, p2, p3, p4, hr, p5⟩ := k
 constructor
 all_goals
  rintro ⟨a, rfl, rfl⟩
  rcases h.2.2 with ⟨hv, _⟩ | ⟨g, c, cur, hv, _, hg, _⟩
  ·cases hv
  ·injection hv with e1 e2 e3
   injection e1 with e1
   subst e1
   first
    | (rw [hg] at hr; cases hr)
    | (rw [hg] at hb; cases hb)
set_option maxHeartbeats 4000000 in
set_option maxRecDepth 100000 in
theorem orderedT_any (w : World) (B rb : Nat) (K : ByteArray → ByteArray) (F : Tr) (ks : List ByteArray) (n : Nd) (hT : TreeAt w B rb K F) (hn : F ks = some n) (hd : n.dir = true) (hmost : AtMost F 4000) :
  Calls Tryz.prog 165 #[ptr n.b] w (OrdPost w F ks) := by
 have HT := Lib.hid hT
 have hc : w.cell? ⟨n.b, 3, none⟩ = some (.map (some n.kb)) := by
  have := (nd_cells (hT.box ks n hn).1).2.2.2
  rw [hd] at this
  exact this
 have HK := Lib.hid (hT.kids ks n hn hd).1
 have HMo := Lib.hid hmost
 obtain ⟨iv, hiv, hz0, hz1, hz2⟩ := info_parts infoNodeN
 have HI := Lib.hid (And.intro hiv (And.intro hz0 (And.intro hz1 hz2)))
 have HN0 := Lib.hid (fun p cap W => AnyF.slices_SortFunc_none { Tryz.sortNd with } p cap (.func (.func 168) #[] #[]) W)
 have Hn := Lib.hid hn
 clear hT hn hd hmost hiv hz0 hz1 hz2
 go_enter Tryz.func165, Tryz.ntmps165
 go_upto_region 3 with (at_range; refine wpList_rangeN w HK.out rfl _ _ rfl Tryz.underlying106 rfl (fun w1 L hi1 hnd1 hm1 hb1 => ?_); have HIt := Lib.hid hi1; have HB1 := Lib.hid hb1; have HL := Lib.hid (And.intro hnd1 hm1); clear hi1 hb1 hnd1 hm1)
 try simp only [Act.put, List.setIfInBounds_toArray, List.set_cons_zero, List.set_cons_succ]
 obtain ⟨r, hr⟩ : ∃ r, w.heap.size = r := ⟨_, rfl⟩
 rw [hr] at HIt ⊢
 have HRz := Lib.hid hr
 clear hr
 have hLn : L.length ≤ 4000 := kids_le HMo.out HL.out.1 (fun q v h => (HL.out.2 q v).1 h)
 go_loopg [3] L.length (fun gk s3 wx => ∃ (acc left : List (ByteArray × Value)) (a : Option Addr) (cap : Nat), left.length = gk ∧ s3 = .slice a acc.length cap ∧ Hid (L.Perm (acc ++ left)) ∧ Hid (ItN wx n.kb r left) ∧ Hid (RowG 105 1 wx r a cap (acc.map fun kv => [kv.2])) ∧ Hid (Below r w wx))
 case atStart => exact ⟨[], L, none, 0, rfl, rfl, Lib.hid (List.Perm.refl _), HIt, Lib.hid (RowG.nil _ _ _ _), by rw [← HRz.out]; exact HB1⟩
 case round =>
  clear HIt HB1
  obtain ⟨acc, left, a, cap, hlg, rfl, HP, HIt, HR, HBx⟩ := hrel
  have hal : acc.length ≤ 4000 := by
   have := HP.out.length_eq
   rw [List.length_append] at this
   omega
  by_cases h0 : left = []
  ·subst h0
   have hnf := fun ty => HIt.out.next_false (P := Tryz.prog) ty
   have HKd : Hid (∀ kv ∈ acc, ∃ c, F (ks ++ [kv.1]) = some c ∧ kv.2 = ptr c.b) := Lib.hid (fun kv hkv => by
    have h1 : kv ∈ L := HP.out.mem_iff.2 (by simpa using hkv)
    have h2 := (HL.out.2 kv.1 kv.2).1 h1
    unfold Tr.kid at h2
    cases hF : F (ks ++ [kv.1]) with
    | none => rw [hF] at h2; cases h2
    | some c =>
     rw [hF] at h2
     injection h2 with h2
     exact ⟨c, rfl, h2.symm⟩)
   by_cases ha : acc = []
   ·subst ha
    have HNo : Hid (∀ k, F (ks ++ [k]) = none) := Lib.hid (fun k => by
     cases hF : F (ks ++ [k]) with
     | none => rfl
     | some c =>
      have h1 : (k, ptr c.b) ∈ L := (HL.out.2 _ _).2 (by unfold Tr.kid; rw [hF]; rfl)
      have := HP.out.mem_iff.1 h1
      simp at this)
    rw [List.length_nil]
    go_wp2_with (go_at_call 167; refine (HN0.out _ _ _).mono ?_; rintro e w2 ⟨rfl, hw⟩; have hw2 := hw.symm; clear hw; subst hw2)
    go_ret
    exact ⟨[], a, cap, rfl, Nat.zero_le _, .inl rfl, by rw [HRz.out]; exact HBx.out, List.Pairwise.nil, fun m => ⟨fun h => by simp at h, fun ⟨k, hk⟩ => by rw [HNo.out k] at hk; cases hk⟩⟩
   ·obtain ⟨nd, hnd⟩ : ∃ nd : ByteArray → Nd, ∀ kv ∈ acc, F (ks ++ [kv.1]) = some (nd kv.1) ∧ kv.2 = ptr (nd kv.1).b := ⟨fun q => (F (ks ++ [q])).getD n, fun kv hkv => by
     obtain ⟨c, h1, h2⟩ := HKd.out kv hkv
     refine ⟨?_, ?_⟩
     ·show F (ks ++ [kv.1]) = some ((F (ks ++ [kv.1])).getD n)
      rw [h1]
      rfl
     ·show kv.2 = ptr ((F (ks ++ [kv.1])).getD n).b
      rw [h1]
      exact h2⟩
    have HNd := Lib.hid hnd
    clear hnd
    obtain ⟨g, rfl⟩ := HR.out.some_of (by rw [List.length_map]; exact List.length_pos_iff.2 ha)
    have hTx := HT.out.under (w' := wr) (by rw [HRz.out]; exact HBx.out)
    have hgr := (HR.out.base g ⟨_, rfl, rfl⟩).1
    have HS : Hid (Calls Tryz.prog 167 #[.slice (some ⟨g, 0, none⟩) acc.length cap, .func (.func 168) #[] #[]] wr (SortNdPost wr g ((acc.map (fun kv => nd kv.1)).map (fun c => (c.b, c.name))))) := by
     obtain ⟨hm, hrow⟩ := HR.out
     rcases hrow.2 with ⟨hv, _⟩ | ⟨g', c', cur, hv, h1, hg, hn', hc', hsz, htk⟩
     ·cases hv
     ·injection hv with e1 e2 e3
      injection e1 with e1
      injection e1 with e1
      subst e1
      have hln : ((acc.map (fun kv => nd kv.1)).map (fun c => (c.b, c.name))).length = acc.length := by simp
      have := sortNd_any (w := wr) (g := g) (cap := cap) ((acc.map (fun kv => nd kv.1)).map (fun c => (c.b, c.name))) hg ?_ ?_ ?_ (by rw [hln]; omega) (by simpa using ha)
      ·rw [hln] at this
       exact Lib.hid this
      ·intro k x hx
       rw [List.map_map, List.getElem?_map] at hx
       cases hk : acc[k]? with
       | none => rw [hk] at hx; cases hx
       | some kv =>
        rw [hk] at hx
        injection hx with hx
        subst hx
        have h2 := HR.out.cell_at (by decide) (k := k) (j := 0) (by rw [List.getElem?_map, hk]; rfl) rfl
        rw [(HNd.out kv (List.mem_of_getElem? hk)).2] at h2
        simpa using h2
      ·intro x hx
       rw [List.map_map] at hx
       obtain ⟨kv, hkv, rfl⟩ := List.mem_map.1 hx
       have hF := (HNd.out kv hkv).1
       have hbx := (hTx.box _ _ hF).1
       refine ⟨(nd_cells hbx).1, fun e => ?_⟩
       have h9 := (HT.out.box _ _ hF).1.lt
       have h8 : (nd kv.1).b = g := e
       rw [h8, HRz.out] at h9
       omega
      ·have hnod := HL.out.1
       have h7 : ((acc ++ []).map (fun kv : ByteArray × Value => kv.1)).Nodup := (HP.out.map _).nodup_iff.1 hnod
       rw [List.append_nil] at h7
       rw [List.map_map]
       refine List.pairwise_map.2 ((List.pairwise_map.1 h7).imp_of_mem (fun {x y} hx hy hxy e => hxy ?_))
       have hx1 := (HT.out.dirs _ _ _ (HNd.out x hx).1).2.1
       have hy1 := (HT.out.dirs _ _ _ (HNd.out y hy).1).2.1
       have e' : (nd x.1).name = (nd y.1).name := e
       rw [← hx1, ← hy1, e']
    unfold SortNdPost at HS
    go_wp2_with (go_at_call 167; refine HS.out.mono ?_; rintro e w2 ⟨rfl, l', hp', hup', hh', hk'⟩)
    go_ret
    obtain ⟨l2, h2p, rfl⟩ := perm_map_inv hp'
    have hl2 : l2.length = acc.length := by rw [h2p.length_eq, List.length_map]
    refine ⟨l2, some ⟨g, 0, none⟩, cap, by rw [hl2]; rfl, by omega, ?_, ?_, ?_, ?_⟩
    ·rw [List.map_map] at hh'
     exact hh'
    ·rw [HRz.out]
     exact HBx.out.trans (hk'.below (fun i e => by rw [e]; exact hgr) (Nat.le_trans (Nat.le_of_eq HRz.out.symm) HBx.out.size))
    ·exact List.pairwise_map.1 hup'
    ·intro m
     rw [h2p.mem_iff, List.mem_map]
     constructor
     ·rintro ⟨kv, hkv, rfl⟩
      exact ⟨kv.1, (HNd.out kv hkv).1⟩
     ·rintro ⟨k, hk⟩
      have h1 : (k, ptr m.b) ∈ L := (HL.out.2 _ _).2 (by unfold Tr.kid; rw [hk]; rfl)
      have h2 := HP.out.mem_iff.1 h1
      rw [List.append_nil] at h2
      refine ⟨_, h2, ?_⟩
      have h3 := (HNd.out _ h2).1
      rw [hk] at h3
      injection h3 with h3
      exact h3.symm
  ·have hgp : 0 < gk := by rw [← hlg]; exact List.length_pos_iff.2 h0
   go_wp2_with (first
    | (at_next; refine wpList_nextN wr HIt.out h0 rfl _ rfl rfl (fun q v left' w1 hp1 hi1 hk1 he1 => ?_); have HI1 := Lib.hid hi1; have HB1 : Hid (Below r w w1) := Lib.hid (HBx.out.trans (hk1.below (fun i e => Nat.le_of_eq e.symm) (Nat.le_trans (Nat.le_of_eq HRz.out.symm) HBx.out.size))); have hen := he1; have hsz1 := (Nat.le_trans (Nat.le_of_eq HRz.out.symm) HB1.out.size); have HR1 : Hid (RowG 105 1 w1 r a cap (acc.map fun kv => [kv.2])) := Lib.hid (HR.out.kp hk1 (fun i hi e => (HR.out.ne_it HIt.out).1 (e ▸ hi))); have HP1 := Lib.hid hp1; have hv : ∃ b, v = ptr b := (by have h1 : (q, v) ∈ L := HP.out.mem_iff.2 (List.mem_append.2 (.inr (hp1.mem_iff.2 (by simp)))); have h2 := (HL.out.2 q v).1 h1; unfold Tr.kid at h2; cases hF : F (ks ++ [q]) with | none => rw [hF] at h2; cases h2 | some c => rw [hF] at h2; injection h2 with h2; exact ⟨c.b, h2.symm⟩); obtain ⟨vb, rfl⟩ := hv; clear hi1 hk1 he1 hp1)
    | (at_builtin; refine wpList_appG (w := w1) HR1.out Tryz.underlying263 HI.out.1 HI.out.2.1 HI.out.2.2.1 HI.out.2.2.2 rfl (by decide) (by decide) [ptr vb] rfl (by simp [Value.oneCell']) (by rw [List.length_map]; omega) hsz1 rfl (.tmp 15) (.tmp 17) rfl (by rw [List.length_map]; rfl) rfl (fun g7 cap7 w7 r1 r2 r3 => ?_); have HR7 := Lib.hid r1; have HI7 := Lib.hid (HI1.out.kp r2 (HR1.out.ne_it HI1.out).2 (HR1.out.ne_it HI1.out).1); have HB7 : Hid (Below r w w7) := Lib.hid (HB1.out.trans (r2.below (fun i hi => (HR1.out.base i hi).1) hsz1)); clear r1 r2 r3))
   go_roundg left'.length
   case measure =>
    have := HP1.out.length_eq
    rw [List.length_cons] at this
    omega
   case rel =>
    refine ⟨acc ++ [(q, ptr vb)], left', some ⟨g7, 0, none⟩, cap7, rfl, ?_, Lib.hid ?_, HI7, ?_, HB7⟩
    ·rw [List.length_append]
     rfl
    ·rw [List.append_assoc]
     exact HP.out.trans (HP1.out.append_left acc)
    ·rw [List.map_append]
     exact HR7
end Go.Proofs.YtchfhojighopkaaGreatDoor
namespace Go.Proofs.YtchfhojighopkaaGreatDoor
open Go.RowKit
theorem infoInfoT : (Tryz.prog.info? 37).map (fun i => (i.zero, i.size, i.bytes)) = some (some (.agg #[.string ByteArray.empty, .bool false, .int .i64 0, .int .i64 0, .slice none 0 0, .slice none 0 0, .string ByteArray.empty]), 7, 104) := by kernel_rfl
theorem Kids.unique {F : Tr} {ks : List ByteArray} {l m : List Nd} (h : Kids F ks l) (k : Kids F ks m) : l = m := by
 have nd : ∀ {l : List Nd}, l.Pairwise (fun x y => ltN x.name y.name = true) → l.Nodup := fun hp => hp.imp (fun {a b} h e => by rw [e, ltN_irrefl] at h; cases h)
 have hp : l.Perm m := (List.perm_ext_iff_of_nodup (nd h.up) (nd k.up)).2 (fun a => by rw [h.mem, k.mem])
 exact hp.eq_of_pairwise (fun a b _ _ h1 h2 => by have := ltN_trans h1 h2; rw [ltN_irrefl] at this; cases this) h.up k.up
/-- A kid lies under the key of its name. -/
theorem TreeAt.kid_at {w : World} {B rb : Nat} {K : ByteArray → ByteArray} {F : Tr} (h : TreeAt w B rb K F) {ks : List ByteArray} {l : List Nd} (hl : Kids F ks l) {m : Nd} (hm : m ∈ l) : F (ks ++ [K m.name]) = some m := by
 obtain ⟨k, hk⟩ := (hl.mem m).1 hm
 rw [(h.dirs _ _ _ hk).2.1]
 exact hk
end Go.Proofs.YtchfhojighopkaaGreatDoor
namespace Go.Proofs.YtchfhojighopkaaGreatDoor
open Go.RowKit
theorem Kp.extK {F G : Nat → Prop} {w w2 w3 : World} (h : Kp F w w2) (k : Kp G w2 w3) (hG : ∀ i, G i → F i ∨ w.heap.size ≤ i) : Kp F w w3 :=
 ⟨k.os.trans h.os, k.tape.trans h.tape, k.output.trans h.output, Nat.le_trans h.size k.size, fun b hb hF => (k.block b (Nat.lt_of_lt_of_le hb h.size) (fun g => (hG b g).elim hF (fun e => by omega))).trans (h.block b hb hF)⟩
/-- A row of structs is appended to another. -/
theorem wp_appRows {P : Program} {K : Act → World → Prop} {o : Oper} {act : Act} {Q : Exit → Act → World → Prop} {t e : TypeId} {i : TypeInfo} {z : Value} {m bytes : Nat} {w : World} {B B2 cap cap2 : Nat} {ra ra2 : Option Addr} {xs ys : List (List Value)}
  (hR : RowG e m w B ra cap xs) (hY : RowG e m w B2 ra2 cap2 ys) (hyn : ys = [] → ra2 = none ∧ cap2 = 0) (ht : P.underlying t = some (.slice e)) (hi : P.info? e = some i) (hz : i.zero = some z) (hz1 : i.size = m) (hz2 : i.bytes = bytes) (hz3 : z.cells.size = m) (hm0 : 0 < m) (hby : bytes ≤ 1000)
  (hone : ∀ r ∈ ys, ∀ u ∈ r, u.oneCell' = true) (hs : xs.length + ys.length ≤ 100000000) (hB : B ≤ w.heap.size) (s x : Operand)
  (ho : o.op = .call { callee := .builtin .append, args := #[s, x], argTypes := #[t, t] }) (hsl : act.eval s = .slice ra xs.length cap) (hx : act.eval x = .slice ra2 ys.length cap2)
  (h : ∀ a' cap' w', RowG e m w' B a' cap' (xs ++ ys) → Kp (rb ra) w w' → (∀ j, rb a' j → rb ra j ∨ w.heap.size ≤ j) → (ys = [] → a' = ra ∧ cap' = cap) → K (act.put o.dst (.slice a' (xs.length + ys.length) cap')) w') :
  Oper.wp P o act w K Q := by
 by_cases h0 : ys = []
 ·obtain ⟨rfl, rfl⟩ := hyn h0
  subst h0
  have hr := run_append_owned_none (P := P) (w := w) B t o.type e i m ht hi (.slice ra xs.length cap) xs.length xs.flatten hR.2
  have := h ra cap w (by rw [List.append_nil]; exact hR) (Kp.refl _ _) (fun j hj => .inl hj) (fun _ => ⟨rfl, rfl⟩)
  rw [List.length_nil] at hx this
  unfold Oper.wp execOp
  simp only [ho, resolve, invoke, builtin, Sem.run_bind, Sem.run_pure, Result.andThen_ok, List.map_toArray, List.map_cons, List.map_nil, hsl, hx, hr]
  exact this
 ·obtain ⟨g2, rfl⟩ := hY.some_of (List.length_pos_iff.2 h0)
  have hbyt : (xs.length + ys.length) * bytes ≤ 140737488355328 := by
   have : (xs.length + ys.length) * bytes ≤ 100000000 * 1000 := Nat.mul_le_mul hs hby
   omega
  have hfl : ys.flatten.length = ys.length * m := hY.2.1
  refine wp_append_lies _ s x t ho B e i z m bytes ht hi hz hz1 hz2 hz3 hm0 _ xs.length xs.flatten hsl hR.2 ⟨g2, 0, none⟩ ys.length cap2 ys.flatten hx hfl ?_ ?_ (List.length_pos_iff.2 h0) (by unfold maxLen; omega) hbyt hB _ rfl ?_
  ·intro j u hj
   have hadd : (⟨g2, 0, none⟩ : Addr).add j = ⟨g2, j, none⟩ := by unfold Addr.add; split <;> simp_all
   have hjl := (List.getElem?_eq_some_iff.1 hj).1
   rw [hadd, hY.2.cellAt j (by rw [← hfl]; exact hjl), hj]
  ·intro u hu
   obtain ⟨r, hr, hur⟩ := List.mem_flatten.1 hu
   exact hone r hr u hur
  ·intro g cap' w' hown hgrow hat hlt
   refine h (some ⟨g, 0, none⟩) cap' w' ⟨?_, ?_⟩ ?_ ?_ (fun e => absurd e h0)
   ·intro r hr
    rcases List.mem_append.1 hr with hr | hr
    ·exact hR.1 r hr
    ·exact hY.1 r hr
   ·rw [List.flatten_append, List.length_append]
    exact hown
   ·refine ⟨hgrow.os, hgrow.tape, hgrow.output, hgrow.size, fun k hk hF => hgrow.block k hk (fun e => hF ?_)⟩
    cases ra with
    | none => cases e
    | some a =>
     have h9 : (some k : Option Nat) = some a.block := e
     injection h9 with h9
     exact ⟨a, rfl, h9⟩
   ·rintro j ⟨a, ha, rfl⟩
    injection ha with ha
    subst ha
    rcases hat with hat | hat
    ·left
     cases ra with
     | none => cases hat
     | some a =>
      have h9 : (some a.block : Option Nat) = some g := hat
      injection h9 with h9
      exact ⟨a, rfl, h9.symm⟩
    ·right
     show w.heap.size ≤ g
     omega
theorem wpList_appRows {P : Program} {ops : Array Oper} {rest : List Oper} {o : Oper} {act : Act} {Q : Exit → Act → World → Prop} {t e : TypeId} {i : TypeInfo} {z : Value} {m bytes : Nat} {w : World} {B B2 cap cap2 : Nat} {ra ra2 : Option Addr} {xs ys : List (List Value)}
  (hR : RowG e m w B ra cap xs) (hY : RowG e m w B2 ra2 cap2 ys) (hyn : ys = [] → ra2 = none ∧ cap2 = 0) (ht : P.underlying t = some (.slice e)) (hi : P.info? e = some i) (hz : i.zero = some z) (hz1 : i.size = m) (hz2 : i.bytes = bytes) (hz3 : z.cells.size = m) (hm0 : 0 < m) (hby : bytes ≤ 1000)
  (hone : ∀ r ∈ ys, ∀ u ∈ r, u.oneCell' = true) (hs : xs.length + ys.length ≤ 100000000) (hB : B ≤ w.heap.size) (hgd : o.guard = none) (s x : Operand)
  (ho : o.op = .call { callee := .builtin .append, args := #[s, x], argTypes := #[t, t] }) (hsl : act.eval s = .slice ra xs.length cap) (hx : act.eval x = .slice ra2 ys.length cap2)
  (h : ∀ a' cap' w', RowG e m w' B a' cap' (xs ++ ys) → Kp (rb ra) w w' → (∀ j, rb a' j → rb ra j ∨ w.heap.size ≤ j) → (ys = [] → a' = ra ∧ cap' = cap) → wpList P ops Q rest (act.put o.dst (.slice a' (xs.length + ys.length) cap')) w') :
  wpList P ops Q (o :: rest) act w :=
 wpList_plain hgd fun _ hK => wp_appRows hR hY hyn ht hi hz hz1 hz2 hz3 hm0 hby hone hs hB s x ho hsl hx (fun a' cap' w' h1 h2 h3 h4 => hK _ _ (h a' cap' w' h1 h2 h3 h4))
theorem memM_list (w : World) (n : Nat) (v : Value) (hn : 0 < n) : (method n 28 v "List").run Tryz.prog w = .ok (161, v) w := by
 obtain ⟨i, hi, hm⟩ := Option.map_eq_some_iff.1 (show (Tryz.prog.info? 28).map (fun i => (i.methods.find? (·.name == "List")).map (fun m => (m.path.toList, m.func))) = some (some ([], some (161, true))) by kernel_rfl)
 exact method_ptr hi hm Tryz.underlying28 hn v
end Go.Proofs.YtchfhojighopkaaGreatDoor
