/-
  slices.SortFunc of the reference's changes.
-/
import Derived.Test.YtiliijiohmeagaaGreatDoorChg4
import Derived.Test.YtiliijiohmeagaaGreatDoorChg1
import Derived.Test.YtiliijiohmeagaaGreatDoorOrd
import Derived.Test.YtiliijiohmeagaaGreatDoorSortShelf
import Derived.Shelf.SlSortCmp.NoneTotal
namespace Go.Proofs.YtiliijiohmeagaaGreatDoor
open Go.RowKit Go.Sort

/-- A change whose path is no longer than an int says. -/
abbrev CChg := {c : Wh.Change // c.path.size ≤ 9223372036854775807}
instance : Inhabited CChg := ⟨⟨⟨0, ByteArray.empty⟩, by decide⟩⟩
def encC (x : CChg) : List Value := chgCells x.1
def cfC (x y : CChg) : Int := Wh.ordB x.1.path y.1.path

theorem enters_chg2 : ∀ args w, (callFunc 39 args).run Tryz.prog w = .ok (.enter 39 args) w := enters_of Tryz.func39 (by kernel_rfl) rfl

set_option maxHeartbeats 2000000 in
theorem chg2_any (x y : Wh.Change) (hx : x.path.size ≤ 9223372036854775807) (hy : y.path.size ≤ 9223372036854775807) (w : World) :
    Calls Tryz.prog 39 #[.agg #[.int .i64 x.kind, .string x.path], .agg #[.int .i64 y.kind, .string y.path]] w fun e w' => e = .returned (.int .i64 (Wh.ordB x.path y.path)) ∧ ∃ q os', w' = grow (w.drewN q) os' := by
  have HC : Hid (∀ W, Calls Tryz.prog 33 #[.string x.path, .string y.path] W fun e w' => e = .returned (.int .i64 (Wh.ordB x.path y.path)) ∧ ∃ n, w' = W.drewN n) := Lib.hid (fun W => order_drew x.path y.path W hx hy)
  clear hx hy
  generalize Wh.ordB x.path y.path = R at *
  go_enter Tryz.func39, Tryz.ntmps39
  go_wp2_with (go_at_call 33; refine (HC.out _).mono ?_; rintro e w' ⟨rfl, n, rfl⟩)
  go_ret
  refine ⟨rfl, n, #[.cells #[.int .i64 x.kind, .string x.path] 97, .cells #[.int .i64 y.kind, .string y.path] 97], ?_⟩
  rw [alloc_eq_grow, alloc_eq_grow, grow_grow]
  rfl

theorem cmpLaysC (blk off size : Nat) (w : World) : CmpLays Tryz.prog 39 #[] encC 2 cfC blk off size w :=
  fun _ _ _ _ x y => chg2_any x.1 y.1 x.2 y.2 _

theorem swoCC : SWO (ltOf cfC) where
  irrefl x := Wh.swoC.irrefl x.1
  trans x y z := Wh.swoC.trans x.1 y.1 z.1
  ntrans x y z := Wh.swoC.ntrans x.1 y.1 z.1

theorem below_sort {α : Type} [Inhabited α] (enc : α → List Value) (k : Nat) (w : World) (g off n B : Nat) (d : Array α) (os : Array Obj) (hB : B ≤ g) (hs : B ≤ w.heap.size) : Below B w (sortWorldK enc k w g off n d os) := by
  refine ⟨rfl, rfl, rfl, size_sortWorldK_c enc k w g off n d os, fun i hi => ?_⟩
  unfold sortWorldK grow putRowK putRow mapBlock Sort.ahead
  simp only
  rw [Array.getElem?_append_left (by simp; omega), Array.getElem?_modify, if_neg (by omega)]

theorem holdsK_of {w : World} {g : Nat} {cur : Array Value} {t : TypeId} {d : Array CChg} (hg : w.heap[g]? = some (.cells cur t (0, 0))) (hH : HoldsR w (some ⟨g, 0, none⟩) 2 (d.toList.map encC)) : HoldsK encC 2 w g 0 d := by
  intro j hj
  rw [size_flatK] at hj
  have hk : j / 2 < d.size := by omega
  refine ⟨?_, by simp [World.frozen?, hg]⟩
  rw [get_flatK _ _ _ _ hj]
  obtain ⟨b, o, e, _, hc⟩ := hH.at (k := j / 2) (row := encC d[j / 2]) (by simp [hk])
  injection e with e
  injection e with e1 e2
  subst e1 e2
  rw [getElem!_pos d (j / 2) hk]
  have hl : (encC d[j / 2]).length = 2 := rfl
  have := hc (j % 2) ((encC d[j / 2])[j % 2]'(by omega)) (List.getElem?_eq_getElem _)
  rw [show 0 + j / 2 * 2 + j % 2 = 0 + j by omega] at this
  rw [this, getElem!_pos (encC d[j / 2]) (j % 2) (by omega)]
  rfl

theorem of_holdsK {w : World} {g : Nat} {d : Array CChg} (hg : g < w.heap.size) (hK : HoldsK encC 2 w g 0 d) : HoldsR w (some ⟨g, 0, none⟩) 2 (d.toList.map encC) := by
  refine .inr ⟨g, 0, rfl, hg, fun k row hk j u hu => ?_⟩
  rw [List.getElem?_map] at hk
  have hkl : k < d.size := by
    rcases Nat.lt_or_ge k d.size with h | h
    · exact h
    · rw [List.getElem?_eq_none (by simpa using h)] at hk; simp at hk
  have hr : row = encC d[k] := by
    rw [List.getElem?_eq_getElem (by simpa using hkl)] at hk
    simpa using hk.symm
  subst hr
  have hl : (encC d[k]).length = 2 := rfl
  have hj : j < 2 := by have := (List.getElem?_eq_some_iff.1 hu).1; omega
  have := (hK (k * 2 + j) (by rw [size_flatK]; omega)).1
  rw [get_flatK _ _ _ _ (by omega), show (k * 2 + j) / 2 = k by omega, show (k * 2 + j) % 2 = j by omega, getElem!_pos d k hkl, getElem!_pos (encC d[k]) j (by omega)] at this
  rw [show 0 + k * 2 + j = 0 + (k * 2 + j) by omega, this]
  rw [(List.getElem?_eq_some_iff.1 hu).2]
  rfl

/-- What the sort leaves. -/
def SortPost (w0 : World) (a : Option Addr) (acc : List Wh.Change) (e : Ending) (w' : World) : Prop :=
  e = .returned (.tuple #[]) ∧ ∃ d : List Wh.Change, d.length = acc.length ∧ Wh.UpC d ∧ (∀ c, c ∈ d ↔ c ∈ acc) ∧ HoldsR w' a 2 (d.map chgCells) ∧ Below w0.heap.size w0 w'

set_option maxRecDepth 100000 in
theorem sortCh_any {w0 w : World} {a : Option Addr} {cap : Nat} {acc : List Wh.Change} (hO : OwnCh w0 w a cap acc) (hn : acc.Pairwise (fun a b => a.path ≠ b.path)) (hs : ∀ c ∈ acc, c.path.size ≤ 9223372036854775807) (hl : acc.length < 4611686018427387904) :
    Calls Tryz.prog 38 #[.slice a acc.length cap, .func (.func 39) #[] #[]] w (SortPost w0 a acc) := by
  by_cases h0 : acc = []
  · subst h0
    refine (AnyF.slices_SortFunc_none Tryz.sortChg a cap _ w).mono ?_
    rintro e w' ⟨rfl, rfl⟩
    exact ⟨rfl, [], rfl, List.Pairwise.nil, fun _ => Iff.rfl, .inl rfl, hO.below⟩
  · obtain ⟨g, cur, rfl, hg0, hg⟩ := hO.block (List.length_pos_iff.2 h0)
    have hgl := (Array.getElem?_eq_some_iff.1 hg).1
    obtain ⟨d, hd⟩ : ∃ d : Array CChg, d.toList.map (·.1) = acc := ⟨(acc.attach.map fun c => ⟨c.1, hs c.1 c.2⟩).toArray, by simp [List.map_map, Function.comp_def]⟩
    have hds : d.size = acc.length := by rw [← hd]; simp
    have hmap : d.toList.map encC = acc.map chgCells := by rw [← hd, List.map_map]; rfl
    have hK := holdsK_of hg (d := d) (by rw [hmap]; exact hO.holds)
    have hc := AnyQ.slices_SortFunc Tryz.sortChg 2 (fun _ => by kernel_rfl) (fun _ => by kernel_rfl) encC (fun _ => rfl) (fun x v hv => by simp [encC, chgCells] at hv; rcases hv with rfl | rfl <;> rfl) cfC swoCC 39 #[] g 0 cap d w enters_chg2 (cmpLaysC g 0 d.size w) hK hgl (by omega)
    rw [hds] at hc
    refine hc.mono ?_
    rintro e w' ⟨rfl, d', n, os, hp, hsd, rfl⟩
    have hsz := hp.1
    have hperm : d'.toList.Perm d.toList := by
      have e1 : d'.extract 0 acc.length = d' := by rw [← hds, ← hsz]; simp
      have e2 : d.extract 0 acc.length = d := by rw [← hds]; simp
      have := hp.2.2
      rw [e1, e2] at this
      exact this
    have hpm : (d'.toList.map (·.1)).Perm acc := by rw [← hd]; exact hperm.map _
    refine ⟨rfl, d'.toList.map (·.1), by simpa using hsz.trans hds, ?_, fun c => hpm.mem_iff, ?_, hO.below.trans (below_sort encC 2 w g 0 n _ d' os hg0 hO.below.size)⟩
    · have hn' : (d'.toList.map (·.1)).Pairwise (fun a b => a.path ≠ b.path) := (hpm.pairwise_iff (fun h => Ne.symm h)).2 hn
      unfold Wh.UpC
      rw [List.pairwise_iff_getElem] at hn' ⊢
      intro i j hi hj hij
      have hne := hn' i j hi hj hij
      have hi' : i < d'.size := by simpa using hi
      have hj' : j < d'.size := by simpa using hj
      have h3 := hsd i j (Nat.zero_le _) hij (by omega)
      rw [getElem!_pos d' i hi', getElem!_pos d' j hj'] at h3
      have h4 : ¬ Wh.ordB d'[j].1.path d'[i].1.path < 0 := of_decide_eq_false h3
      rw [Wh.ordB_swap] at h4
      simp only [List.getElem_map, Array.getElem_toList] at *
      have h5 : Wh.ordB d'[i].1.path d'[j].1.path ≠ 0 := fun h => hne (Wh.ordB_zero h)
      omega
    · have hmap' : (d'.toList.map (·.1)).map chgCells = d'.toList.map encC := by rw [List.map_map]; rfl
      rw [hmap']
      exact of_holdsK (lt_sortWorldK encC 2 w g 0 n d' os hgl) (holdsK_sortWorldK_c encC 2 w g 0 d d' n os hK hgl (hsz.trans rfl))
end Go.Proofs.YtiliijiohmeagaaGreatDoor
