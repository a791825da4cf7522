/-
  Parts of the proof: LaidU, RowArr.
-/
import Derived.Lib.LaidU8
import Derived.LaidLaws
import Derived.Test.YtchfhojighopkaaGreatDoorGuAB
import Derived.Test.YtchfhojighopkaaGreatDoorGuAJ
import Derived.Test.YtchfhojighopkaaGreatDoorGuBN
import Derived.Deep.Slices
import Derived.Deep.Fields
import Derived.OpenShut
import Derived.Test.YtchfhojighopkaaGreatDoorGuAC
namespace Go.Proofs.YtchfhojighopkaaGreatDoor
open Go.ChangeShapes Go.WideShapes Go.ChangeAt Go.RowKit Wh.Sha

theorem laid_no_handle {P : Program} {l : List (String × DataW Unit)} {W : World} (hl : (l.filter fun x => x.2.handleName?.isSome) = []) (h : laidMetH P l W) : laidMet P l W := by
 unfold laidMetH at h
 rw [hl] at h
 exact h

theorem powData : (Rows.laid_internal_strconv_uint64pow10 : DataW Unit) = Lib.tabData .u64 Lib.pow10Tab := by rfl

theorem envT_of {W : World} (h : Lib.VarReads Tryz.prog W "internal/strconv.uint64pow10" Rows.laid_internal_strconv_uint64pow10) : EnvT W := by
 obtain ⟨g, t, cs, fuel, p, hg, hty, hvar, hd⟩ := h
 obtain rfl : 1 = g := Option.some.inj ((show Tryz.prog.globalNamed "internal/strconv.uint64pow10" = some 1 by kernel_rfl).symm.trans hg)
 obtain rfl : 217 = t := Option.some.inj ((show (Tryz.prog.globals[1]?).map (·.type) = some 217 by kernel_rfl).symm.trans hty)
 rw [powData] at hd
 have hc := Lib.cells_of_tab Tryz.underlying217 Tryz.underlying167 (by kernel_rfl) (by kernel_rfl) hd
 unfold EnvT Lib.TabIs
 rw [hvar, ← hc]

/-- A variable of n cells of one kind of number holds n such numbers. -/
theorem nums_of_shape {P : Program} {w : World} {g n : Nat} {t u : TypeId} {k : IntKind} {zero : Array Value} (h : w.ShapedOpen P) (hg : g < P.globals.size)
  (h0 : ((begin P (fun _ _ => 0) default).world.heap[g]?).bind Obj.row? = some (zero, t)) (hz : zero.size = n)
  (hb : P.buildable t = true) (hc : P.cellTypes P.depth t = some (List.replicate n u)) (hu : P.underlying u = some (.int k)) :
  ∃ zs : List Int, BoxIs w g (zs.map (Value.int k)).toArray t ∧ zs.length = n ∧ ∀ z ∈ zs, k.has z := by
 obtain ⟨cs, hh, hs, hr⟩ := h.1 g zero t hg h0
 obtain ⟨ts, hts, _, hall⟩ := hr hb
 rw [hc] at hts
 cases hts
 have hone : ∀ v ∈ cs.toList, ∃ z : Int, v = .int k z ∧ k.has z := by
  intro v hv
  obtain ⟨i, hi⟩ := List.getElem?_of_mem hv
  rw [Array.getElem?_toList] at hi
  obtain ⟨u', hu', hok⟩ := hall i v hi
  obtain rfl : u' = u := by
   have := List.mem_of_getElem? hu'
   exact (List.mem_replicate.1 this).2
  unfold Cell.ok at hok
  rw [hu] at hok
  cases v with
  | int k' z =>
   obtain ⟨rfl, hz⟩ := hok
   exact ⟨z, rfl, hz⟩
  | _ => simp at hok
 have hex : ∀ l : List Value, (∀ v ∈ l, ∃ z : Int, v = .int k z ∧ k.has z) → ∃ zs : List Int, l = zs.map (Value.int k) ∧ ∀ z ∈ zs, k.has z := by
  intro l
  induction l with
  | nil => exact fun _ => ⟨[], rfl, by simp⟩
  | cons v l ih =>
   intro hl
   obtain ⟨z, hv, hz⟩ := hl v List.mem_cons_self
   subst hv
   obtain ⟨zs, hl2, hzs⟩ := ih (fun v hv => hl v (List.mem_cons_of_mem _ hv))
   subst hl2
   exact ⟨z :: zs, rfl, fun y hy => (List.mem_cons.1 hy).elim (fun e => e ▸ hz) (hzs y)⟩
 obtain ⟨zs, hzs, hhas⟩ := hex _ hone
 refine ⟨zs, ?_, ?_, hhas⟩
 ·unfold BoxIs
  rw [hh, ← hzs]
 ·have := congrArg List.length hzs
  rw [List.length_map] at this
  rw [← this, Array.length_toList, hs, hz]
theorem words_of {zs : List Int} (h : ∀ z ∈ zs, IntKind.u32.has z) : ∃ ws : List W, zs.map (Value.int .u32) = ws.map vw ∧ ws.length = zs.length := by
 induction zs with
 | nil => exact ⟨[], rfl, rfl⟩
 | cons z zs ih =>
  obtain ⟨ws, h1, h2⟩ := ih (fun y hy => h y (by simp [hy]))
  have hz := h z (by simp)
  unfold IntKind.has at hz
  simp [IntKind.min, IntKind.max, IntKind.signed, IntKind.bits] at hz
  refine ⟨BitVec.ofInt 32 z :: ws, ?_, by rw [List.length_cons, List.length_cons, h2]⟩
  rw [List.map_cons, List.map_cons, h1]
  congr 1
  show Value.int .u32 z = Value.int .u32 ((BitVec.ofInt 32 z).toNat : Int)
  rw [BitVec.toNat_ofInt]
  congr 1
  omega
theorem tabs_of {W : World} (h : W.ShapedOpen Tryz.prog) : ∃ T, TabsAt W T := by
 obtain ⟨z1, a1, l1, b1⟩ := nums_of_shape (n := 64) (u := 164) (k := .u32) (g := 8) (t := 330) (zero := (List.replicate 64 (Value.int .u32 0)).toArray) h (of_decide_eq_true (by kernel_rfl)) (by kernel_rfl) (by simp) (by kernel_rfl) (by kernel_rfl) Tryz.underlying164
 obtain ⟨z2, a2, l2, b2⟩ := nums_of_shape (n := 64) (u := 164) (k := .u32) (g := 6) (t := 330) (zero := (List.replicate 64 (Value.int .u32 0)).toArray) h (of_decide_eq_true (by kernel_rfl)) (by kernel_rfl) (by simp) (by kernel_rfl) (by kernel_rfl) Tryz.underlying164
 obtain ⟨z3, a3, l3, b3⟩ := nums_of_shape (n := 16) (u := 3) (k := .i64) (g := 7) (t := 332) (zero := (List.replicate 16 (Value.int .i64 0)).toArray) h (of_decide_eq_true (by kernel_rfl)) (by kernel_rfl) (by simp) (by kernel_rfl) (by kernel_rfl) Tryz.underlying3
 obtain ⟨w1, e1, f1⟩ := words_of b1
 obtain ⟨w2, e2, f2⟩ := words_of b2
 refine ⟨⟨w1, w2, z3⟩, ?_, f1.trans l1, ?_, f2.trans l2, a3, l3⟩
 ·unfold WordsAt
  rw [← e1]
  exact a1
 ·unfold WordsAt
  rw [← e2]
  exact a2
theorem gr_of {W : World} (h : W.ShapedOpen Tryz.prog) (hT : EnvT W) : ∃ T, Gr W T := by
 obtain ⟨T, h1⟩ := tabs_of h
 exact ⟨T, env_of h, hT, h1⟩

/-- A block's cells laid anew. -/
def layVals (cs : List Value) (o : Obj) : Obj := match o with
 | .cells _ t frozen => .cells cs.toArray t frozen
 | o => o
def nums (k : IntKind) : List (DataW Unit) → List Value
 | .lit (.int _ n) :: r => .int k n :: nums k r
 | _ => []
def numsOf (k : IntKind) : DataW Unit → List Value
 | .agg l => nums k l
 | _ => []
def litsOf : DataW Unit → List Value
 | .agg l => lits l
 | _ => []
where lits : List (DataW Unit) → List Value
 | .lit v :: r => v.value :: lits r
 | _ => []

noncomputable def laidWorldV (os : Os) : World :=
  { laidWorld os with heap := ((((laidWorld os).heap.modify 1 (layVals (numsOf .u64 Rows.laid_internal_strconv_uint64pow10))).modify 4 (layVals (numsOf .u8 Rows.laid_math_bits_deBruijn32tab))).modify 5 (layVals (numsOf .u8 Rows.laid_math_bits_deBruijn64tab))) }

end Go.Proofs.YtchfhojighopkaaGreatDoor
namespace Go.Proofs.YtchfhojighopkaaGreatDoor
open Go.ChangeShapes Go.WideShapes Go.ChangeAt Go.RowKit Go.Deep

theorem list_ofA {α : Type} {p : Nat → α → Prop} : ∀ (n : Nat), (∀ i, i < n → ∃ x, p i x) → ∃ xs : List α, xs.length = n ∧ ∀ i x, xs[i]? = some x → p i x
 | 0, _ => ⟨[], rfl, by simp⟩
 | n + 1, h => by
  obtain ⟨xs, hl, hx⟩ := list_ofA n (fun i hi => h i (by omega))
  obtain ⟨x, hp⟩ := h n (by omega)
  refine ⟨xs ++ [x], by simp [hl], fun i y hy => ?_⟩
  rcases Nat.lt_or_ge i n with hlt | hge
  ·rw [List.getElem?_append_left (by omega)] at hy
   exact hx i y hy
  ·have hi : i = n := by
    have := (List.getElem?_eq_some_iff.1 hy).1
    simp at this
    omega
   subst hi
   rw [List.getElem?_append_right (by omega)] at hy
   simp [hl] at hy
   subst hy
   exact hp

abbrev InI (n : Int) : Prop := -9223372036854775808 ≤ n ∧ n ≤ 9223372036854775807
section
variable {H : Type} {enc : TypeId × Value → H} {P : Program} {w : World}
theorem ints_of_cells {ti : TypeId} (hi : P.underlying ti = some (.int .i64)) (h1 : P.cellsOf ti = 1) {m : Nat} : ∀ (cs : List Value), (∀ j, j < cs.length → ∃ y, DataW.trod enc P w 0 (fun _ => true) true m ti ((cs.drop (j * P.cellsOf ti)).take (P.cellsOf ti)) = some y) → ∃ zs : List Int, cs = zs.map (fun n => Value.int .i64 n) ∧ ∀ n ∈ zs, InI n
 | [], _ => ⟨[], rfl, by simp⟩
 | c :: l, h => by
  obtain ⟨zs, hz, hb⟩ := ints_of_cells hi h1 l (fun j hj => by
   have := h (j + 1) (by simp only [List.length_cons]; omega)
   rw [h1] at this ⊢
   simpa using this)
  obtain ⟨y, hy⟩ := h 0 (by simp)
  rw [h1] at hy
  obtain ⟨n, hn, _, hw⟩ := DataW.trod_int hi hy
  simp at hn
  exact ⟨n :: zs, by rw [hn, hz]; rfl, fun x hx => by
   rcases List.mem_cons.1 hx with rfl | hx
   ·exact bounds_i64 hw
   ·exact hb x hx⟩

/-- The cells of a slice of arrays of numbers. -/
theorem open_arrs {ts te ti : TypeId} {k : Nat} (ht : P.underlying ts = some (.slice te)) (he : P.underlying te = some (.array k ti)) (hi : P.underlying ti = some (.int .i64)) (h1 : P.cellsOf ti = 1) (hC : P.cellsOf te = k) (hpos : 0 < k)
  {fuel : Nat} {cs : List Value} {y : DataW H × List MemPlace} (hf : DataW.trod enc P w 0 (fun _ => true) true fuel ts cs = some y) :
  ∃ (a : Option Addr) (c : Nat) (xs : List (List Int)), cs = [.slice a xs.length c] ∧ xs.length ≤ c ∧ c ≤ maxLen ∧ HoldsR w a k (xs.map (fun r => r.map (fun n => Value.int .i64 n))) ∧ ∀ r ∈ xs, r.length = k ∧ ∀ n ∈ r, InI n := by
 rcases open_slice ht hf with ⟨hcs, _⟩ | ⟨a, len, cap, m, n, D, Pl, hcs, _, hl, hm, hmm, hx, hi'⟩
 ·exact ⟨none, 0, [], hcs, by simp, by simp, .inl rfl, by simp⟩
 ·have hml : len ≤ m := by rw [hmm]; simp; omega
  obtain ⟨xs, hxl, hxs⟩ := list_ofA (p := fun i (x : List Int) => (x.length = k ∧ ∀ n ∈ x, InI n) ∧ ∀ (j : Nat) (u : Value), (x.map (fun n => Value.int .i64 n))[j]? = some u → w.cell? (a.add (i * k + j)) = some u) len (fun i hil => by
   obtain ⟨cs', hc, ht'⟩ := hi' i (by omega)
   rw [hC] at hc
   obtain ⟨ys, m', _, _, hcl0, hyl, hg⟩ := DataW.trod_array he ht'
   obtain ⟨_, hcl, hat⟩ := World.cells?_some hc
   obtain ⟨zs, hz, hb⟩ := ints_of_cells hi h1 cs' (fun j hj => by
    have hjk : j < k := by rw [← hcl]; exact hj
    exact ⟨_, (hg j hjk).trans (List.getElem?_eq_getElem (by rw [hyl]; exact hjk))⟩)
   refine ⟨zs, ⟨by have := congrArg List.length hz; simp at this; omega, hb⟩, fun j u hu => ?_⟩
   rw [← hz] at hu
   have hjl : j < k := by have := (List.getElem?_eq_some_iff.1 hu).1; omega
   rw [← Go.Deep.add_add, hat j hjl, hu])
  refine ⟨some a, cap, xs, by rw [hxl]; exact hcs, by omega, hm, ?_, fun r hr => ?_⟩
  ·cases hxe : xs with
   | nil => exact .inl rfl
   | cons x0 r0 =>
    obtain ⟨⟨hl0, _⟩, h00⟩ := hxs 0 x0 (by rw [hxe]; rfl)
    have hu : (x0.map (fun n => Value.int .i64 n))[0]? = some ((x0.map (fun n => Value.int .i64 n))[0]'(by simp; omega)) := List.getElem?_eq_getElem (by simp; omega)
    have hc0 := h00 0 _ hu
    obtain ⟨b, off, spot⟩ := a
    have hspot : spot = none := by simpa [Addr.add] using World.cell?_spot hc0
    subst hspot
    have hadd : ∀ j, (⟨b, off, none⟩ : Addr).add j = ⟨b, off + j, none⟩ := fun j => by unfold Addr.add; split <;> simp_all
    refine .inr ⟨b, off, rfl, ?_, fun q row hk j u hu => ?_⟩
    ·rw [hadd] at hc0
     exact cell_lt hc0
    ·rw [← hxe, List.getElem?_map] at hk
     cases hk' : xs[q]? with
     | none => rw [hk'] at hk; simp at hk
     | some x =>
      rw [hk'] at hk
      simp at hk
      subst hk
      have := (hxs q x hk').2 j u hu
      rw [hadd] at this
      rw [← this, Nat.add_assoc]
  ·obtain ⟨i, hir⟩ := List.mem_iff_getElem?.1 hr
   exact (hxs i r hir).1
end
end Go.Proofs.YtchfhojighopkaaGreatDoor
