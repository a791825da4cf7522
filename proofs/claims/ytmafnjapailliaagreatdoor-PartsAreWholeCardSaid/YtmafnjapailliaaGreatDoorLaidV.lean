/-
  What a row's list of laid variables and its shape give: the table of powers, the sums' tables (any words); a world for the witnesses.
-/
import Derived.Test.YtmafnjapailliaaGreatDoorRow
import Derived.Test.YtmafnjapailliaaGreatDoorSw7
import Derived.Test.YtmafnjapailliaaGreatDoorMeZ
import Derived.Lib.LaidU8
import Derived.LaidLaws
namespace Go.Proofs.YtmafnjapailliaaGreatDoor
open Go.ChangeShapes Go.WideShapes Go.ChangeAt Go.RowKit Wh.Sha

theorem laid_no_handle {P : Program} {l : List (String × DataW Unit)} {W : World} (hl : (l.filter fun x => x.2.handleName?.isSome) = []) (h : laidMetH P l W) : laidMet P l W := by
  unfold laidMetH at h
  rw [hl] at h
  exact h

theorem powData : (Rows.laid_internal_strconv_uint64pow10 : DataW Unit) = Lib.tabData .u64 Lib.pow10Tab := by rfl

theorem envT_of {W : World} (h : Lib.VarReads Tryz.prog W "internal/strconv.uint64pow10" Rows.laid_internal_strconv_uint64pow10) : EnvT W := by
  obtain ⟨g, t, cs, fuel, p, hg, hty, hvar, hd⟩ := h
  obtain rfl : 6 = g := Option.some.inj ((show Tryz.prog.globalNamed "internal/strconv.uint64pow10" = some 6 by kernel_rfl).symm.trans hg)
  obtain rfl : 385 = t := Option.some.inj ((show (Tryz.prog.globals[6]?).map (·.type) = some 385 by kernel_rfl).symm.trans hty)
  rw [powData] at hd
  have hc := Lib.cells_of_tab Tryz.underlying385 Tryz.underlying247 (by kernel_rfl) (by kernel_rfl) hd
  unfold EnvT Lib.TabIs
  rw [hvar, ← hc]

/-- A variable of n cells of one kind of number holds n such numbers. -/
theorem nums_of_shape {P : Program} {w : World} {g n : Nat} {t u : TypeId} {k : IntKind} {zero : Array Value} (h : w.ShapedOpen P) (hg : g < P.globals.size)
    (h0 : ((begin P (fun _ _ => 0) default).world.heap[g]?).bind Obj.row? = some (zero, t)) (hz : zero.size = n)
    (hb : P.buildable t = true) (hc : P.cellTypes P.depth t = some (List.replicate n u)) (hu : P.underlying u = some (.int k)) :
    ∃ zs : List Int, BoxIs w g (zs.map (Value.int k)).toArray t ∧ zs.length = n ∧ ∀ z ∈ zs, k.has z := by
  obtain ⟨cs, hh, hs, hr⟩ := h.1 g zero t hg h0
  obtain ⟨ts, hts, _, hall⟩ := hr hb
  rw [hc] at hts
  cases hts
  have hone : ∀ v ∈ cs.toList, ∃ z : Int, v = .int k z ∧ k.has z := by
    intro v hv
    obtain ⟨i, hi⟩ := List.getElem?_of_mem hv
    rw [Array.getElem?_toList] at hi
    obtain ⟨u', hu', hok⟩ := hall i v hi
    obtain rfl : u' = u := by
      have := List.mem_of_getElem? hu'
      exact (List.mem_replicate.1 this).2
    unfold Cell.ok at hok
    rw [hu] at hok
    cases v with
    | int k' z =>
      obtain ⟨rfl, hz⟩ := hok
      exact ⟨z, rfl, hz⟩
    | _ => simp at hok
  have hex : ∀ l : List Value, (∀ v ∈ l, ∃ z : Int, v = .int k z ∧ k.has z) → ∃ zs : List Int, l = zs.map (Value.int k) ∧ ∀ z ∈ zs, k.has z := by
    intro l
    induction l with
    | nil => exact fun _ => ⟨[], rfl, by simp⟩
    | cons v l ih =>
      intro hl
      obtain ⟨z, hv, hz⟩ := hl v List.mem_cons_self
      subst hv
      obtain ⟨zs, hl2, hzs⟩ := ih (fun v hv => hl v (List.mem_cons_of_mem _ hv))
      subst hl2
      exact ⟨z :: zs, rfl, fun y hy => (List.mem_cons.1 hy).elim (fun e => e ▸ hz) (hzs y)⟩
  obtain ⟨zs, hzs, hhas⟩ := hex _ hone
  refine ⟨zs, ?_, ?_, hhas⟩
  · unfold BoxIs
    rw [hh, ← hzs]
  · have := congrArg List.length hzs
    rw [List.length_map] at this
    rw [← this, Array.length_toList, hs, hz]
theorem words_of {zs : List Int} (h : ∀ z ∈ zs, IntKind.u32.has z) : ∃ ws : List W, zs.map (Value.int .u32) = ws.map vw ∧ ws.length = zs.length := by
  induction zs with
  | nil => exact ⟨[], rfl, rfl⟩
  | cons z zs ih =>
    obtain ⟨ws, h1, h2⟩ := ih (fun y hy => h y (by simp [hy]))
    have hz := h z (by simp)
    unfold IntKind.has at hz
    simp [IntKind.min, IntKind.max, IntKind.signed, IntKind.bits] at hz
    refine ⟨BitVec.ofInt 32 z :: ws, ?_, by rw [List.length_cons, List.length_cons, h2]⟩
    rw [List.map_cons, List.map_cons, h1]
    congr 1
    show Value.int .u32 z = Value.int .u32 ((BitVec.ofInt 32 z).toNat : Int)
    rw [BitVec.toNat_ofInt]
    congr 1
    omega
theorem tabs_of {W : World} (h : W.ShapedOpen Tryz.prog) : ∃ T, TabsAt W T := by
  obtain ⟨z1, a1, l1, b1⟩ := nums_of_shape (n := 64) (u := 199) (k := .u32) (g := 12) (t := 459) (zero := (List.replicate 64 (Value.int .u32 0)).toArray) h (of_decide_eq_true (by kernel_rfl)) (by kernel_rfl) (by simp) (by kernel_rfl) (by kernel_rfl) Tryz.underlying199
  obtain ⟨z2, a2, l2, b2⟩ := nums_of_shape (n := 64) (u := 199) (k := .u32) (g := 10) (t := 459) (zero := (List.replicate 64 (Value.int .u32 0)).toArray) h (of_decide_eq_true (by kernel_rfl)) (by kernel_rfl) (by simp) (by kernel_rfl) (by kernel_rfl) Tryz.underlying199
  obtain ⟨z3, a3, l3, b3⟩ := nums_of_shape (n := 16) (u := 3) (k := .i64) (g := 11) (t := 314) (zero := (List.replicate 16 (Value.int .i64 0)).toArray) h (of_decide_eq_true (by kernel_rfl)) (by kernel_rfl) (by simp) (by kernel_rfl) (by kernel_rfl) Tryz.underlying3
  obtain ⟨w1, e1, f1⟩ := words_of b1
  obtain ⟨w2, e2, f2⟩ := words_of b2
  refine ⟨⟨w1, w2, z3⟩, ?_, f1.trans l1, ?_, f2.trans l2, a3, l3⟩
  · unfold WordsAt
    rw [← e1]
    exact a1
  · unfold WordsAt
    rw [← e2]
    exact a2
theorem gr_of {W : World} (h : W.ShapedOpen Tryz.prog) (hT : EnvT W) : ∃ T, Gr W T := by
  obtain ⟨T, h1⟩ := tabs_of h
  exact ⟨T, env_of h, hT, h1⟩

/-- A block's cells laid anew. -/
def layVals (cs : List Value) (o : Obj) : Obj := match o with
  | .cells _ t frozen => .cells cs.toArray t frozen
  | o => o
def nums (k : IntKind) : List (DataW Unit) → List Value
  | .lit (.int _ n) :: r => .int k n :: nums k r
  | _ => []
def numsOf (k : IntKind) : DataW Unit → List Value
  | .agg l => nums k l
  | _ => []
def litsOf : DataW Unit → List Value
  | .agg l => lits l
  | _ => []
where lits : List (DataW Unit) → List Value
  | .lit v :: r => v.value :: lits r
  | _ => []

/-- A world for the witnesses, with all that the row lists. -/
noncomputable def laidWorldV (os : Os) : World :=
  { laidWorld os with heap := (((((((laidWorld os).heap.modify 6 (layVals (numsOf .u64 Rows.laid_internal_strconv_uint64pow10))).modify 8 (layVals (numsOf .u8 Rows.laid_math_bits_deBruijn32tab))).modify 9 (layVals (numsOf .u8 Rows.laid_math_bits_deBruijn64tab))).modify 5 (layVals (litsOf Rows.laid_math_sin))).modify 4 (layVals (litsOf Rows.laid_math_cos))).modify 7 (layVals (litsOf Rows.laid_math_mPi4))) }
end Go.Proofs.YtmafnjapailliaaGreatDoor
