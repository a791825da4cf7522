/-
  Parts of the proof: Ut2, Ut3, Ut4, Ut5, Uf3.
-/
import Derived.Test.YtchfhojighopkaaGreatDoorGuBI
import Derived.Test.YtchfhojighopkaaGreatDoorGuBJ
import Derived.Test.YtchfhojighopkaaGreatDoorGuBK
import Derived.Laws.StructEq
import Derived.ChangeKeysEq
import Derived.Test.YtchfhojighopkaaGreatDoorGuBC
namespace Go.Proofs.YtchfhojighopkaaGreatDoor
open Go.RowKit

theorem wide_ok : FeatOk wideF := ⟨by decide, by decide⟩
theorem wide_err : Wh.featErr wideF = 0 := by decide +kernel
theorem TreeAt.lower {w : World} {B B' rb : Nat} {K : ByteArray → ByteArray} {F : Tr} (h : TreeAt w B rb K F) (hb : B' ≤ B) : TreeAt w B' rb K F :=
 ⟨h.root, h.dirs, fun ks n hn => ⟨(h.box ks n hn).1, Nat.le_trans hb (h.box ks n hn).2⟩, fun ks n hn hd => ⟨(h.kids ks n hn hd).1, Nat.le_trans hb (h.kids ks n hn hd).2⟩, h.inj⟩
theorem MemT.lower {w : World} {B B' : Nat} {M : MB} {s : TSt} (h : MemT w B M s) (hb : B' ≤ B) : MemT w B' M s :=
 ⟨h.box, h.clk, h.ca, h.si, h.ne1, h.tree.lower hb, ⟨Nat.le_trans hb h.lo.1, Nat.le_trans hb h.lo.2.1, Nat.le_trans hb h.lo.2.2⟩⟩
theorem flat_new (N : Int) (hN : 0 ≤ N) (rb kb : Nat) : FlatS N ⟨wideF, 500, 0, 0, tr0 rb kb⟩ :=
 ⟨rfl, fun ks n hn => .inl (tr0_some hn).1, by
  have h : ∀ k : ByteArray, tr0 rb kb [k] = none := fun k => if_neg (by simp)
  show (0 : Int) = ((nm4.filter (fun k => (tr0 rb kb [k]).isSome)).length : Int)
  have h2 : nm4.filter (fun k => (tr0 rb kb [k]).isSome) = [] := by
   rw [List.filter_eq_nil_iff]
   intro k _
   rw [h k]
   simp
  rw [h2]
  rfl, ⟨Int.le_refl _, hN⟩, ⟨by show (-9223372036854775808 : Int) ≤ 500; decide, by show (500 : Int) ≤ 9223372036854775807; decide⟩⟩
set_option maxHeartbeats 2000000 in
set_option maxRecDepth 100000 in
theorem wide_any (w : World) : Calls Tryz.prog 18 #[] w fun e w' => e = .returned (.agg (featA 3071)) ∧ Below w.heap.size w w' := by
 have hx1 : BoxIs (w.alloc (.cells feat0 66)) w.heap.size feat0 66 := heap_alloc_new _ _
 have hb1 : Below w.heap.size w (w.alloc (.cells feat0 66)) := bAlloc (Below.refl _ _) _
 obtain ⟨rz, hrz⟩ : ∃ rz, w.heap.size = rz := ⟨_, rfl⟩
 have HZ := Lib.hid hrz
 rw [hrz] at hx1
 have HX1 := Lib.hid hx1
 have HB1 := Lib.hid hb1
 clear hx1 hb1 hrz
 go_enter Tryz.func18, Tryz.ntmps18
 go_upto_region 1 with fail
 rw [HZ.out]
 generalize w.alloc _ = w1 at *
 obtain ⟨⟨p0, p1, p2, p3, p4, p5, p6, p7, p8⟩, f0, f1, f2, f3, f4, f5, f6, f7, f8⟩ := feat_room HX1.out
 have hend : Below w.heap.size w (set9 w1 rz 3071) := HB1.out.trans ((set9_kp (Kp.refl (fun j => j = rz) w1) (.inl rfl) 3071).below (fun j e => by rw [e, HZ.out]; exact Nat.le_refl _) HB1.out.size)
 unfold set9 at hend
 go_wp2_with fail
 try simp only [Exit.inBlock, Exit.then]
 refine bodyPost_ret (v := .agg (featA 3071)) ?_ rfl ⟨rfl, hend⟩
 clear hend
 simp [results, Tryz.f18]
 go_simp
set_option maxHeartbeats 2000000 in
theorem clock_new (w : World) : Calls Tryz.prog 16 #[.int .i64 500] w fun e w' => e = .returned (ptr w.heap.size) ∧ w' = w.alloc (.cells #[.int .i64 500] 102) := by
 go_enter Tryz.func16, Tryz.ntmps16
 go_wp2_with fail
 go_ret
 exact ⟨rfl, rfl⟩
def MemoryP (w : World) (e : Ending) (w' : World) : Prop :=
 ∃ (M : MB), e = .returned (.tuple #[ptr M.b, ptr M.cb, .bool true]) ∧ MemT w' w.heap.size M ⟨wideF, 500, 0, 0, tr0 M.rb M.kb⟩ ∧ w.heap.size ≤ M.cb ∧ Below w.heap.size w w'
set_option maxHeartbeats 2000000 in
set_option maxRecDepth 100000 in
theorem memory_any (w : World) : Calls Tryz.prog 5 #[] w (MemoryP w) := by
 have HCl := Lib.hid (clock_new w)
 have HWi := Lib.hid (fun W => wide_any W)
 have HNw := Lib.hid (fun W cb (hB : w.heap.size ≤ W.heap.size) (hc : BoxIs W cb #[.int .i64 500] 102) => newT_any w.heap.size wideF cb 500 W (fun V => by
  have := stCheckFeat_any wideF wide_ok V
  rw [wide_err] at this
  exact this) hB hc)
 unfold NewTPost at HNw
 have hx1 : BoxIs (w.alloc (.cells #[.int .i64 500] 102)) w.heap.size #[.int .i64 500] 102 := heap_alloc_new _ _
 have hb1 : Below w.heap.size w (w.alloc (.cells #[.int .i64 500] 102)) := bAlloc (Below.refl _ _) _
 have HX1 := Lib.hid hx1
 have HB1 := Lib.hid hb1
 clear hx1 hb1
 go_enter Tryz.func5, Tryz.ntmps5
 go_upto_region 2 with (go_at_call 16; refine HCl.out.mono ?_; rintro e w1 ⟨rfl, hw1⟩; rw [← hw1] at HX1 HB1; clear hw1)
 obtain ⟨cb, hcb⟩ : ∃ cb, w.heap.size = cb := ⟨_, rfl⟩
 have HCb := Lib.hid hcb
 rw [hcb] at HX1 ⊢
 clear hcb HCl
 have HNw2 : Hid (∀ W, Below w.heap.size w W → BoxIs W cb #[.int .i64 500] 102 → Calls Tryz.prog 17 #[.agg (featA 3071), .pointer (some ⟨cb, 0, none⟩), .slice none 0 0] W fun e w' => ∃ M : MB, e = .returned (.tuple #[.pointer (some ⟨M.b, 0, none⟩), .int .i64 0]) ∧ MemT w' w.heap.size M ⟨wideF, 500, 0, 0, tr0 M.rb M.kb⟩ ∧ M.cb = cb ∧ Below W.heap.size W w') := Lib.hid (fun W hb hx => HNw.out W cb hb.size hx)
 clear HNw
 go_wp2_with (first
  | (go_at_call 18; refine (HWi.out _).mono ?_; rintro e w2 ⟨rfl, hb2⟩; have HB2 := Lib.hid (bTrans HB1.out hb2); have HX2 := Lib.hid (HX1.out.under hb2); clear hb2)
  | (go_at_call 17; refine (HNw2.out _ HB2.out HX2.out).mono ?_; rintro e w3 ⟨M, rfl, hm3, hc3, hb3⟩; have H3 := Lib.hid (And.intro hm3 (And.intro hc3 hb3)); clear hm3 hc3 hb3))
 go_ret3
 refine ⟨M, ?_, H3.out.1, by rw [H3.out.2.1, ← HCb.out]; exact Nat.le_refl _, bTrans HB2.out H3.out.2.2⟩
 rw [H3.out.2.1]
 rfl
/-- Two new stores. -/
theorem J_new {w w1 w2 : World} {w0 : World} {M M' : MB} (h0 : w0.heap.size ≤ w.heap.size) (h1 : MemT w1 w.heap.size M ⟨wideF, 500, 0, 0, tr0 M.rb M.kb⟩) (_hc : w.heap.size ≤ M.cb) (hb2 : Below w1.heap.size w1 w2) (h2 : MemT w2 w1.heap.size M' ⟨wideF, 500, 0, 0, tr0 M'.rb M'.kb⟩) (hc2 : w1.heap.size ≤ M'.cb) (hb1 : Below w.heap.size w w1) :
  J w2 w0.heap.size ⟨fun b => if b then M' else M, fun b => if b then ⟨wideF, 500, 0, 0, tr0 M'.rb M'.kb⟩ else ⟨wideF, 500, 0, 0, tr0 M.rb M.kb⟩⟩ 0 := by
 have hw : w0.heap.size ≤ w1.heap.size := Nat.le_trans h0 hb1.size
 have k1 : ∀ i, (MTf M (tr0 M.rb M.kb) i ∨ i = M.cb) → i < w1.heap.size := fun i hi => h1.lt hi
 have k2 : ∀ i, (MTf M' (tr0 M'.rb M'.kb) i ∨ i = M'.cb) → w1.heap.size ≤ i := fun i hi => by
  rcases hi with hi | hi
  ·exact h2.mf hi
  ·rw [hi]; exact hc2
 refine ⟨fun b => ?_, fun b => ?_, fun b c i hbc hi hj => ?_⟩
 ·cases b with
  | false => exact (h1.below hb2).lower h0
  | true => exact h2.lower hw
 ·cases b with
  | false => exact flat_new 0 (Int.le_refl _) _ _
  | true => exact flat_new 0 (Int.le_refl _) _ _
 ·cases b with
  | false =>
   cases c with
   | false => exact hbc rfl
   | true =>
    have q1 := k1 i hi
    have q2 := k2 i hj
    omega
  | true =>
   cases c with
   | true => exact hbc rfl
   | false =>
    have q1 := k2 i hi
    have q2 := k1 i hj
    omega
end Go.Proofs.YtchfhojighopkaaGreatDoor
namespace Go.Proofs.YtchfhojighopkaaGreatDoor
open Go.RowKit

def eqP (a b : ByteArray × ByteArray) : Bool := a.1.toList == b.1.toList && a.2.toList == b.2.toList
abbrev pairVal (s : ByteArray × ByteArray) : Value := .agg #[.string s.1, .string s.2]
set_option maxRecDepth 100000 in
theorem eqPair (a b : ByteArray × ByteArray) (w : World) : (binOp .eql 53 (pairVal a) (pairVal b)).run Tryz.prog w = .ok (.bool (eqP a b)) w := by
 obtain ⟨i, hi⟩ : ∃ i, Tryz.prog.info? 9 = some i := by
  cases h : Tryz.prog.info? 9 with
  | none => exact absurd h (by (have : (Tryz.prog.info? 9).isSome = true := by kernel_rfl); intro e; rw [e] at this; cases this)
  | some i => exact ⟨i, rfl⟩
 have hc : Tryz.prog.cellsOf 9 = 1 := by kernel_rfl
 have u9 := Tryz.underlying9
 unfold eqP
 rw [run_eql_struct, show (10000 : Nat) = 9999 + 1 from rfl, run_equalIn_array (d := 9999) (w := w) _ _ Tryz.underlying53 hi, hc]
 show ((Op.eqItems 9999 9 1 #[.string a.1, .string a.2] #[.string b.1, .string b.2] [0, 1]).run Tryz.prog w).andThen _ = _
 simp only [Op.eqItems]
 go_simp
 by_cases h1 : a.1.toList = b.1.toList <;> by_cases h2 : a.2.toList = b.2.toList <;> simp [h1, h2]
theorem eqP_iff (a b : ByteArray × ByteArray) : eqP a b = true ↔ a = b := by
 unfold eqP
 rw [Lib.toList_data, Lib.toList_data, Lib.toList_data, Lib.toList_data, Bool.and_eq_true, beq_iff_eq, beq_iff_eq]
 constructor
 ·rintro ⟨h1, h2⟩
  obtain ⟨⟨⟨x⟩⟩, ⟨⟨y⟩⟩⟩ := a
  obtain ⟨⟨⟨x2⟩⟩, ⟨⟨y2⟩⟩⟩ := b
  simp at h1 h2
  subst h1 h2
  rfl
 ·rintro rfl
  exact ⟨rfl, rfl⟩
def IdxP (any : Bool) (w : World) (e : Ending) (w' : World) : Prop := ∃ r : Int, e = .returned (.int .i64 r) ∧ decide (0 ≤ r) = any ∧ Below w.heap.size w w'
set_option maxHeartbeats 2000000 in
set_option maxRecDepth 100000 in
theorem indexP_any (xs : List (ByteArray × ByteArray)) (a : Option Addr) (c : Nat) (v : ByteArray × ByteArray) (w : World) (hH : HoldsR w a 2 (xs.map pairRow)) (hl : xs.length ≤ 1000) :
  Calls Tryz.prog 34 #[.slice a xs.length c, pairVal v] w (IdxP (xs.any (eqP v)) w) := by
 have HH := Lib.hid hH
 have hx0 : BoxIs (w.alloc (.cells #[.string v.1, .string v.2] 53)) w.heap.size #[.string v.1, .string v.2] 53 := heap_alloc_new _ _
 have HB0 := Lib.hid hx0
 have hb0 : Below w.heap.size w (w.alloc (.cells #[.string v.1, .string v.2] 53)) := bAlloc (Below.refl w.heap.size w) _
 obtain ⟨n, hn⟩ : ∃ n, xs.length = n := ⟨_, rfl⟩
 have HN := Lib.hid hn
 rw [hn] at hl ⊢
 clear hH hx0 hn
 go_enter Tryz.func34, Tryz.ntmps34
 go_upto_region 1 with fail
 generalize w.alloc _ = w1 at *
 go_wp2_with fail
 go_loopg [8] n (fun g i wx => ∃ k : Nat, k + g = n ∧ i = .int .i64 k ∧ Below w1.heap.size w1 wx ∧ Hid (xs.any (eqP v) = (xs.drop k).any (eqP v)))
 case atStart => exact ⟨0, by omega, rfl, Below.refl _ _, Lib.hid rfl⟩
 case round =>
  obtain ⟨k, hk, rfl, hb, HA⟩ := hrel
  by_cases hlt : k < n
  ·obtain ⟨g, rfl⟩ : ∃ g, gk = g + 1 := ⟨gk - 1, by omega⟩
   have hlt2 : k < xs.length := by rw [HN.out]; exact hlt
   obtain ⟨s, hx⟩ : ∃ s, xs[k]? = some s := ⟨_, List.getElem?_eq_getElem hlt2⟩
   obtain ⟨ba, off, ha, _, hc⟩ := (HH.out.under (bTrans hb0 hb)).at (k := k) (row := pairRow s) (by rw [List.getElem?_map, hx]; rfl)
   have r0 : wr.cell? ⟨ba, off + k * 2, none⟩ = some (.string s.1) := hc 0 _ rfl
   have r1 : wr.cell? ⟨ba, off + k * 2 + 1, none⟩ = some (.string s.2) := hc 1 _ rfl
   have hbx := HB0.out.under hb
   have p0 := hbx.cell (j := 0) rfl
   have p1 := hbx.cell (j := 1) rfl
   subst ha
   have hdr : xs.drop k = s :: xs.drop (k + 1) := by rw [List.drop_eq_getElem_cons hlt2, (List.getElem?_eq_some_iff.1 hx).2]
   rw [hdr, List.any_cons] at HA
   have heq := eqPair v s
   clear hx hdr hlt2 hbx hc
   generalize eqP v s = E at *
   cases E
   all_goals
    go_wp2_with fail
    go_quiet (fail)
    go_wp2_with fail
   ·go_roundg g
    case measure => omega
    case rel => exact ⟨k + 1, by omega, by go_num, bDrewN hb _, HA⟩
   ·go_ret
    exact ⟨k, rfl, by rw [HA.out]; simp, bDrewN (bTrans hb0 hb) _⟩
  ·have HA2 : Hid (xs.any (eqP v) = false) := Lib.hid (by rw [HA.out, List.drop_of_length_le (by rw [HN.out]; omega)]; rfl)
   have hltz : ¬ (k : Int) < (n : Int) := by omega
   go_wp2_with fail
   go_ret
   exact ⟨-1, rfl, by rw [HA2.out]; rfl, bTrans hb0 hb⟩
set_option maxHeartbeats 1000000 in
theorem containsP_any (xs : List (ByteArray × ByteArray)) (a : Option Addr) (c : Nat) (v : ByteArray × ByteArray) (w : World) (hH : HoldsR w a 2 (xs.map pairRow)) (hl : xs.length ≤ 1000) :
  Calls Tryz.prog 12 #[.slice a xs.length c, pairVal v] w fun e w' => e = .returned (.bool (xs.any (eqP v))) ∧ Below w.heap.size w w' := by
 have hx0 : BoxIs (w.alloc (.cells #[.string v.1, .string v.2] 53)) w.heap.size #[.string v.1, .string v.2] 53 := heap_alloc_new _ _
 have hb0 : Below w.heap.size w (w.alloc (.cells #[.string v.1, .string v.2] 53)) := bAlloc (Below.refl w.heap.size w) _
 have HI := Lib.hid (indexP_any xs a c v _ (hH.under hb0) hl)
 have p0 := hx0.cell (j := 0) rfl
 have p1 := hx0.cell (j := 1) rfl
 generalize xs.any (eqP v) = E at *
 clear hH hx0
 go_enter Tryz.func12, Tryz.ntmps12
 go_wp2_with fail
 refine HI.out.mono ?_
 rintro e w2 ⟨r, rfl, hr, hb2⟩
 go_wp2_with fail
 go_ret
 exact ⟨rfl, bTrans hb0 hb2⟩
end Go.Proofs.YtchfhojighopkaaGreatDoor
namespace Go.Proofs.YtchfhojighopkaaGreatDoor
open Go.RowKit

set_option maxRecDepth 100000 in
theorem nePair (a b : ByteArray × ByteArray) (w : World) : (binOp .neq 53 (pairVal a) (pairVal b)).run Tryz.prog w = .ok (.bool (!eqP a b)) w := by
 obtain ⟨i, hi⟩ : ∃ i, Tryz.prog.info? 9 = some i := by
  cases h : Tryz.prog.info? 9 with
  | none => exact absurd h (by (have : (Tryz.prog.info? 9).isSome = true := by kernel_rfl); intro e; rw [e] at this; cases this)
  | some i => exact ⟨i, rfl⟩
 have hc : Tryz.prog.cellsOf 9 = 1 := by kernel_rfl
 have u9 := Tryz.underlying9
 unfold eqP
 go_simp
 rw [show (10000 : Nat) = 9999 + 1 from rfl, run_equalIn_array (d := 9999) (w := w) _ _ Tryz.underlying53 hi, hc]
 show ((Op.eqItems 9999 9 1 #[.string a.1, .string a.2] #[.string b.1, .string b.2] [0, 1]).run Tryz.prog w).andThen _ = _
 simp only [Op.eqItems]
 go_simp
 by_cases h1 : a.1.toList = b.1.toList <;> by_cases h2 : a.2.toList = b.2.toList <;> simp [h1, h2]
set_option maxHeartbeats 2000000 in
set_option maxRecDepth 100000 in
/-- Two rows that hold the same pairs are equal. -/
theorem equalP_any (xs : List (ByteArray × ByteArray)) (a b : Option Addr) (c d : Nat) (w : World) (hA : HoldsR w a 2 (xs.map pairRow)) (hB : HoldsR w b 2 (xs.map pairRow)) (hl : xs.length ≤ 1000) :
  Calls Tryz.prog 13 #[.slice a xs.length c, .slice b xs.length d] w fun e w' => e = .returned (.bool true) ∧ Below w.heap.size w w' := by
 have HA := Lib.hid hA
 have HB := Lib.hid hB
 obtain ⟨n, hn⟩ : ∃ n, xs.length = n := ⟨_, rfl⟩
 have HN := Lib.hid hn
 rw [hn] at hl ⊢
 clear hA hB hn
 go_enter Tryz.func13, Tryz.ntmps13
 go_upto_region 4 with fail
 go_loopg [13] n (fun g i wx => ∃ k : Nat, k + g = n ∧ i = .int .i64 k ∧ Below w.heap.size w wx)
 case atStart => exact ⟨0, by omega, rfl, Below.refl _ _⟩
 case round =>
  obtain ⟨k, hk, rfl, hb⟩ := hrel
  by_cases hlt : k < n
  ·have hltz : (k : Int) < (n : Int) := by omega
   obtain ⟨g, rfl⟩ : ∃ g, gk = g + 1 := ⟨gk - 1, by omega⟩
   obtain ⟨s, hx⟩ : ∃ s, xs[k]? = some s := ⟨_, List.getElem?_eq_getElem (by rw [HN.out]; exact hlt)⟩
   obtain ⟨ba, off, ha, _, hc⟩ := (HA.out.under hb).at (k := k) (row := pairRow s) (by rw [List.getElem?_map, hx]; rfl)
   obtain ⟨bb, off2, ha2, _, hc2⟩ := (HB.out.under hb).at (k := k) (row := pairRow s) (by rw [List.getElem?_map, hx]; rfl)
   have r0 : wr.cell? ⟨ba, off + k * 2, none⟩ = some (.string s.1) := hc 0 _ rfl
   have r1 : wr.cell? ⟨ba, off + k * 2 + 1, none⟩ = some (.string s.2) := hc 1 _ rfl
   have q0 : wr.cell? ⟨bb, off2 + k * 2, none⟩ = some (.string s.1) := hc2 0 _ rfl
   have q1 : wr.cell? ⟨bb, off2 + k * 2 + 1, none⟩ = some (.string s.2) := hc2 1 _ rfl
   have heq : ∀ w, (binOp .neq 53 (pairVal s) (pairVal s)).run Tryz.prog w = .ok (.bool false) w := fun w => by
    have := nePair s s w
    rwa [(eqP_iff s s).2 rfl] at this
   clear hx hc hc2
   subst ha
   subst ha2
   go_wp2_with fail
   go_quiet (fail)
   go_wp2_with fail
   go_roundg g
   case measure => omega
   case rel => exact ⟨k + 1, by omega, by go_num, bDrewN hb _⟩
  ·have hltz : ¬ (k : Int) < (n : Int) := by omega
   go_wp2_with fail
   go_ret
   exact ⟨rfl, hb⟩
set_option maxHeartbeats 1000000 in
theorem same1_any (g f : ByteArray × ByteArray) (fb : Nat) (w : World) (hf : BoxIs w fb #[.string f.1, .string f.2] 53) :
  Calls Tryz.prog 11 #[pairVal g, ptr fb] w fun e w' => e = .returned (.bool (g.1.toList == f.1.toList)) ∧ Below w.heap.size w w' := by
 have hx0 : BoxIs (w.alloc (.cells #[.string g.1, .string g.2] 53)) w.heap.size #[.string g.1, .string g.2] 53 := heap_alloc_new _ _
 have hb0 : Below w.heap.size w (w.alloc (.cells #[.string g.1, .string g.2] 53)) := bAlloc (Below.refl w.heap.size w) _
 have p0 := hx0.cell (j := 0) rfl
 have q0 := (hf.under hb0).cell (j := 0) rfl
 have HB := Lib.hid hb0
 clear hx0 hf hb0
 obtain ⟨t, ht⟩ : ∃ t, (g.1.toList == f.1.toList) = t := ⟨_, rfl⟩
 go_enter Tryz.func11, Tryz.ntmps11
 go_upto_region 1 with fail
 generalize w.alloc _ = w1 at *
 go_wp2_with fail
 go_ret
 refine ⟨?_, HB.out⟩
 first
  | rfl
  | (rw [← ht]; rfl)
  | (simp [ht])
end Go.Proofs.YtchfhojighopkaaGreatDoor
namespace Go.Proofs.YtchfhojighopkaaGreatDoor
open Go.RowKit

def eq1 (f g : ByteArray × ByteArray) : Bool := g.1.toList == f.1.toList
set_option maxHeartbeats 2000000 in
set_option maxRecDepth 100000 in
theorem indexFn_any (xs : List (ByteArray × ByteArray)) (a : Option Addr) (c : Nat) (f : ByteArray × ByteArray) (fb : Nat) (w : World) (hH : HoldsR w a 2 (xs.map pairRow)) (hl : xs.length ≤ 1000) (hf : BoxIs w fb #[.string f.1, .string f.2] 53) :
  Calls Tryz.prog 33 #[.slice a xs.length c, .func (.func 11) #[] #[ptr fb]] w (IdxP (xs.any (eq1 f)) w) := by
 have HH := Lib.hid hH
 have HF := Lib.hid (fun W g (hb : Below w.heap.size w W) => same1_any g f fb W (hf.under hb))
 obtain ⟨n, hn⟩ : ∃ n, xs.length = n := ⟨_, rfl⟩
 have HN := Lib.hid hn
 rw [hn] at hl ⊢
 clear hH hn hf
 go_enter Tryz.func33, Tryz.ntmps33
 go_upto_region 2 with fail
 go_loopg [8] n (fun g i wx => ∃ k : Nat, k + g = n ∧ i = .int .i64 k ∧ Below w.heap.size w wx ∧ Hid (xs.any (eq1 f) = (xs.drop k).any (eq1 f)))
 case atStart => exact ⟨0, by omega, rfl, Below.refl _ _, Lib.hid rfl⟩
 case round =>
  obtain ⟨k, hk, rfl, hb, HA⟩ := hrel
  by_cases hlt : k < n
  ·have hltz : (k : Int) < (n : Int) := by omega
   obtain ⟨g, rfl⟩ : ∃ g, gk = g + 1 := ⟨gk - 1, by omega⟩
   have hlt2 : k < xs.length := by rw [HN.out]; exact hlt
   obtain ⟨s, hx⟩ : ∃ s, xs[k]? = some s := ⟨_, List.getElem?_eq_getElem hlt2⟩
   obtain ⟨ba, off, ha, _, hc⟩ := (HH.out.under hb).at (k := k) (row := pairRow s) (by rw [List.getElem?_map, hx]; rfl)
   have r0 : wr.cell? ⟨ba, off + k * 2, none⟩ = some (.string s.1) := hc 0 _ rfl
   have r1 : wr.cell? ⟨ba, off + k * 2 + 1, none⟩ = some (.string s.2) := hc 1 _ rfl
   subst ha
   have hdr : xs.drop k = s :: xs.drop (k + 1) := by rw [List.drop_eq_getElem_cons hlt2, (List.getElem?_eq_some_iff.1 hx).2]
   rw [hdr, List.any_cons] at HA
   have HFs := Lib.hid (HF.out wr s hb)
   have he : eq1 f s = (s.1.toList == f.1.toList) := rfl
   rw [← he] at HFs
   clear hx hdr hlt2 hc he
   have HBk := Lib.hid hb
   generalize eq1 f s = E at *
   cases E
   ·go_wp2_with (go_at_call 11; refine HFs.out.mono ?_; rintro e w2 ⟨rfl, hb2⟩)
    go_roundg g
    case measure => omega
    case rel => exact ⟨k + 1, by omega, by go_num, bTrans HBk.out hb2, HA⟩
   ·go_wp2_with (go_at_call 11; refine HFs.out.mono ?_; rintro e w2 ⟨rfl, hb2⟩)
    go_ret
    exact ⟨k, rfl, by rw [HA.out]; simp, bTrans HBk.out hb2⟩
  ·have HA2 : Hid (xs.any (eq1 f) = false) := Lib.hid (by rw [HA.out, List.drop_of_length_le (by rw [HN.out]; omega)]; rfl)
   have hltz : ¬ (k : Int) < (n : Int) := by omega
   go_wp2_with fail
   go_ret
   exact ⟨-1, rfl, by rw [HA2.out]; rfl, hb⟩
set_option maxHeartbeats 1000000 in
theorem containsFn_any (xs : List (ByteArray × ByteArray)) (a : Option Addr) (c : Nat) (f : ByteArray × ByteArray) (fb : Nat) (w : World) (hH : HoldsR w a 2 (xs.map pairRow)) (hl : xs.length ≤ 1000) (hf : BoxIs w fb #[.string f.1, .string f.2] 53) :
  Calls Tryz.prog 10 #[.slice a xs.length c, .func (.func 11) #[] #[ptr fb]] w fun e w' => e = .returned (.bool (xs.any (eq1 f))) ∧ Below w.heap.size w w' := by
 have HI := Lib.hid (indexFn_any xs a c f fb w hH hl hf)
 generalize xs.any (eq1 f) = E at *
 clear hH hf
 go_enter Tryz.func10, Tryz.ntmps10
 go_wp2_with fail
 refine HI.out.mono ?_
 rintro e w2 ⟨r, rfl, hr, hb2⟩
 go_wp2_with fail
 go_ret
 exact ⟨rfl, hb2⟩
end Go.Proofs.YtchfhojighopkaaGreatDoor
namespace Go.Proofs.YtchfhojighopkaaGreatDoor
open Go.RowKit

section
variable {w0 w w' : World} {S : Two} {N : Int} {u : UB} {T : Tabs} {p : ByteArray}
/-- The members to which a change goes. -/
def TargP (u : UB) (ns : List Nat) (w : World) (e : Ending) (w' : World) : Prop :=
 (∃ (v : Value) (z : Int), e = .returned (.tuple #[v, .int .i64 z]) ∧ (z = 15 ∧ v = .slice none 0 0 ∨ z = 0 ∧ ∃ (ts : List Nat) (a : Option Addr) (cap : Nat), v = .slice a ts.length cap ∧ RowG 3 1 w' w.heap.size a cap (ts.map fun (n : Nat) => [Value.int .i64 n]) ∧ ts.Sublist ns ∧ ∀ t ∈ ts, u.isFix t = false)) ∧ Below w.heap.size w w'
set_option maxHeartbeats 8000000 in
set_option maxRecDepth 100000 in
theorem targets_any {r : Nat} {ns : List Nat} {xs : List InfS} {na ia : Option Addr} {nc ic : Nat} (h : UAt w S u) (hs : SeenR w r ns xs na nc ia ic) (hd : ∀ x ∈ xs, x.dir = false) (hl : xs.length ≤ 2) (hns : ∀ m ∈ ns, m < 2) :
  Calls Tryz.prog 237 #[ptr u.b, .agg #[.slice na ns.length nc, .slice ia xs.length ic]] w (TargP u ns w) := by
 have HFx := Lib.hid (fun W i (hI : UAt W S u) => fixed_any hI i)
 have HAd := Lib.hid (fun W r b ns xs na nc ia ic (q1 : SeenB W r b ns xs na nc ia ic) q2 q3 q4 i q5 x q6 => add_any q1 q2 q3 q4 i q5 x q6)
 unfold AddP at HAd
 have HNo := Lib.hid (fun (na : Option Addr) (n nc : Nat) (ia : Option Addr) (k ic : Nat) W => seenNone_any na n nc (.slice ia k ic) rfl W)
 obtain ⟨sb, hsb⟩ : ∃ sb, w.heap.size = sb := ⟨_, rfl⟩
 obtain ⟨k, hk⟩ : ∃ k, ns.length = k := ⟨_, rfl⟩
 have hkx : xs.length = k := by rw [← hs.len]; exact hk
 rw [hk, hkx]
 obtain ⟨hx1, hx2, hb1⟩ := box_two w #[.slice na k nc, .slice ia k ic] seen0 296 296
 rw [hsb] at hx1 hx2
 have HZ := Lib.hid hsb
 have HK := Lib.hid (And.intro hk hkx)
 have HX1 := Lib.hid hx1
 have HX2 := Lib.hid hx2
 have HB1 := Lib.hid hb1
 have HU := Lib.hid (fun W (hb : Below w.heap.size w W) => h.below hb)
 have HSr := Lib.hid (fun W (hb : Below w.heap.size w W) => hs.under hb)
 have HD := Lib.hid (And.intro hd hns)
 have c0 := hx1.cell (j := 0) rfl
 clear hx1 hx2 hb1 h hs hd hk hsb hns
 go_enter Tryz.func237, Tryz.ntmps237
 go_upto_region 2 with fail
 rw [HZ.out]
 generalize (w.alloc _).alloc _ = w1 at *
 go_upto_region 3 with fail
 clear c0
 go_loopg [12] k (fun gk s12 wx => ∃ (i : Nat) (ts : List Nat) (ys : List InfS) (ta : Option Addr) (tc : Nat) (ya : Option Addr) (yc : Nat), s12 = .int .i64 i ∧ i + gk = k ∧ Hid (SeenB wx sb (sb + 1) ts ys ta tc ya yc) ∧ Hid (ts.Sublist (ns.take i) ∧ (∀ t ∈ ts, u.isFix t = false) ∧ ∀ y ∈ ys, y.dir = false) ∧ Hid (BoxIs wx sb #[.slice na k nc, .slice ia k ic] 296) ∧ Hid (Below w.heap.size w wx))
 case atStart => exact ⟨0, [], [], none, 0, none, 0, rfl, by omega, Lib.hid ⟨HX2.out, SeenR.nil _ _⟩, Lib.hid ⟨List.nil_sublist _, fun _ ht => (List.not_mem_nil ht).elim, fun _ ht => (List.not_mem_nil ht).elim⟩, HX1, HB1⟩
 case round =>
  clear HX1 HX2 HB1
  obtain ⟨i, ts, ys, ta, tc, ya, yc, rfl, hig, HSe, HTs0, HX, HB⟩ := hrel
  have hnoz : ∀ j, j = sb + 1 ∨ rb ta j ∨ rb ya j → ¬ j = sb ∧ sb ≤ j := fun j hj => by
   rcases hj with rfl | hj | hj
   ·omega
   ·exact ⟨fun e => by rw [e] at hj; exact HSe.out.sl.rn.ne HX.out (by decide) hj, (HSe.out.sl.rn.base j hj).1⟩
   ·exact ⟨fun e => by rw [e] at hj; exact HSe.out.sl.rx.ne HX.out (by decide) hj, (HSe.out.sl.rx.base j hj).1⟩
  have HNz := Lib.hid hnoz
  clear hnoz
  have HUr := Lib.hid (HU.out _ HB.out)
  have hlen : ts.length ≤ 2 := by
   have h1 := HTs0.out.1.length_le
   have h2 := List.length_take_le i ns
   have h3 := HK.out
   omega
  have HLe := Lib.hid hlen
  by_cases hlt : i < k
  case neg =>
   have hltz : ¬ (i : Int) < (k : Int) := by omega
   obtain ⟨k2, hk2⟩ : ∃ k2, ts.length = k2 := ⟨_, rfl⟩
   have hk2y : ys.length = k2 := by rw [← HSe.out.sl.len]; exact hk2
   have hbx := HSe.out.box
   rw [hk2, hk2y] at hbx
   have HBx := Lib.hid hbx
   have s0 := hbx.cell (j := 0) rfl
   have s1 := hbx.cell (j := 1) rfl
   have HLn := Lib.hid hk2
   have HLy := Lib.hid hk2y
   have HNx := Lib.hid (HNo.out ta k2 tc ya k2 yc wr)
   have HTn : Hid (ts.Sublist ns) := Lib.hid (HTs0.out.1.trans (List.take_sublist _ _))
   have HBe := Lib.hid (fun W (pol : Int) (hW : Below wr.heap.size wr W) => best_any (w := W) (xs := ys) pol (.slice ta k2 tc) rfl (HSe.out.sl.under hW).rx (by have := hk2y; omega) HTs0.out.2.2)
   rw [hk2y] at HBe
   unfold BestP at HBe
   clear hbx hk2 hk2y HNo
   cases hz : (k2 == 0) with
   | true =>
    rw [hz] at HNx
    clear hz
    go_wp2_with (go_at_call 235; refine HNx.out.mono ?_; rintro e w5 ⟨rfl, hb5⟩)
    go_ret2
    exact ⟨⟨_, 15, rfl, .inl ⟨rfl, rfl⟩⟩, bTrans HB.out hb5⟩
   | false =>
    rw [hz] at HNx
    have hk0 : 0 < k2 := by
     rcases Nat.eq_zero_or_pos k2 with h | h
     ·rw [h] at hz; cases hz
     ·exact h
    clear hz
    go_upto_region 10 with (go_at_call 235; refine HNx.out.mono ?_; rintro e w3 ⟨rfl, hb3⟩)
    have HB3 := Lib.hid hb3
    have HBw := Lib.hid (bTrans HB.out hb3)
    have HS3 : Hid (BoxIs w3 (sb + 1) #[.slice ta k2 tc, .slice ya k2 yc] 296 ∧ SeenR w3 sb ts ys ta tc ya yc) := Lib.hid ⟨HBx.out.under hb3, HSe.out.sl.under hb3⟩
    have HU3 := Lib.hid (HUr.out.below hb3)
    have hch : w3.cell? ⟨u.b, 11, none⟩ = some (.int .i64 u.ch) := HU3.out.box.cell (j := 11) rfl
    have e0 := HS3.out.1.cell (j := 0) rfl
    have e1 := HS3.out.1.cell (j := 1) rfl
    obtain ⟨ch, hcc⟩ : ∃ ch, u.ch = ch := ⟨_, rfl⟩
    rw [hcc] at hch
    have HCh := Lib.hid hcc
    clear hb3 hcc s0 s1
    by_cases hc2 : ch = 2
    ·subst hc2
     go_wp2_with fail
     go_ret2
     exact ⟨⟨_, 0, rfl, .inr ⟨rfl, ts, ta, tc, by rw [HLn.out]; rfl, by have := HS3.out.2.rn; rw [← HZ.out] at this; exact this, HTn.out, HTs0.out.2.1⟩⟩, HBw.out⟩
    ·have hc2z : (ch == 2) = false := by simpa using hc2
     obtain ⟨ng, rfl⟩ := HS3.out.2.rn.some_of (by rw [List.length_map, HLn.out]; exact hk0)
     have hk0z : (0 : Int) < (k2 : Int) := by omega
     go_upto_region 12 with fail
     have hS : Below w3.heap.size w3 w3.drew := ⟨rfl, rfl, rfl, Nat.le_refl _, fun _ _ => rfl⟩
     clear hch e0 e1
     refine wp_region_seq (fun W => Below w3.heap.size w3 W) [(0, true), (1, true), (2, true), (3, true), (4, true), (5, true), (6, true), (7, true), (8, false), (9, true), (10, true), (11, false), (12, true), (13, true)] (by as_aux_lemma => kernel_rfl) (by as_aux_lemma => kernel_rfl) (by decide) (by as_aux_lemma => kernel_rfl) hS ?_
     intro OPS HO
     iterate 8
      refine seq_take (o := ⟨_, _, _, _, _, _⟩) (v := ?_) (by rw [HO.out]; rfl) (by rfl) ?_ ?_
      rotate_left 1
      ·first | ((intro W _; go_simp) <;> with_reducible rfl) | (intro W hW; have c0 := (HS3.out.1.under hW).cell (j := 0) rfl; have c1 := (HS3.out.1.under hW).cell (j := 1) rfl; have d1 : W.cell? ⟨u.b, 11, none⟩ = some (.int .i64 u.ch) := (HU3.out.below hW).box.cell (j := 11) rfl; rw [HCh.out] at d1; (go_simp <;> with_reducible rfl))
      try simp only [Act.put, List.setIfInBounds_toArray, List.set_cons_zero, List.set_cons_succ]
     refine seq_do (o := ⟨_, _, _, _, _, _⟩) (by rw [HO.out]; rfl) (by rfl) (fun K hK => ?_)
     go_wp2_with (go_at_call 229; refine (HBe.out _ _ (bTrans HB3.out hS)).mono ?_; rintro e w5 ⟨⟨j, rfl, hj⟩, hb5⟩; replace hS : Below w3.heap.size w3 w5 := bTrans hS hb5; clear hb5)
     have hjz : (j : Int) < (k2 : Int) := by omega
     have hjk : j < k2 := by omega
     obtain ⟨t, ht⟩ : ∃ t, ts[j]? = some t := ⟨_, List.getElem?_eq_getElem (by rw [HLn.out]; exact hjk)⟩
     have HT := Lib.hid (fun W (hW : Below w3.heap.size w3 W) => ((HS3.out.2.under hW).rn.cell_at (j := 0) (by decide) (show (ts.map fun (n : Nat) => [Value.int .i64 n])[j]? = some [.int .i64 t] by rw [List.getElem?_map, ht]; rfl) rfl : W.cell? ⟨ng, j * 1 + 0, none⟩ = some (.int .i64 t)))
     rw [show j * 1 + 0 = j by omega] at HT
     have HTs := Lib.hid ht
     clear ht hj
     refine hK.out _ _ hS (fun _ => ?_)
     clear hK K
     try simp only [Act.put, List.setIfInBounds_toArray, List.set_cons_zero, List.set_cons_succ]
     refine seq_take (o := ⟨_, _, _, _, _, _⟩) (v := ?_) (by rw [HO.out]; rfl) (by rfl) ?_ ?_
     rotate_left 1
     ·first | ((intro W _; go_simp) <;> with_reducible rfl) | (intro W hW; have c0 := (HS3.out.1.under hW).cell (j := 0) rfl; have c1 := (HS3.out.1.under hW).cell (j := 1) rfl; have d1 : W.cell? ⟨u.b, 11, none⟩ = some (.int .i64 u.ch) := (HU3.out.below hW).box.cell (j := 11) rfl; rw [HCh.out] at d1; (go_simp <;> with_reducible rfl))
     try simp only [Act.put, List.setIfInBounds_toArray, List.set_cons_zero, List.set_cons_succ]
     refine seq_take (o := ⟨_, _, _, _, _, _⟩) (v := ?_) (by rw [HO.out]; rfl) (by rfl) ?_ ?_
     rotate_left 1
     ·(intro W hW; have q := HT.out _ hW; (go_simp <;> with_reducible rfl))
     try simp only [Act.put, List.setIfInBounds_toArray, List.set_cons_zero, List.set_cons_succ]
     refine seq_do (o := ⟨_, _, _, _, _, _⟩) (by rw [HO.out]; rfl) (by rfl) (fun K hK => ?_)
     go_wp2_with fail
     have hb6 : Below w5.heap.size w5 (w5.alloc (.cells #[.int .i64 t] 3)) := bAlloc (Below.refl _ _) _
     have hx6 : BoxIs (w5.alloc (.cells #[.int .i64 t] 3)) w5.heap.size #[.int .i64 t] 3 := heap_alloc_new _ _
     have HX6 := Lib.hid (And.intro hx6 (bTrans hS hb6))
     have HSz := Lib.hid hS
     replace hS : Below w3.heap.size w3 (w5.alloc (.cells #[.int .i64 t] 3)) := bTrans hS hb6
     clear hb6 hx6
     refine hK.out _ _ hS (fun _ => ?_)
     clear hK K
     iterate 2
      try simp only [Act.put, List.setIfInBounds_toArray, List.set_cons_zero, List.set_cons_succ]
      refine seq_take (o := ⟨_, _, _, _, _, _⟩) (v := ?_) (by rw [HO.out]; rfl) (by rfl) ?_ ?_
      rotate_left 1
      ·first | ((intro W _; go_simp) <;> with_reducible rfl) | (intro W hW; have c0 := (HS3.out.1.under hW).cell (j := 0) rfl; have c1 := (HS3.out.1.under hW).cell (j := 1) rfl; have d1 : W.cell? ⟨u.b, 11, none⟩ = some (.int .i64 u.ch) := (HU3.out.below hW).box.cell (j := 11) rfl; rw [HCh.out] at d1; (go_simp <;> with_reducible rfl))
     try simp only [Act.put, List.setIfInBounds_toArray, List.set_cons_zero, List.set_cons_succ]
     refine seq_done ?_
     go_wp2_with fail
     go_ret2
     refine ⟨⟨_, 0, rfl, .inr ⟨rfl, [t], some ⟨w5.heap.size, 0, none⟩, 1, rfl, RowG.one HX6.out.1 rfl (Nat.le_trans HBw.out.size HSz.out.size), (List.singleton_sublist.2 (List.mem_of_getElem? HTs.out)).trans HTn.out, fun q hq => by rw [List.mem_singleton.1 hq]; exact HTs0.out.2.1 t (List.mem_of_getElem? HTs.out)⟩⟩, bTrans HBw.out HX6.out.2⟩
  case pos =>
   have hltz : (i : Int) < (k : Int) := by omega
   obtain ⟨g, rfl⟩ : ∃ g, gk = g + 1 := ⟨gk - 1, by omega⟩
   obtain ⟨m, hm⟩ : ∃ m, ns[i]? = some m := ⟨_, List.getElem?_eq_getElem (by rw [HK.out.1]; exact hlt)⟩
   obtain ⟨x, hx⟩ : ∃ x, xs[i]? = some x := ⟨_, List.getElem?_eq_getElem (by rw [HK.out.2]; exact hlt)⟩
   have hm2 := HD.out.2 m (List.mem_of_getElem? hm)
   have hxd := HD.out.1 x (List.mem_of_getElem? hx)
   have HSx := Lib.hid (HSr.out _ HB.out)
   have hrm : (ns.map fun (n : Nat) => [Value.int .i64 n])[i]? = some [.int .i64 m] := by rw [List.getElem?_map, hm]; rfl
   have hrx : (xs.map InfS.row)[i]? = some x.row := by rw [List.getElem?_map, hx]; rfl
   obtain ⟨ng, rfl⟩ := HSx.out.rn.some_of (by rw [List.length_map, HK.out.1]; omega)
   obtain ⟨ig, rfl⟩ := HSx.out.rx.some_of (by rw [List.length_map, HK.out.2]; omega)
   have n0 : wr.cell? ⟨ng, i * 1 + 0, none⟩ = some (.int .i64 m) := HSx.out.rn.cell_at (by decide) hrm (j := 0) rfl
   rw [show i * 1 + 0 = i by omega] at n0
   have HTk : Hid (ns.take (i + 1) = ns.take i ++ [m]) := Lib.hid (take_snoc hm)
   have HFr := Lib.hid (HFx.out wr m HUr.out)
   cases hf : u.isFix m with
   | true =>
    rw [hf] at HFr
    clear hm hx hrm hrx hf
    go_wp2_with (go_at_call 227; refine HFr.out.mono ?_; rintro e w5 ⟨rfl, hw5⟩; have hw6 := hw5.symm; clear hw5; subst hw6)
    go_roundg g
    case measure => omega
    case rel => exact ⟨i + 1, ts, ys, ta, tc, ya, yc, by go_num, by omega, HSe, Lib.hid ⟨by rw [HTk.out]; exact HTs0.out.1.trans (List.sublist_append_left _ _), HTs0.out.2⟩, HX, HB⟩
   | false =>
    rw [hf] at HFr
    have HF := Lib.hid hf
    have c0 : wr.cell? ⟨ig, i * 7, none⟩ = some (.string x.path) := HSx.out.rx.cell_at (by decide) hrx (j := 0) rfl
    have c1 : wr.cell? ⟨ig, i * 7 + 1, none⟩ = some (.bool x.dir) := HSx.out.rx.cell_at (by decide) hrx (j := 1) rfl
    have c2 : wr.cell? ⟨ig, i * 7 + 2, none⟩ = some (.int .i64 x.size) := HSx.out.rx.cell_at (by decide) hrx (j := 2) rfl
    have c3 : wr.cell? ⟨ig, i * 7 + 3, none⟩ = some (.int .i64 x.time) := HSx.out.rx.cell_at (by decide) hrx (j := 3) rfl
    have c4 : wr.cell? ⟨ig, i * 7 + 4, none⟩ = some (.slice x.sa x.sn x.sc) := HSx.out.rx.cell_at (by decide) hrx (j := 4) rfl
    have c5 : wr.cell? ⟨ig, i * 7 + 5, none⟩ = some (.slice none 0 0) := HSx.out.rx.cell_at (by decide) hrx (j := 5) rfl
    have c6 : wr.cell? ⟨ig, i * 7 + 6, none⟩ = some (.string x.id) := HSx.out.rx.cell_at (by decide) hrx (j := 6) rfl
    have b1 := HX.out.cell (j := 1) rfl
    have HAx := Lib.hid (HAd.out wr sb (sb + 1) ts ys ta tc ya yc HSe.out HTs0.out.2.2 (by rw [← HSe.out.sl.len]; omega) (by have := HX.out.lt; omega) m (by omega) x hxd)
    have hk2 : k ≤ 2 := by have := HK.out.2; omega
    obtain ⟨A, dd, z, t, sa, sn, sc, ix⟩ := x
    dsimp only at c0 c1 c2 c3 c4 c6 hxd HAx
    subst hxd
    clear hm hx hrm hrx hf
    go_wp2_with (first
     | (go_at_call 227; refine HFr.out.mono ?_; rintro e w5 ⟨rfl, hw5⟩; have hw6 := hw5.symm; clear hw5; subst hw6)
     | (go_at_call 242; refine HAx.out.mono ?_; rintro e w4 ⟨rfl, na4, nc4, ia4, ic4, hs4, hk4, ho4⟩; have H4 := Lib.hid (And.intro hs4 hk4); clear hs4 hk4 ho4))
    go_roundg g
    case measure => omega
    case rel =>
     refine ⟨i + 1, ts ++ [m], ys ++ [⟨A, false, z, t, sa, sn, sc, ix⟩], na4, nc4, ia4, ic4, by go_num, by omega, Lib.hid H4.out.1, Lib.hid ⟨by rw [HTk.out]; exact HTs0.out.1.append (List.Sublist.refl _), fun y hy => ?_, fun y hy => ?_⟩, Lib.hid (HX.out.kp H4.out.2 (fun q => (HNz.out _ q).1 rfl)), Lib.hid (HB.out.trans (H4.out.2.below (fun j hj => by rw [HZ.out]; exact (HNz.out j hj).2) HB.out.size))⟩
     ·rcases List.mem_append.1 hy with h | h
      ·exact HTs0.out.2.1 y h
      ·rw [List.mem_singleton.1 h]; exact HF.out
     ·rcases List.mem_append.1 hy with h | h
      ·exact HTs0.out.2.2 y h
      ·rw [List.mem_singleton.1 h]
end
end Go.Proofs.YtchfhojighopkaaGreatDoor
