/-
  Parts of the proof: SwZ.
-/
import Derived.Laws.MakeOwn
import Derived.Test.YtchfhojighopkaaGreatDoorGuAM
namespace Go.Proofs.YtchfhojighopkaaGreatDoor
open Go.RowKit Wh.Sha

def EK.init : EK → List W
 | .md5 => [1732584193#32, 4023233417#32, 2562383102#32, 271733878#32]
 | .sha1 => [1732584193#32, 4023233417#32, 2562383102#32, 271733878#32, 3285377520#32]
 | .sha256 => St.init.list
theorem EK.init_len (k : EK) : k.init.length = k.len := by cases k <;> rfl
/-- The kind of engine that a number names. -/
def EK.of (n : Int) : EK := if n = 2 then .md5 else if n = 3 then .sha1 else .sha256

set_option maxHeartbeats 1000000 in
theorem newEngine_any (n : Int) (w : World) : Calls Tryz.prog 138 #[.int .i64 n] w fun e w' => e = .returned (.iface (EK.of n).pty (.pointer (some ⟨w.heap.size, 0, none⟩))) ∧ w' = w.alloc (.cells ((EK.of n).init.map vw).toArray (EK.of n).box) := by
 by_cases h2 : n = 2
 ·subst h2
  go_enter Tryz.func138, Tryz.ntmps138
  go_wp2_with fail
  go_ret
  exact ⟨rfl, rfl⟩
 ·by_cases h3 : n = 3
  ·subst h3
   go_enter Tryz.func138, Tryz.ntmps138
   go_wp2_with fail
   go_ret
   exact ⟨rfl, rfl⟩
  ·have HE : Hid (EK.of n = .sha256) := Lib.hid (by unfold EK.of; rw [if_neg h2, if_neg h3])
   go_enter Tryz.func138, Tryz.ntmps138
   go_wp2_with fail
   go_ret
   rw [HE.out]
   exact ⟨rfl, rfl⟩

set_option maxHeartbeats 1000000 in
theorem newStream_any (n : Int) (B : Nat) (w : World) (hB : B ≤ w.heap.size) : Calls Tryz.prog 123 #[.int .i64 n] w fun e w' => ∃ b ge, e = .returned (.pointer (some ⟨b, 0, none⟩)) ∧ StreamAt w' B b ge (EK.of n) none 0 (EK.of n).init [] 0 ∧ Below w.heap.size w w' ∧ w.heap.size ≤ b ∧ w.heap.size ≤ ge := by
 obtain ⟨k, hk⟩ : ∃ k, EK.of n = k := ⟨_, rfl⟩
 have HN := Lib.hid (newEngine_any n w)
 rw [hk] at HN ⊢
 obtain ⟨pt, hpt⟩ : ∃ pt, k.pty = pt := ⟨_, rfl⟩
 have HPT := Lib.hid hpt
 rw [hpt] at HN
 clear hk hpt
 go_enter Tryz.func123, Tryz.ntmps123
 go_wp2_with (go_at_call 138; refine HN.out.mono ?_; rintro e w1 ⟨rfl, hw1⟩)
 have HW1 := Lib.hid hw1
 clear hw1
 go_wp2_with fail
 go_ret
 obtain rfl := HW1.out
 have hE : WordsAt (w.alloc (.cells (k.init.map vw).toArray k.box)) w.heap.size k.init k.box := heap_alloc_new _ _
 have hb1 : Below w.heap.size w (w.alloc (.cells (k.init.map vw).toArray k.box)) := bAlloc (Below.refl _ _) _
 have hs1 : (w.alloc (.cells (k.init.map vw).toArray k.box)).heap.size = w.heap.size + 1 := by simp
 generalize w.alloc (.cells (k.init.map vw).toArray k.box) = w1 at *
 have hb2 : Below w1.heap.size w1 (w1.alloc (.cells #[.iface pt (.pointer (some ⟨w.heap.size, 0, none⟩)), .slice none 0 0, .int .i64 0] 226)) := bAlloc (Below.refl _ _) _
 refine ⟨w1.heap.size, w.heap.size, by rw [hs1]; rfl, ⟨?_, hE.kp (Kp.of (F := fun _ => False) hb2) (fun e => e), EK.init_len k, RowU.nil _ _, by omega, hB, by omega, (fun i hi => by
  obtain ⟨a, ha, _⟩ := hi
  cases ha), by decide⟩, bTrans hb1 hb2, by omega, Nat.le_refl _⟩
 rw [HPT.out]
 exact heap_alloc_new _ _

def revC : W := 16711935#32
def rev (x : W) : W := let y := oW (aW (rW 8 x) revC) (lW 8 (aW x revC)); oW (rW 16 y) (lW 16 y)
theorem reverse_any (x : W) (w : World) : Calls Tryz.prog 263 #[vw x] w fun e w' => e = .returned (vw (rev x)) ∧ w' = w := by
 obtain ⟨cc, hcc⟩ : ∃ cc : W, cc = 16711935#32 := ⟨_, rfl⟩
 have hk : (16711935 : Int) = (cc.toNat : Int) := by rw [hcc]; rfl
 have HR : Hid (rev x = oW (rW 16 (oW (aW (rW 8 x) cc) (lW 8 (aW x cc)))) (lW 16 (oW (aW (rW 8 x) cc) (lW 8 (aW x cc))))) := Lib.hid (by rw [hcc]; rfl)
 clear hcc
 go_enter Tryz.func263, Tryz.ntmps263
 go_upto_region 1 with fail
 --R1
 apply wp_region_lit
 refine wpList_val rfl (v := ?_) ?_ ?_
 rotate_left 1
 ·first | (go_simp <;> with_reducible rfl)
 try simp only [Act.put, List.setIfInBounds_toArray, List.set_cons_zero, List.set_cons_succ]
 try simp only [n_r8, n_r16, n_l8, n_l16, n_l8w, n_l16w, n_and, n_or]
 refine wpList_val rfl (v := ?_) ?_ ?_
 rotate_left 1
 ·first | (go_simp <;> with_reducible rfl)
 try simp only [Act.put, List.setIfInBounds_toArray, List.set_cons_zero, List.set_cons_succ]
 try simp only [n_r8]
 refine wpList_val rfl (v := ?_) ?_ ?_
 rotate_left 1
 ·first | (go_simp <;> with_reducible rfl)
 try simp only [Act.put, List.setIfInBounds_toArray, List.set_cons_zero, List.set_cons_succ]
 try simp only [n_and]
 refine wpList_val rfl (v := ?_) ?_ ?_
 rotate_left 1
 ·first | (go_simp <;> with_reducible rfl)
 try simp only [Act.put, List.setIfInBounds_toArray, List.set_cons_zero, List.set_cons_succ]
 try simp only [n_r8, n_r16, n_l8, n_l16, n_l8w, n_l16w, n_and, n_or]
 refine wpList_val rfl (v := ?_) ?_ ?_
 rotate_left 1
 ·first | (go_simp <;> with_reducible rfl)
 try simp only [Act.put, List.setIfInBounds_toArray, List.set_cons_zero, List.set_cons_succ]
 try simp only [n_and]
 refine wpList_val rfl (v := ?_) ?_ ?_
 rotate_left 1
 ·first | (go_simp <;> with_reducible rfl)
 try simp only [Act.put, List.setIfInBounds_toArray, List.set_cons_zero, List.set_cons_succ]
 try simp only [n_l8w]
 refine wpList_val rfl (v := ?_) ?_ ?_
 rotate_left 1
 ·first | (go_simp <;> with_reducible rfl)
 try simp only [Act.put, List.setIfInBounds_toArray, List.set_cons_zero, List.set_cons_succ]
 try simp only [n_or]
 refine wpList_val rfl (v := ?_) ?_ ?_
 rotate_left 1
 ·first | (go_simp <;> with_reducible rfl)
 try simp only [Act.put, List.setIfInBounds_toArray, List.set_cons_zero]
 try simp only [n_r8, n_r16, n_l8, n_l16, n_l8w, n_l16w, n_and, n_or]
 refine wpList_nil ?_
 --END1
 go_upto_region 2 with fail
 --R2
 apply wp_region_lit
 refine wpList_val rfl (v := ?_) ?_ ?_
 rotate_left 1
 ·first | (go_simp <;> with_reducible rfl)
 try simp only [Act.put, List.setIfInBounds_toArray, List.set_cons_zero, List.set_cons_succ]
 try simp only [n_r8, n_r16, n_l8, n_l16, n_l8w, n_l16w, n_and, n_or]
 refine wpList_val rfl (v := ?_) ?_ ?_
 rotate_left 1
 ·first | (go_simp <;> with_reducible rfl)
 try simp only [Act.put, List.setIfInBounds_toArray, List.set_cons_zero, List.set_cons_succ]
 try simp only [n_r16]
 refine wpList_val rfl (v := ?_) ?_ ?_
 rotate_left 1
 ·first | (go_simp <;> with_reducible rfl)
 try simp only [Act.put, List.setIfInBounds_toArray, List.set_cons_zero, List.set_cons_succ]
 try simp only [n_r8, n_r16, n_l8, n_l16, n_l8w, n_l16w, n_and, n_or]
 refine wpList_val rfl (v := ?_) ?_ ?_
 rotate_left 1
 ·first | (go_simp <;> with_reducible rfl)
 try simp only [Act.put, List.setIfInBounds_toArray, List.set_cons_zero, List.set_cons_succ]
 try simp only [n_l16w]
 refine wpList_val rfl (v := ?_) ?_ ?_
 rotate_left 1
 ·first | (go_simp <;> with_reducible rfl)
 try simp only [Act.put, List.setIfInBounds_toArray, List.set_cons_zero, List.set_cons_succ]
 try simp only [n_or]
 refine wpList_val rfl (v := ?_) ?_ ?_
 rotate_left 1
 ·first | (go_simp <;> with_reducible rfl)
 try simp only [Act.put, List.setIfInBounds_toArray, List.set_cons_zero, List.set_cons_succ]
 try simp only [n_r8, n_r16, n_l8, n_l16, n_l8w, n_l16w, n_and, n_or]
 refine wpList_nil ?_
 --END2
 clear hk
 go_wp2_with fail
 go_ret
 rw [HR.out]
 exact ⟨rfl, rfl⟩
end Go.Proofs.YtchfhojighopkaaGreatDoor
namespace Go.Proofs.YtchfhojighopkaaGreatDoor
open Go.RowKit Wh.Sha

/-- Bytes that were built are appended to a row. -/
theorem wpList_appU {ops : Array Oper} {rest : List Oper} {o : Oper} {act : Act} {Q : Exit → Act → World → Prop} {te : TypeId} {w : World} {B cap : Nat} {ra : Option Addr} {xs : List UInt8}
  (hR : RowU w B ra cap xs) (news : List UInt8) (vals : List Value) (hv : vals = news.map vb) (m : Nat) (hm : news.length = m) (hm0 : 0 < m) (hs : xs.length + m ≤ 1000000000) (hB : B ≤ w.heap.size) (hgd : o.guard = none) (s x : Operand)
  (ho : o.op = .call { callee := .builtin .append, args := #[s, x], argTypes := #[125, 125] }) (hsl : act.eval s = .slice ra xs.length cap) (hx : act.eval x = .slice (some ⟨w.heap.size, 0, none⟩) m m)
  (h : ∀ ra' cap' w', RowU w' B ra' cap' (xs ++ news) → Kp (rb ra) w w' → (∀ i, rb ra' i → rb ra i ∨ w.heap.size ≤ i) → wpList Tryz.prog ops Q rest (act.put o.dst (.slice ra' (xs.length + m) cap')) w') :
  wpList Tryz.prog ops Q (o :: rest) act (w.alloc (.cells vals.toArray te)) := by
 subst hv hm
 obtain ⟨i, ht, hi, hz0, hz1, hz2, hz3⟩ := elem_byte
 have hba : B ≤ (w.alloc (.cells (news.map vb).toArray te)).heap.size := by simp; omega
 have hal : Below w.heap.size w (w.alloc (.cells (news.map vb).toArray te)) := bAlloc (Below.refl _ _) _
 have how : RowU (w.alloc (.cells (news.map vb).toArray te)) B ra cap xs := hR.kp (Kp.of (F := fun _ => False) hal) (fun _ _ e => e)
 refine wpList_append_lies _ hgd s x 125 ho B 5 i (.int .u8 0) 1 1 ht hi hz0 hz1 hz2 hz3 (by decide) _ xs.length (xs.map vb) hsl how ⟨w.heap.size, 0, none⟩ news.length news.length (news.map vb) hx (by simp) (World.news_of_block (heap_alloc_new w _)) (one_bytes news) hm0 (by unfold maxLen; omega) (by omega) hba _ rfl ?_
 intro g cap' w' hown hgrow hat hlt
 refine h (some ⟨g, 0, none⟩) cap' w' ?_ ?_ ?_
 ·unfold RowU
  rw [List.map_append, List.length_append]
  exact hown
 ·refine (Kp.of (F := rb ra) hal).trans ⟨hgrow.os, hgrow.tape, hgrow.output, hgrow.size, fun k hk hF => hgrow.block k hk (fun e => hF ?_)⟩
  cases ra with
  | none => cases e
  | some a =>
   have h9 : (some k : Option Nat) = some a.block := e
   injection h9 with h9
   exact ⟨a, rfl, h9⟩
 ·rintro j ⟨a, ha, rfl⟩
  injection ha with ha
  subst ha
  rcases hat with hat | hat
  ·left
   cases ra with
   | none => cases hat
   | some a =>
    have h9 : (some a.block : Option Nat) = some g := hat
    injection h9 with h9
    exact ⟨a, rfl, h9.symm⟩
  ·right
   have : (w.alloc (.cells (news.map vb).toArray te)).heap.size = w.heap.size + 1 := by simp
   show w.heap.size ≤ g
   omega

/-- A row is copied: append([]byte(nil), row...). -/
theorem wp_copyU {o : Oper} {act : Act} {K : Act → World → Prop} {Q : Exit → Act → World → Prop} {w : World} {B cap : Nat} {ra : Option Addr} {xs : List UInt8}
  (hR : RowU w B ra cap xs) (hs : xs.length ≤ 1000000000) (s x : Operand)
  (ho : o.op = .call { callee := .builtin .append, args := #[s, x], argTypes := #[125, 125] }) (hsl : act.eval s = .slice none 0 0) (hx : act.eval x = .slice ra xs.length cap)
  (h : ∀ ra' cap' w', RowU w' w.heap.size ra' cap' xs → Below w.heap.size w w' → (∀ i, rb ra' i → w.heap.size ≤ i) → K (act.put o.dst (.slice ra' xs.length cap')) w') : Oper.wp Tryz.prog o act w K Q := by
 obtain ⟨i, ht, hi, hz0, hz1, hz2, hz3⟩ := elem_byte
 by_cases hx0 : xs.length = 0
 ·have hnil : xs = [] := List.eq_nil_of_length_eq_zero hx0
  subst hnil
  have hrun : (Builtin.append_ #[125, 125] o.type #[.slice none 0 0, .slice ra 0 cap]).run Tryz.prog w = .ok (.slice none 0 0) w := by
   cases ra with
   | none => simp [Builtin.append_, run_underlying ht, sizeOf, typeInfo, hi, Builtin.lenOf, Builtin.firstCells]
   | some a => simp [Builtin.append_, run_underlying ht, sizeOf, typeInfo, hi, Builtin.lenOf, Builtin.firstCells, loadCells, loadCellsFrom]
  unfold Oper.wp execOp
  simp only [ho, resolve, invoke, builtin, Sem.run_bind, Sem.run_pure, Result.andThen_ok, List.map_toArray, List.map_cons, List.map_nil, hsl, hx, List.length_nil, hrun]
  exact h none 0 w (RowU.nil _ _) (Below.refl _ _) (fun i hi => by obtain ⟨a, ha, _⟩ := hi; cases ha)
 ·cases ra with
  | none =>
   exfalso
   rcases hR.2 with ⟨_, h0⟩ | ⟨g, cap', cur, h1, _⟩
   ·exact hx0 h0
   ·cases h1
  | some a =>
   obtain ⟨g0, hg0, hb0, hc0⟩ := hR.bytes
   subst hg0
   refine wp_append_lies w s x 125 ho w.heap.size 5 i (.int .u8 0) 1 1 ht hi hz0 hz1 hz2 hz3 (by decide) (.slice none 0 0) 0 [] hsl ⟨rfl, .inl ⟨rfl, rfl⟩⟩ ⟨g0, 0, none⟩ xs.length cap (xs.map vb) hx (by simp) (fun j u hu => ?_) (one_bytes xs) (by omega) (by unfold maxLen; omega) (by omega) (Nat.le_refl _) _ rfl ?_
   ·have hj : j < xs.length := by
     have := (List.getElem?_eq_some_iff.1 hu).1
     simpa using this
    have hadd : (⟨g0, 0, none⟩ : Addr).add j = ⟨g0, 0 + j, none⟩ := by unfold Addr.add; split <;> simp_all
    rw [hadd, hc0 j hj]
    rw [List.getElem?_map, List.getElem?_eq_getElem hj] at hu
    rw [List.getD_eq_getElem?_getD, List.getElem?_eq_getElem hj]
    exact hu
   ·intro g cap' w' hown hgrow hat hlt
    rw [Nat.zero_add] at hown ⊢
    refine h (some ⟨g, 0, none⟩) cap' w' hown ((Below.refl _ _).grown hgrow (Nat.le_refl _) (fun k hk => by cases hk)) ?_
    rintro j ⟨a, ha, rfl⟩
    injection ha with ha
    subst ha
    rcases hat with hat | hat
    ·cases hat
    ·exact Nat.le_of_eq hat.symm

/-- make([]byte, 0, c) -/
theorem make_row (c : Nat) (w : World) (hc : c ≤ 1000000) : ∃ w', (Instr.makeSlice 125 (.int .i64 0) (.int .i64 c)).run Tryz.prog w = .ok (.slice (some ⟨w.heap.size, 0, none⟩) 0 c) w' ∧ RowU w' w.heap.size (some ⟨w.heap.size, 0, none⟩) c [] ∧ Below w.heap.size w w' := by
 obtain ⟨i, ht, hi, hz0, hz1, hz2, hz3⟩ := elem_byte
 obtain ⟨w', h1, h2, h3⟩ := run_makeSlice_owned (P := Tryz.prog) (w := w) w.heap.size 125 5 i (.int .u8 0) 1 ht hi hz0 hz1 .i64 .i64 c (by omega) (by rw [hz2]; omega) (by unfold maxLen; omega) (Nat.le_refl _)
 exact ⟨w', h1, h2, (Below.refl _ _).grown h3 (Nat.le_refl _) (fun k hk => by cases hk)⟩
end Go.Proofs.YtchfhojighopkaaGreatDoor
namespace Go.Proofs.YtchfhojighopkaaGreatDoor
open Go.RowKit Wh.Sha

def EK.little : EK → Bool
 | .md5 => true
 | .sha1 => false
 | .sha256 => false
/-- What fills a text up: n bytes are there, N is the number of all bytes. -/
def padK (k : EK) (n N : Nat) : List UInt8 := 128 :: (List.replicate (zeros n) 0 ++ (List.range 8).map fun i => UInt8.ofNat (N * 8 % 2 ^ 64 / 2 ^ (if k.little then 8 * i else 56 - 8 * i) % 256))
/-- The bytes of a stream's sum. -/
def sumL (T : Tabs) (k : EK) (l : List W) (rest : List UInt8) (N : Nat) : List UInt8 := fours ((goF (k.f T) l (rest ++ padK k rest.length N)).1.map fun w => if k.little then rev w else w)

def EK.copiedF : EK → FuncId
 | .md5 => 267
 | .sha1 => 273
 | .sha256 => 279
def EK.littleF : EK → FuncId
 | .md5 => 268
 | .sha1 => 274
 | .sha256 => 280
def EK.wordsF : EK → FuncId
 | .md5 => 271
 | .sha1 => 277
 | .sha256 => 283

theorem copied_any (k : EK) (ge : Nat) (l : List W) (w : World) (hE : WordsAt w ge l k.box) (hl : l.length = k.len) :
  Calls Tryz.prog k.copiedF #[.pointer (some ⟨ge, 0, none⟩)] w fun e w' => e = .returned (.iface k.pty (.pointer (some ⟨w.heap.size, 0, none⟩))) ∧ w' = w.alloc (.cells (l.map vw).toArray k.box) := by
 cases k with
 | md5 => exact md5_copied ge l w hE hl
 | sha1 => exact sha1_copied ge l w hE hl
 | sha256 => exact sha256_copied ge l w hE hl
theorem little_any (k : EK) (ge : Nat) (w : World) : Calls Tryz.prog k.littleF #[.pointer (some ⟨ge, 0, none⟩)] w fun e w' => e = .returned (.bool k.little) ∧ w' = w := by
 cases k with
 | md5 => exact md5_little ge w
 | sha1 => exact sha1_little ge w
 | sha256 => exact sha256_little ge w
theorem words_any (k : EK) (ge : Nat) (l : List W) (w : World) (hE : WordsAt w ge l k.box) (hl : l.length = k.len) :
  Calls Tryz.prog k.wordsF #[.pointer (some ⟨ge, 0, none⟩)] w fun e w' => ∃ g cap, e = .returned (.slice (some ⟨g, 0, none⟩) k.len cap) ∧ Holds w' (some ⟨g, 0, none⟩) (l.map vw) ∧ Below w.heap.size w w' := by
 cases k with
 | md5 => exact md5_words ge l w hE hl
 | sha1 => exact sha1_words ge l w hE hl
 | sha256 => exact sha256_words ge l w hE hl

theorem copied_method (k : EK) (w : World) (n : Nat) (v : Value) (hn : 0 < n) : (method n k.pty v "wherryman/sums.copied").run Tryz.prog w = .ok (k.copiedF, v) w := by
 cases k with
 | md5 => exact method_ptr (P := Tryz.prog) (i := Tryz.prog.types[234]!) (e := 237) (by kernel_rfl) (by kernel_rfl) (by kernel_rfl) hn v
 | sha1 => exact method_ptr (P := Tryz.prog) (i := Tryz.prog.types[238]!) (e := 241) (by kernel_rfl) (by kernel_rfl) (by kernel_rfl) hn v
 | sha256 => exact method_ptr (P := Tryz.prog) (i := Tryz.prog.types[242]!) (e := 245) (by kernel_rfl) (by kernel_rfl) (by kernel_rfl) hn v
theorem little_method (k : EK) (w : World) (n : Nat) (v : Value) (hn : 0 < n) : (method n k.pty v "wherryman/sums.little").run Tryz.prog w = .ok (k.littleF, v) w := by
 cases k with
 | md5 => exact method_ptr (P := Tryz.prog) (i := Tryz.prog.types[234]!) (e := 237) (by kernel_rfl) (by kernel_rfl) (by kernel_rfl) hn v
 | sha1 => exact method_ptr (P := Tryz.prog) (i := Tryz.prog.types[238]!) (e := 241) (by kernel_rfl) (by kernel_rfl) (by kernel_rfl) hn v
 | sha256 => exact method_ptr (P := Tryz.prog) (i := Tryz.prog.types[242]!) (e := 245) (by kernel_rfl) (by kernel_rfl) (by kernel_rfl) hn v
theorem words_method (k : EK) (w : World) (n : Nat) (v : Value) (hn : 0 < n) : (method n k.pty v "wherryman/sums.words").run Tryz.prog w = .ok (k.wordsF, v) w := by
 cases k with
 | md5 => exact method_ptr (P := Tryz.prog) (i := Tryz.prog.types[234]!) (e := 237) (by kernel_rfl) (by kernel_rfl) (by kernel_rfl) hn v
 | sha1 => exact method_ptr (P := Tryz.prog) (i := Tryz.prog.types[238]!) (e := 241) (by kernel_rfl) (by kernel_rfl) (by kernel_rfl) hn v
 | sha256 => exact method_ptr (P := Tryz.prog) (i := Tryz.prog.types[242]!) (e := 245) (by kernel_rfl) (by kernel_rfl) (by kernel_rfl) hn v

theorem copied_enters (k : EK) (args : Array Value) (w : World) : (callFunc k.copiedF args).run Tryz.prog w = .ok (.enter k.copiedF args) w := by
 cases k with
 | md5 => exact enters_of Tryz.func267 (by kernel_rfl) rfl args w
 | sha1 => exact enters_of Tryz.func273 (by kernel_rfl) rfl args w
 | sha256 => exact enters_of Tryz.func279 (by kernel_rfl) rfl args w
theorem little_enters (k : EK) (args : Array Value) (w : World) : (callFunc k.littleF args).run Tryz.prog w = .ok (.enter k.littleF args) w := by
 cases k with
 | md5 => exact enters_of Tryz.func268 (by kernel_rfl) rfl args w
 | sha1 => exact enters_of Tryz.func274 (by kernel_rfl) rfl args w
 | sha256 => exact enters_of Tryz.func280 (by kernel_rfl) rfl args w
theorem words_enters (k : EK) (args : Array Value) (w : World) : (callFunc k.wordsF args).run Tryz.prog w = .ok (.enter k.wordsF args) w := by
 cases k with
 | md5 => exact enters_of Tryz.func271 (by kernel_rfl) rfl args w
 | sha1 => exact enters_of Tryz.func277 (by kernel_rfl) rfl args w
 | sha256 => exact enters_of Tryz.func283 (by kernel_rfl) rfl args w
end Go.Proofs.YtchfhojighopkaaGreatDoor
