/-
  Parts of the proof: Sm1, Sm2.
-/
import Derived.Test.YtchfhojighopkaaGreatDoorGuAO
import Derived.Test.YtchfhojighopkaaGreatDoorGuAC
namespace Wh.Sha
def hexd (n : Nat) : UInt8 := if n < 10 then UInt8.ofNat (48 + n) else UInt8.ofNat (87 + n)
/-- Bytes, as digits. -/
def hexL (l : List UInt8) : List UInt8 := l.flatMap fun b => [hexd (b.toNat / 16), hexd (b.toNat % 16)]
theorem hexL_append (a b : List UInt8) : hexL (a ++ b) = hexL a ++ hexL b := by simp [hexL]
theorem hexL_len : ∀ l : List UInt8, (hexL l).length = 2 * l.length
 | [] => rfl
 | b :: l => by
  have h : hexL (b :: l) = [hexd (b.toNat / 16), hexd (b.toNat % 16)] ++ hexL l := rfl
  rw [h, List.length_append, hexL_len l]
  simp
  omega
theorem hexL_next {l : List UInt8} {k : Nat} {c : UInt8} (h : l[k]? = some c) : hexL (l.take (k + 1)) = hexL (l.take k) ++ [hexd (c.toNat / 16), hexd (c.toNat % 16)] := by
 rw [List.take_add_one, h, hexL_append]
 rfl
end Wh.Sha
namespace Go.Proofs.YtchfhojighopkaaGreatDoor
open Go.RowKit Wh.Sha

theorem and15b (c : UInt8) : bits BinOp.and IntKind.u8 (c.toNat : Int) 15 = ((c.toNat % 16 : Nat) : Int) := by
 have h : ∀ n : Fin 256, bits BinOp.and IntKind.u8 (n.1 : Int) 15 = ((n.1 % 16 : Nat) : Int) := by decide +kernel
 exact h ⟨c.toNat, c.toNat_lt⟩
theorem hexs_get (n : Nat) (h : n < 16) : (⟨#[48, 49, 50, 51, 52, 53, 54, 55, 56, 57, 97, 98, 99, 100, 101, 102]⟩ : ByteArray)[n]'h = hexd n := by
 have : ∀ n : Fin 16, (⟨#[48, 49, 50, 51, 52, 53, 54, 55, 56, 57, 97, 98, 99, 100, 101, 102]⟩ : ByteArray)[n.1]'n.2 = hexd n.1 := by decide +kernel
 exact this ⟨n, h⟩

/-- As wpList_appU, in a region that draws its order. -/
theorem wp_appU {K : Act → World → Prop} {o : Oper} {act : Act} {Q : Exit → Act → World → Prop} {te : TypeId} {w : World} {B cap : Nat} {ra : Option Addr} {xs : List UInt8}
  (hR : RowU w B ra cap xs) (news : List UInt8) (vals : List Value) (hv : vals = news.map vb) (m : Nat) (hm : news.length = m) (hm0 : 0 < m) (hs : xs.length + m ≤ 1000000000) (hB : B ≤ w.heap.size) (s x : Operand)
  (ho : o.op = .call { callee := .builtin .append, args := #[s, x], argTypes := #[125, 125] }) (hsl : act.eval s = .slice ra xs.length cap) (hx : act.eval x = .slice (some ⟨w.heap.size, 0, none⟩) m m)
  (h : ∀ ra' cap' w', RowU w' B ra' cap' (xs ++ news) → Kp (rb ra) w w' → (∀ i, rb ra' i → rb ra i ∨ w.heap.size ≤ i) → K (act.put o.dst (.slice ra' (xs.length + m) cap')) w') :
  Oper.wp Tryz.prog o act (w.alloc (.cells vals.toArray te)) K Q := by
 subst hv hm
 obtain ⟨i, ht, hi, hz0, hz1, hz2, hz3⟩ := elem_byte
 have hba : B ≤ (w.alloc (.cells (news.map vb).toArray te)).heap.size := by simp; omega
 have hal : Below w.heap.size w (w.alloc (.cells (news.map vb).toArray te)) := bAlloc (Below.refl _ _) _
 have how : RowU (w.alloc (.cells (news.map vb).toArray te)) B ra cap xs := hR.kp (Kp.of (F := fun _ => False) hal) (fun _ _ e => e)
 refine wp_append_lies _ s x 125 ho B 5 i (.int .u8 0) 1 1 ht hi hz0 hz1 hz2 hz3 (by decide) _ xs.length (xs.map vb) hsl how ⟨w.heap.size, 0, none⟩ news.length news.length (news.map vb) hx (by simp) (World.news_of_block (heap_alloc_new w _)) (one_bytes news) hm0 (by unfold maxLen; omega) (by omega) hba _ rfl ?_
 intro g cap' w' hown hgrow hat hlt
 refine h (some ⟨g, 0, none⟩) cap' w' ?_ ?_ ?_
 ·unfold RowU
  rw [List.map_append, List.length_append]
  exact hown
 ·refine (Kp.of (F := rb ra) hal).trans ⟨hgrow.os, hgrow.tape, hgrow.output, hgrow.size, fun k hk hF => hgrow.block k hk (fun e => hF ?_)⟩
  cases ra with
  | none => cases e
  | some a =>
   have h9 : (some k : Option Nat) = some a.block := e
   injection h9 with h9
   exact ⟨a, rfl, h9⟩
 ·rintro j ⟨a, ha, rfl⟩
  injection ha with ha
  subst ha
  rcases hat with hat | hat
  ·left
   cases ra with
   | none => cases hat
   | some a =>
    have h9 : (some a.block : Option Nat) = some g := hat
    injection h9 with h9
    exact ⟨a, rfl, h9.symm⟩
  ·right
   have : (w.alloc (.cells (news.map vb).toArray te)).heap.size = w.heap.size + 1 := by simp
   show w.heap.size ≤ g
   omega

set_option maxHeartbeats 2000000 in
set_option maxRecDepth 100000 in
theorem hexed_any (s : ByteArray) (w : World) (hs : s.size ≤ 100000) :
  Calls Tryz.prog 256 #[.string s] w fun e w' => e = .returned (.string ⟨(hexL s.data.toList).toArray⟩) ∧ Below w.heap.size w w' := by
 obtain ⟨n2, hn2⟩ : ∃ n2, n2 = 2 * s.size := ⟨_, rfl⟩
 have e0 : IntKind.i64.wrap (2 * (s.size : Int)) = (n2 : Int) := by rw [IntWalk.i64_in _ (by omega)]; omega
 obtain ⟨w1, hm1, hm2, hm3⟩ := make_row n2 w (by omega)
 have HM2 := Lib.hid hm2
 have HM3 := Lib.hid hm3
 clear hm2 hm3 hn2
 go_enter Tryz.func256, Tryz.ntmps256
 go_wp2_with fail
 go_loopg [3, 11] s.size (fun gk s3 s11 wx => ∃ (k pl : Nat) (ra : Option Addr) (cap : Nat), k + gk = s.size ∧ s11 = .int .i64 k ∧ pl = 2 * k ∧ s3 = .slice ra pl cap ∧ Hid (RowU wx w.heap.size ra cap (hexL (s.data.toList.take k))) ∧ Hid (Below w.heap.size w wx))
 case atStart => exact ⟨0, 0, some ⟨w.heap.size, 0, none⟩, n2, by omega, rfl, rfl, rfl, Lib.hid (by simpa [hexL] using HM2.out), HM3⟩
 case round =>
  clear hm1
  obtain ⟨k, pl, ra, cap, hk, rfl, hpl, rfl, HP, HBx⟩ := hrel
  have HL : Hid ((hexL (s.data.toList.take k)).length = pl) := Lib.hid (by rw [hexL_len, List.length_take, ← Lib.size_eq, hpl, Nat.min_eq_left (by omega)])
  by_cases hlt : k < s.size
  ·obtain ⟨g, rfl⟩ : ∃ g, gk = g + 1 := ⟨gk - 1, by omega⟩
   obtain ⟨ch, hch⟩ : ∃ ch : UInt8, s[k]'hlt = ch := ⟨_, rfl⟩
   have hcl : s.data.toList[k]? = some ch := by rw [← hch]; exact Lib.data_getElem? s k hlt
   have hc8 := ch.toNat_lt
   have HN := Lib.hid (hexL_next hcl)
   have q1 : (ch.toNat : Int) / 16 = ((ch.toNat / 16 : Nat) : Int) := by omega
   have q2 := and15b ch
   have q3 : ch.toNat / 16 < 16 := by omega
   have q4 : ch.toNat % 16 < 16 := by omega
   have q5 := hexs_get _ q3
   have q6 := hexs_get _ q4
   generalize ch.toNat / 16 = d1 at *
   generalize ch.toNat % 16 = d2 at *
   generalize hexd d1 = y1 at *
   generalize hexd d2 = y2 at *
   have q7 : (d1 : Int) < 16 := by omega
   have q8 : (d2 : Int) < 16 := by omega
   have hz : w.heap.size ≤ wr.heap.size := HBx.out.size
   have hpls : (hexL (s.data.toList.take k)).length + 2 ≤ 1000000000 := by rw [HL.out]; omega
   have HPL := Lib.hid hpl
   clear hcl hc8 hpl
   go_upto_region 5 with fail
   --R5
   refine wp_region_seq (fun _ => True) [(0, true), (1, true), (2, true), (3, true), (4, true), (5, true), (6, true), (7, true), (8, true), (9, true), (10, true), (11, false), (12, false), (13, true)] (by as_aux_lemma => kernel_rfl) (by as_aux_lemma => kernel_rfl) (by decide) (by as_aux_lemma => kernel_rfl) trivial ?_
   intro OPS HO
   iterate 11
    refine seq_take (o := ⟨_, _, _, _, _, _⟩) (v := ?_) (by rw [HO.out]; rfl) (by rfl) ?_ ?_
    rotate_left 1
    ·first | ((intro W _; go_simp) <;> with_reducible rfl) | (intro W hW; skip; (go_simp <;> with_reducible rfl))
    try simp only [Act.put, List.setIfInBounds_toArray, List.set_cons_zero, List.set_cons_succ]
   refine seq_do (o := ⟨_, _, _, _, _, _⟩) (by rw [HO.out]; rfl) (by rfl) (fun K hK => ?_)
   go_wp2_with fail
   have hS : True := trivial
   refine hK.out _ _ hS (fun _ => ?_)
   clear hK K
   try simp only [Act.put, List.setIfInBounds_toArray, List.set_cons_zero, List.set_cons_succ]
   refine seq_do (o := ⟨_, _, _, _, _, _⟩) (by rw [HO.out]; rfl) (by rfl) (fun K hK => ?_)
   refine wp_appU (w := wr.drew) HP.out [y1, y2] _ rfl 2 rfl (by decide) hpls hz (.tmp 14) (.tmp 25) rfl (by show Value.slice _ _ _ = Value.slice _ _ _; rw [HL.out]) rfl (fun ra2 cap2 w2 hy1 hy2 hy3 => ?_)
   refine hK.out _ _ trivial (fun _ => ?_)
   clear hK K
   try simp only [Act.put, List.setIfInBounds_toArray, List.set_cons_zero, List.set_cons_succ]
   refine seq_take (o := ⟨_, _, _, _, _, _⟩) (v := ?_) (by rw [HO.out]; rfl) (by rfl) ?_ ?_
   rotate_left 1
   ·first | ((intro W _; go_simp) <;> with_reducible rfl) | (intro W hW; skip; (go_simp <;> with_reducible rfl))
   try simp only [Act.put, List.setIfInBounds_toArray, List.set_cons_zero, List.set_cons_succ]
   refine seq_done ?_
   --ENDR5
   go_wp2_with fail
   go_roundg g
   case measure => omega
   case rel =>
    refine ⟨k + 1, pl + 2, ra2, cap2, by omega, rfl, by have := HPL.out; omega, ?_, Lib.hid ?_, Lib.hid (HBx.out.trans (hy2.undrew.below (fun i hi => (HP.out.base i hi).1) hz))⟩
    ·first
      | rfl
      | (congr 1; have := HL.out; omega)
      | (rw [HL.out])
    ·rw [HN.out]
     exact hy1
  ·obtain rfl : k = s.size := by omega
   have hcv : (convert 125 9 (.slice ra pl cap)).run Tryz.prog wr = .ok (.string ⟨(hexL s.data.toList).toArray⟩) wr := by
    have h := convU HP.out
    rw [HL.out, List.take_of_length_le (by rw [← Lib.size_eq]; exact Nat.le_refl _)] at h
    exact h
   clear hk hlt hpl
   go_wp2_with fail
   go_ret
   exact ⟨rfl, HBx.out⟩

/-- A word, as eight digits. -/
def wtext (x : W) : List UInt8 := hexL (four x)
set_option maxHeartbeats 2000000 in
set_option maxRecDepth 100000 in
theorem wordText_any (x : W) (w : World) :
  Calls Tryz.prog 253 #[vw x] w fun e w' => e = .returned (.string ⟨(wtext x).toArray⟩) ∧ Below w.heap.size w w' := by
 obtain ⟨q3, hq3⟩ : ∃ q, q = UInt8.ofNat (x >>> 24).toNat := ⟨_, rfl⟩
 obtain ⟨q2, hq2⟩ : ∃ q, q = UInt8.ofNat (x >>> 16).toNat := ⟨_, rfl⟩
 obtain ⟨q1, hq1⟩ : ∃ q, q = UInt8.ofNat (x >>> 8).toNat := ⟨_, rfl⟩
 obtain ⟨q0, hq0⟩ : ∃ q, q = UInt8.ofNat x.toNat := ⟨_, rfl⟩
 have f3 : IntKind.u8.wrap ((x.toNat : Int) / 16777216) = (q3.toNat : Int) := by rw [hq3]; exact u8_word x 24 (by decide)
 have f2 : IntKind.u8.wrap ((x.toNat : Int) / 65536) = (q2.toNat : Int) := by rw [hq2]; exact u8_word x 16 (by decide)
 have f1 : IntKind.u8.wrap ((x.toNat : Int) / 256) = (q1.toNat : Int) := by rw [hq1]; exact u8_word x 8 (by decide)
 have f0 : IntKind.u8.wrap (x.toNat : Int) = (q0.toNat : Int) := by rw [hq0]; exact u8_word0 x
 have HQ : Hid (four x = [q3, q2, q1, q0]) := Lib.hid (by rw [hq3, hq2, hq1, hq0]; rfl)
 clear hq3 hq2 hq1 hq0
 have hbx := bAlloc (Below.refl w.heap.size w) (.cells #[vb q3, vb q2, vb q1, vb q0] 5)
 have hcv : (convert 125 9 (.slice (some ⟨w.heap.size, 0, none⟩) 4 4)).run Tryz.prog (w.alloc (.cells #[vb q3, vb q2, vb q1, vb q0] 5)) = .ok (.string ⟨#[q3, q2, q1, q0]⟩) (w.alloc (.cells #[vb q3, vb q2, vb q1, vb q0] 5)) := by
  have hR : RowU (w.alloc (.cells #[vb q3, vb q2, vb q1, vb q0] 5)) w.heap.size (some ⟨w.heap.size, 0, none⟩) 4 [q3, q2, q1, q0] :=
   ⟨rfl, .inr ⟨w.heap.size, 4, _, rfl, Nat.le_refl _, heap_alloc_new w _, Nat.le_refl _, by decide, rfl, rfl⟩⟩
  exact convU hR
 have HX := Lib.hid (fun W => hexed_any ⟨#[q3, q2, q1, q0]⟩ W (by show 4 ≤ 100000; decide))
 have HBx := Lib.hid hbx
 clear hbx
 go_enter Tryz.func253, Tryz.ntmps253
 go_wp2_with (go_at_call 256; refine (HX.out _).mono ?_; rintro e w2 ⟨rfl, hb2⟩)
 go_ret
 refine ⟨?_, bTrans HBx.out hb2⟩
 unfold wtext
 rw [HQ.out]
 rfl
end Go.Proofs.YtchfhojighopkaaGreatDoor
namespace Wh.Sha
def crcK : W := 3988292384#32
/-- What a bit does. -/
def crcStep (s : W) : W := if s &&& 1#32 = 1#32 then (s >>> 1) ^^^ crcK else s >>> 1
def crcIt (x : W) : Nat → W
 | 0 => x
 | n + 1 => crcStep (crcIt x n)
/-- What a byte does. -/
def crcB (s : W) (b : UInt8) : W := crcIt (s ^^^ w8 b) 8
/-- What a byte does, by the table. -/
def crcT (s : W) (b : UInt8) : W := (s >>> 8) ^^^ crcB 0#32 (UInt8.ofNat s.toNat ^^^ b)
def crcW (s : W) (l : List UInt8) : W := if l.length < 1024 then l.foldl crcB s else l.foldl crcT s
theorem foldl_next {f : W → UInt8 → W} {s : W} {l : List UInt8} {k : Nat} {c : UInt8} (h : l[k]? = some c) : (l.take (k + 1)).foldl f s = f ((l.take k).foldl f s) c := by
 rw [List.take_add_one, h, List.foldl_append]
 rfl
end Wh.Sha
namespace Go.Proofs.YtchfhojighopkaaGreatDoor
open Go.RowKit Wh.Sha

theorem u8_xor (a b : UInt8) : bits BinOp.xor IntKind.u8 (a.toNat : Int) (b.toNat : Int) = ((a ^^^ b).toNat : Int) := by
 show IntKind.u8.wrap ((BitVec.ofInt 8 (a.toNat : Int) ^^^ BitVec.ofInt 8 (b.toNat : Int)).toNat : Int) = _
 rw [BitVec.ofInt_natCast, BitVec.ofInt_natCast]
 have ha := a.toNat_lt
 have hb := b.toNat_lt
 have h : (BitVec.ofNat 8 a.toNat ^^^ BitVec.ofNat 8 b.toNat).toNat = (a ^^^ b).toNat := by
  rw [BitVec.toNat_xor, BitVec.toNat_ofNat, BitVec.toNat_ofNat, Nat.mod_eq_of_lt ha, Nat.mod_eq_of_lt hb, UInt8.toNat_xor]
 rw [h]
 have h2 := (a ^^^ b).toNat_lt
 generalize (a ^^^ b).toNat = n at h2 ⊢
 unfold IntKind.wrap
 simp [IntKind.bits, IntKind.signed]
 omega
theorem n_r1 (a : W) : (a.toNat : Int) / 2 = ((rW 1 a).toNat : Int) := w_shr a 1
theorem n_and1 (a : W) : bits BinOp.and IntKind.u32 (a.toNat : Int) 1 = ((aW a 1#32).toNat : Int) := w_and a 1#32
theorem n_xorK (a : W) : bits BinOp.xor IntKind.u32 (a.toNat : Int) 3988292384 = ((xW a crcK).toNat : Int) := w_xor a crcK

set_option maxHeartbeats 2000000 in
set_option maxRecDepth 100000 in
theorem crcByte_any (x : W) (b : UInt8) (w : World) :
  Calls Tryz.prog 254 #[vw x, vb b] w fun e w' => e = .returned (vw (crcB x b)) ∧ w' = w := by
 obtain ⟨bw, hbw⟩ : ∃ bw, bw = w8 b := ⟨_, rfl⟩
 have e0 : IntKind.u32.wrap (b.toNat : Int) = (bw.toNat : Int) := by rw [hbw]; exact w_cv b
 have e1 := n_xor x bw
 obtain ⟨y, hy⟩ : ∃ y, y = xW x bw := ⟨_, rfl⟩
 rw [← hy] at e1
 have HY : Hid (crcB x b = crcIt y 8) := Lib.hid (by rw [hy, hbw]; rfl)
 clear hy hbw
 go_enter Tryz.func254, Tryz.ntmps254
 go_wp2_with fail
 go_loopg [0, 10] 8 (fun gk s0 s10 wx => ∃ (k : Nat) (z : W), k + gk = 8 ∧ s10 = .int .i64 k ∧ s0 = vw z ∧ Hid (z = crcIt y k) ∧ wx = w)
 case atStart => exact ⟨0, y, by omega, rfl, rfl, Lib.hid rfl, rfl⟩
 case round =>
  obtain ⟨k, z, hk, rfl, rfl, HZ, rfl⟩ := hrel
  clear e0 e1
  by_cases hlt : k < 8
  ·obtain ⟨g, rfl⟩ : ∃ g, gk = g + 1 := ⟨gk - 1, by omega⟩
   have f1 := n_and1 z
   have f2 := n_r1 z
   by_cases h1 : z &&& 1#32 = 1#32
   ·obtain ⟨z1, hz1⟩ : ∃ z1, z1 = rW 1 z := ⟨_, rfl⟩
    rw [← hz1] at f2
    have f3 := n_xorK z1
    obtain ⟨z2, hz2⟩ : ∃ z2, z2 = xW z1 crcK := ⟨_, rfl⟩
    rw [← hz2] at f3
    have h2 : ((aW z 1#32).toNat : Int) = 1 := by
     show (((z &&& 1#32) : W).toNat : Int) = 1
     rw [h1]; rfl
    rw [h2] at f1
    have HN : Hid (z2 = crcIt y (k + 1)) := Lib.hid (by rw [hz2, hz1]; show _ = crcStep (crcIt y k); rw [← HZ.out, crcStep, if_pos h1]; rfl)
    clear h1 h2 hz1 hz2
    go_wp2_with fail
    go_roundg g
    case measure => omega
    case rel => exact ⟨k + 1, z2, by omega, by go_num, rfl, HN, rfl⟩
   ·obtain ⟨z1, hz1⟩ : ∃ z1, z1 = rW 1 z := ⟨_, rfl⟩
    rw [← hz1] at f2
    obtain ⟨q, hq⟩ : ∃ q : Nat, q = (aW z 1#32).toNat := ⟨_, rfl⟩
    have h2 : ((q : Int) == 1) = false := by
     rw [hq]
     refine beq_eq_false_iff_ne.2 (fun e => h1 (BitVec.eq_of_toNat_eq ?_))
     have : (aW z 1#32).toNat = 1 := by omega
     exact this
    rw [← hq] at f1
    have HN : Hid (z1 = crcIt y (k + 1)) := Lib.hid (by rw [hz1]; show _ = crcStep (crcIt y k); rw [← HZ.out, crcStep, if_neg h1]; rfl)
    clear h1 hz1 hq
    go_wp2_with fail
    go_roundg g
    case measure => omega
    case rel => exact ⟨k + 1, z1, by omega, by go_num, rfl, HN, rfl⟩
  ·obtain rfl : k = 8 := by omega
   go_wp2_with fail
   go_ret
   exact ⟨by rw [HY.out, HZ.out]; rfl, rfl⟩

set_option maxHeartbeats 2000000 in
set_option maxRecDepth 100000 in
theorem crcTable_any (w : World) :
  Calls Tryz.prog 255 #[] w fun e w' => ∃ b l, e = .returned (.pointer (some ⟨b, 0, none⟩)) ∧ w.heap.size ≤ b ∧ WordsAt w' b l 320 ∧ l.length = 256 ∧ (∀ j, j < 256 → l.getD j 0 = crcB 0#32 (UInt8.ofNat j)) ∧ Below w.heap.size w w' := by
 have hz := fun wz => (zero_of_info (P := Tryz.prog) (t := 320) (v := .agg ((List.replicate 256 (0 : W)).map vw).toArray) (n := 256) (by kernel_rfl)).1 wz
 go_enter Tryz.func255, Tryz.ntmps255
 go_upto_region 1 with fail
 apply wp_region_lit
 refine wpList_alloc rfl _ _ rfl (hz w) ?_
 clear hz
 refine wpList_nil ?_
 have HW1 : Hid (WordsAt (w.alloc (.cells ((List.replicate 256 (0 : W)).map vw).toArray 320)) w.heap.size (List.replicate 256 (0 : W)) 320) := Lib.hid (by
  unfold WordsAt BoxIs
  exact heap_alloc_new _ _)
 have HK1 : Hid (Below w.heap.size w (w.alloc (.cells ((List.replicate 256 (0 : W)).map vw).toArray 320))) := Lib.hid (bAlloc (Below.refl _ _) _)
 obtain ⟨g, hg⟩ : ∃ g, g = w.heap.size := ⟨_, rfl⟩
 rw [← hg] at HW1 ⊢
 obtain ⟨w1, hw1⟩ : ∃ w1, w.alloc (.cells ((List.replicate 256 (0 : W)).map vw).toArray 320) = w1 := ⟨_, rfl⟩
 rw [hw1] at HW1 HK1 ⊢
 clear hw1
 simp only [Act.put, List.setIfInBounds_toArray, List.set_cons_zero, List.set_cons_succ]
 have HG := Lib.hid hg
 clear hg
 go_upto_region 3 with fail
 go_loopg [3] 256 (fun gk s3 wx => ∃ (k : Nat) (l : List W), k + gk = 256 ∧ s3 = .int .i64 k ∧ Hid (WordsAt wx g l 320) ∧ Hid (l.length = 256) ∧ Hid (∀ j, j < k → l.getD j 0 = crcB 0#32 (UInt8.ofNat j)) ∧ Hid (Below w.heap.size w wx))
 case atStart => exact ⟨0, _, by omega, rfl, HW1, Lib.hid (by simp), Lib.hid (fun j hj => absurd hj (Nat.not_lt_zero j)), HK1⟩
 case round =>
  clear HW1 HK1
  obtain ⟨k, l, hk, rfl, HW, HL, HA, HBx⟩ := hrel
  by_cases hlt : k < 256
  ·obtain ⟨gg, rfl⟩ : ∃ gg, gk = gg + 1 := ⟨gk - 1, by omega⟩
   obtain ⟨c, hc⟩ : ∃ c, c = UInt8.ofNat k := ⟨_, rfl⟩
   have e1 : IntKind.u8.wrap (k : Int) = (c.toNat : Int) := by
    rw [hc, UInt8.toNat_ofNat', Nat.mod_eq_of_lt (by omega)]
    unfold IntKind.wrap
    simp [IntKind.bits, IntKind.signed]
    omega
   have HC := fun W => crcByte_any 0#32 c W
   obtain ⟨y, hy⟩ : ∃ y, y = crcB 0#32 c := ⟨_, rfl⟩
   rw [← hy] at HC
   have HY : Hid (y = crcB 0#32 (UInt8.ofNat k)) := Lib.hid (by rw [hy, hc])
   have HC2 := Lib.hid HC
   clear HC hy hc
   have c0 := HW.out.cell (i := k) (by rw [HL.out]; exact hlt)
   have f0 := Lib.frozen_of_heap HW.out k
   have hk2 : (k : Int) < 256 := by omega
   have hz0 : (vw 0#32) = Value.int .u32 0 := rfl
   rw [hz0] at HC2
   clear hz0
   go_wp2_with (go_at_call 254; refine (HC2.out _).mono ?_; rintro e w' ⟨rfl, rfl⟩)
   go_roundg gg
   case measure => omega
   case rel =>
    refine ⟨k + 1, l.set k y, by omega, by go_num, Lib.hid (HW.out.set k y), Lib.hid (by rw [List.length_set]; exact HL.out), Lib.hid (fun j hj => ?_), Lib.hid ?_⟩
    ·rw [List.getD_eq_getElem?_getD, List.getElem?_set]
     by_cases h9 : k = j
     ·subst h9
      rw [if_pos rfl, if_pos (by rw [HL.out]; exact hlt)]
      exact HY.out
     ·rw [if_neg h9, ← List.getD_eq_getElem?_getD]
      exact HA.out j (by omega)
    ·exact HBx.out.trans (((Kp.refl (fun i => i = g) w').set (b := g) (.inl rfl) k _).below (fun i hi => by rw [hi, HG.out]; exact Nat.le_refl _) HBx.out.size)
  ·obtain rfl : k = 256 := by omega
   go_wp2_with fail
   go_ret
   exact ⟨g, l, rfl, by rw [HG.out]; exact Nat.le_refl _, HW.out, HL.out, HA.out, HBx.out⟩

set_option maxHeartbeats 2000000 in
set_option maxRecDepth 100000 in
theorem crcWrite_any (b : Nat) (x : W) (s : ByteArray) (w : World) (hC : BoxIs w b #[vw x] 207) (hs : s.size ≤ 100000000) :
  Calls Tryz.prog 252 #[.pointer (some ⟨b, 0, none⟩), .string s] w fun e w' => e = .returned (.tuple #[]) ∧ BoxIs w' b #[vw (crcW x s.data.toList)] 207 ∧ Kp (fun i => i = b) w w' := by
 have HC0 := Lib.hid hC
 have hsl : s.data.toList.length = s.size := (Lib.size_eq s).symm
 have HSL := Lib.hid hsl
 clear hC hsl
 by_cases hbig : s.size < 1024
 ·have hbig2 : (s.size : Int) < 1024 := by omega
  have HF : Hid (crcW x s.data.toList = s.data.toList.foldl crcB x) := Lib.hid (by rw [crcW, if_pos (by rw [HSL.out]; exact hbig)])
  go_enter Tryz.func252, Tryz.ntmps252
  go_wp2_with fail
  go_loopg [12] s.size (fun gk s12 wx => ∃ (k : Nat) (z : W), k + gk = s.size ∧ s12 = .int .i64 k ∧ Hid (z = (s.data.toList.take k).foldl crcB x) ∧ Hid (BoxIs wx b #[vw z] 207) ∧ Hid (Kp (fun i => i = b) w wx))
  case atStart => exact ⟨0, x, by omega, rfl, Lib.hid rfl, HC0, Lib.hid (Kp.refl _ _)⟩
  case round =>
   obtain ⟨k, z, hk, rfl, HZ, HX, HK⟩ := hrel
   by_cases hlt : k < s.size
   ·obtain ⟨g, rfl⟩ : ∃ g, gk = g + 1 := ⟨gk - 1, by omega⟩
    obtain ⟨ch, hch⟩ : ∃ ch : UInt8, s[k]'hlt = ch := ⟨_, rfl⟩
    have hcl : s.data.toList[k]? = some ch := by rw [← hch]; exact Lib.data_getElem? s k hlt
    have HN := Lib.hid (foldl_next (f := crcB) (s := x) hcl)
    clear hcl
    have c0 : wr.drew.cell? ⟨b, 0, none⟩ = some (vw z) := HX.out.cell (j := 0) rfl
    have f0 : wr.drew.frozen? ⟨b, 0, none⟩ = false := Lib.frozen_of_heap HX.out 0
    have hk2 : (k : Int) < (s.size : Int) := by omega
    go_upto_region 4 with fail
    --R4
    refine wp_region_seq3 (fun W => W = wr.drew) 11 [(0, true), (1, true), (2, true), (3, true), (4, true), (5, true), (6, true), (7, true), (8, false), (9, true), (10, true), (11, false)] (by as_aux_lemma => kernel_rfl) (by as_aux_lemma => kernel_rfl) (by as_aux_lemma => kernel_rfl) (by decide) (by as_aux_lemma => kernel_rfl) (by decide) rfl ?_
    intro OPS HO
    iterate 8
     refine seqT_take (o := ⟨_, _, _, _, _, _⟩) (v := ?_) (by rw [HO.out]; rfl) (by rfl) ?_ ?_
     rotate_left 1
     ·first | ((intro W _; go_simp) <;> with_reducible rfl) | (intro W hW; subst hW; (go_simp <;> with_reducible rfl))
     try simp only [Act.put, List.setIfInBounds_toArray, List.set_cons_zero, List.set_cons_succ]
    refine seqT_do (o := ⟨_, _, _, _, _, _⟩) (by rw [HO.out]; rfl) (by rfl) (fun K hK => ?_)
    go_wp2_with (go_at_call 254; refine (crcByte_any z ch _).mono ?_; rintro e w' ⟨rfl, rfl⟩)
    refine hK.out _ _ (fun _ => rfl) ?_
    clear hK K
    iterate 2
     try simp only [Act.put, List.setIfInBounds_toArray, List.set_cons_zero, List.set_cons_succ]
     refine seqT_take (o := ⟨_, _, _, _, _, _⟩) (v := ?_) (by rw [HO.out]; rfl) (by rfl) ?_ ?_
     rotate_left 1
     ·first | ((intro W _; go_simp) <;> with_reducible rfl) | (intro W hW; subst hW; (go_simp <;> with_reducible rfl))
    try simp only [Act.put, List.setIfInBounds_toArray, List.set_cons_zero, List.set_cons_succ]
    refine seqT_do (o := ⟨_, _, _, _, _, _⟩) (by rw [HO.out]; rfl) (by rfl) (fun K hK => ?_)
    go_wp2_with fail
    refine hK.out _ _ (fun h => absurd rfl h) ?_
    clear hK K
    try simp only [Act.put, List.setIfInBounds_toArray, List.set_cons_zero, List.set_cons_succ]
    refine seqT_done ?_
    --ENDR4
    go_wp2_with fail
    go_roundg g
    case measure => omega
    case rel =>
     refine ⟨k + 1, crcB z ch, by omega, by go_num, Lib.hid (by rw [HN.out, ← HZ.out]), Lib.hid ?_, Lib.hid ?_⟩
     ·exact (HX.out : BoxIs wr.drew b #[vw z] _).putAt 0 (vw (crcB z ch))
     ·exact (HK.out.drew 1).set (.inl rfl) 0 _
   ·obtain rfl : k = s.size := by omega
    go_wp2_with fail
    (try simp only [Exit.inBlock, Exit.then])
    refine bodyPost_ret (results_none rfl _ _ _) rfl ?_
    refine ⟨rfl, ?_, HK.out⟩
    rw [HF.out]
    have h := HZ.out
    rw [List.take_of_length_le (by rw [HSL.out]; exact Nat.le_refl _)] at h
    rw [← h]
    exact HX.out
 ·have hbig2 : ¬ (s.size : Int) < 1024 := by omega
  have HF : Hid (crcW x s.data.toList = s.data.toList.foldl crcT x) := Lib.hid (by rw [crcW, if_neg (by rw [HSL.out]; exact hbig)])
  go_enter Tryz.func252, Tryz.ntmps252
  go_wp2_with (go_at_call 255; refine (crcTable_any _).mono ?_; rintro e w1 ⟨tb, l, rfl, ht1, ht2, ht3, ht4, ht5⟩)
  have htb : tb ≠ b := by have := HC0.out.lt; omega
  have HX1 : Hid (BoxIs w1 b #[vw x] 207) := Lib.hid (HC0.out.under ht5)
  have HK1 : Hid (Kp (fun i => i = b) w w1) := Lib.hid (Kp.of ht5)
  have HT := Lib.hid ht2
  have HL := Lib.hid ht3
  have HA := Lib.hid ht4
  clear ht1 ht2 ht3 ht4 ht5
  go_loopg [30] s.size (fun gk s30 wx => ∃ (k : Nat) (z : W), k + gk = s.size ∧ s30 = .int .i64 k ∧ Hid (z = (s.data.toList.take k).foldl crcT x) ∧ Hid (BoxIs wx b #[vw z] 207) ∧ Hid (Kp (fun i => i = b) w wx) ∧ Hid (WordsAt wx tb l 320))
  case atStart => exact ⟨0, x, by omega, rfl, Lib.hid rfl, HX1, HK1, HT⟩
  case round =>
   clear HX1 HK1 HT
   obtain ⟨k, z, hk, rfl, HZ, HX, HK, HT⟩ := hrel
   by_cases hlt : k < s.size
   ·obtain ⟨g, rfl⟩ : ∃ g, gk = g + 1 := ⟨gk - 1, by omega⟩
    obtain ⟨ch, hch⟩ : ∃ ch : UInt8, s[k]'hlt = ch := ⟨_, rfl⟩
    have hcl : s.data.toList[k]? = some ch := by rw [← hch]; exact Lib.data_getElem? s k hlt
    have HN := Lib.hid (foldl_next (f := crcT) (s := x) hcl)
    clear hcl
    obtain ⟨lo, hlo⟩ : ∃ lo, lo = UInt8.ofNat z.toNat := ⟨_, rfl⟩
    obtain ⟨ix, hix⟩ : ∃ ix, ix = lo ^^^ ch := ⟨_, rfl⟩
    have e1 : IntKind.u8.wrap (z.toNat : Int) = (lo.toNat : Int) := by rw [hlo]; exact u8_word0 z
    have e2 : bits BinOp.xor IntKind.u8 (lo.toNat : Int) (ch.toNat : Int) = (ix.toNat : Int) := by rw [hix]; exact u8_xor lo ch
    have e3 := n_r8 z
    obtain ⟨z1, hz1⟩ : ∃ z1, z1 = rW 8 z := ⟨_, rfl⟩
    rw [← hz1] at e3
    obtain ⟨y, hy⟩ : ∃ y, y = l.getD ix.toNat 0 := ⟨_, rfl⟩
    have e4 := n_xor z1 y
    obtain ⟨z2, hz2⟩ : ∃ z2, z2 = xW z1 y := ⟨_, rfl⟩
    rw [← hz2] at e4
    have hi8 := ix.toNat_lt
    have hi9 : (ix.toNat : Int) < 256 := by omega
    have HZ2 : Hid (z2 = crcT z ch) := Lib.hid (by
     rw [hz2, hz1, hy, HA.out ix.toNat (by omega), UInt8.ofNat_toNat, hix, hlo]
     rfl)
    have c0 : wr.drew.cell? ⟨b, 0, none⟩ = some (vw z) := HX.out.cell (j := 0) rfl
    have f0 : wr.drew.frozen? ⟨b, 0, none⟩ = false := Lib.frozen_of_heap HX.out 0
    have c1 : wr.drew.cell? ⟨tb, ix.toNat, none⟩ = some (vw y) := by rw [hy]; exact HT.out.cell (by rw [HL.out]; omega)
    have hk2 : (k : Int) < (s.size : Int) := by omega
    clear hlo hix hz1 hy hz2
    go_upto_region 10 with fail
    --R10
    refine wp_region_seq3 (fun W => W = wr.drew) 22 [(0, true), (1, true), (2, true), (3, true), (4, true), (5, true), (6, true), (7, true), (8, true), (9, true), (10, true), (11, true), (12, true), (13, true), (14, true), (15, true), (16, true), (17, true), (18, true), (19, true), (20, true), (21, true), (22, false)] (by as_aux_lemma => kernel_rfl) (by as_aux_lemma => kernel_rfl) (by as_aux_lemma => kernel_rfl) (by decide) (by as_aux_lemma => kernel_rfl) (by decide) rfl ?_
    intro OPS HO
    iterate 22
     refine seqT_take (o := ⟨_, _, _, _, _, _⟩) (v := ?_) (by rw [HO.out]; rfl) (by rfl) ?_ ?_
     rotate_left 1
     ·first | ((intro W _; go_simp) <;> with_reducible rfl) | (intro W hW; subst hW; (go_simp <;> with_reducible rfl))
     try simp only [Act.put, List.setIfInBounds_toArray, List.set_cons_zero, List.set_cons_succ]
    refine seqT_do (o := ⟨_, _, _, _, _, _⟩) (by rw [HO.out]; rfl) (by rfl) (fun K hK => ?_)
    go_wp2_with fail
    refine hK.out _ _ (fun h => absurd rfl h) ?_
    clear hK K
    try simp only [Act.put, List.setIfInBounds_toArray, List.set_cons_zero, List.set_cons_succ]
    refine seqT_done ?_
    --ENDR10
    go_wp2_with fail
    go_roundg g
    case measure => omega
    case rel =>
     refine ⟨k + 1, z2, by omega, by go_num, Lib.hid (by rw [HN.out, ← HZ.out, HZ2.out]), Lib.hid ?_, Lib.hid ?_, Lib.hid ?_⟩
     ·exact (HX.out : BoxIs wr.drew b #[vw z] _).putAt 0 (vw z2)
     ·exact (HK.out.drew 1).set (.inl rfl) 0 _
     ·have h9 : WordsAt (wr.setCell ⟨b, 0, none⟩ (vw z2)) tb l 320 := HT.out.kp (F := fun i => i = b) ((Kp.refl (fun i => i = b) wr).set (b := b) (.inl rfl) 0 (vw z2)) htb
      exact h9
   ·obtain rfl : k = s.size := by omega
    go_wp2_with fail
    go_end0
    refine ⟨rfl, ?_, HK.out⟩
    rw [HF.out]
    have h := HZ.out
    rw [List.take_of_length_le (by rw [HSL.out]; exact Nat.le_refl _)] at h
    rw [← h]
    exact HX.out

set_option maxHeartbeats 2000000 in
set_option maxRecDepth 100000 in
theorem crcSum_any (b : Nat) (x : W) (w : World) (hC : BoxIs w b #[vw x] 207) :
  Calls Tryz.prog 251 #[.pointer (some ⟨b, 0, none⟩)] w fun e w' => e = .returned (.string ⟨(wtext (~~~x)).toArray⟩) ∧ Below w.heap.size w w' := by
 have c0 : w.cell? ⟨b, 0, none⟩ = some (vw x) := hC.cell (j := 0) rfl
 obtain ⟨y, hy⟩ : ∃ y, y = nW x := ⟨_, rfl⟩
 have HX := Lib.hid (fun W => wordText_any y W)
 have HYe := Lib.hid hy
 have HY : Hid (y = ~~~x) := Lib.hid hy
 clear hC hy
 go_enter Tryz.func251, Tryz.ntmps251
 go_upto_region 1 with fail
 --R1
 apply wp_region_lit
 iterate 5
  refine wpList_val rfl (v := ?_) ?_ ?_
  rotate_left 1
  ·first | (go_simp <;> with_reducible rfl)
  try simp only [Act.put, List.setIfInBounds_toArray, List.set_cons_zero, List.set_cons_succ]
  try simp only [n_noti, ← HYe.out]
 refine wpList_do rfl (fun K hK => ?_)
 go_wp2_with (go_at_call 253; refine (HX.out _).mono ?_; rintro e w2 ⟨rfl, hb2⟩)
 refine hK.out _ _ ?_
 clear hK K
 try simp only [Act.put, List.setIfInBounds_toArray, List.set_cons_zero, List.set_cons_succ]
 refine wpList_val rfl (v := ?_) ?_ ?_
 rotate_left 1
 ·first | (go_simp <;> with_reducible rfl)
 try simp only [Act.put, List.setIfInBounds_toArray, List.set_cons_zero, List.set_cons_succ]
 try simp only [n_noti, ← HYe.out]
 refine wpList_nil ?_
 --ENDR1
 go_wp2_with fail
 go_ret
 exact ⟨by rw [HY.out]; rfl, hb2⟩
end Go.Proofs.YtchfhojighopkaaGreatDoor
