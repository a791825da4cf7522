/-
  Package sums: hexed, wordText, crcByte.
-/
import Derived.Test.YtmafnjapailliaaGreatDoorSw12
import Derived.Test.YtmafnjapailliaaGreatDoorBoxG
namespace Wh.Sha
def hexd (n : Nat) : UInt8 := if n < 10 then UInt8.ofNat (48 + n) else UInt8.ofNat (87 + n)
/-- Bytes, as digits. -/
def hexL (l : List UInt8) : List UInt8 := l.flatMap fun b => [hexd (b.toNat / 16), hexd (b.toNat % 16)]
theorem hexL_append (a b : List UInt8) : hexL (a ++ b) = hexL a ++ hexL b := by simp [hexL]
theorem hexL_len : ∀ l : List UInt8, (hexL l).length = 2 * l.length
  | [] => rfl
  | b :: l => by
    have h : hexL (b :: l) = [hexd (b.toNat / 16), hexd (b.toNat % 16)] ++ hexL l := rfl
    rw [h, List.length_append, hexL_len l]
    simp
    omega
theorem hexL_next {l : List UInt8} {k : Nat} {c : UInt8} (h : l[k]? = some c) : hexL (l.take (k + 1)) = hexL (l.take k) ++ [hexd (c.toNat / 16), hexd (c.toNat % 16)] := by
  rw [List.take_add_one, h, hexL_append]
  rfl
end Wh.Sha
namespace Go.Proofs.YtmafnjapailliaaGreatDoor
open Go.RowKit Wh.Sha

theorem and15b (c : UInt8) : bits BinOp.and IntKind.u8 (c.toNat : Int) 15 = ((c.toNat % 16 : Nat) : Int) := by
  have h : ∀ n : Fin 256, bits BinOp.and IntKind.u8 (n.1 : Int) 15 = ((n.1 % 16 : Nat) : Int) := by decide +kernel
  exact h ⟨c.toNat, c.toNat_lt⟩
theorem hexs_get (n : Nat) (h : n < 16) : (⟨#[48, 49, 50, 51, 52, 53, 54, 55, 56, 57, 97, 98, 99, 100, 101, 102]⟩ : ByteArray)[n]'h = hexd n := by
  have : ∀ n : Fin 16, (⟨#[48, 49, 50, 51, 52, 53, 54, 55, 56, 57, 97, 98, 99, 100, 101, 102]⟩ : ByteArray)[n.1]'n.2 = hexd n.1 := by decide +kernel
  exact this ⟨n, h⟩

/-- As wpList_appU, in a region that draws its order. -/
theorem wp_appU {K : Act → World → Prop} {o : Oper} {act : Act} {Q : Exit → Act → World → Prop} {te : TypeId} {w : World} {B cap : Nat} {ra : Option Addr} {xs : List UInt8}
    (hR : RowU w B ra cap xs) (news : List UInt8) (vals : List Value) (hv : vals = news.map vb) (m : Nat) (hm : news.length = m) (hm0 : 0 < m) (hs : xs.length + m ≤ 1000000000) (hB : B ≤ w.heap.size) (s x : Operand)
    (ho : o.op = .call { callee := .builtin .append, args := #[s, x], argTypes := #[97, 97] }) (hsl : act.eval s = .slice ra xs.length cap) (hx : act.eval x = .slice (some ⟨w.heap.size, 0, none⟩) m m)
    (h : ∀ ra' cap' w', RowU w' B ra' cap' (xs ++ news) → Kp (rb ra) w w' → (∀ i, rb ra' i → rb ra i ∨ w.heap.size ≤ i) → K (act.put o.dst (.slice ra' (xs.length + m) cap')) w') :
    Oper.wp Tryz.prog o act (w.alloc (.cells vals.toArray te)) K Q := by
  subst hv hm
  obtain ⟨i, ht, hi, hz0, hz1, hz2, hz3⟩ := elem_byte
  have hba : B ≤ (w.alloc (.cells (news.map vb).toArray te)).heap.size := by simp; omega
  have hal : Below w.heap.size w (w.alloc (.cells (news.map vb).toArray te)) := bAlloc (Below.refl _ _) _
  have how : RowU (w.alloc (.cells (news.map vb).toArray te)) B ra cap xs := hR.kp (Kp.of (F := fun _ => False) hal) (fun _ _ e => e)
  refine wp_append_lies _ s x 97 ho B 5 i (.int .u8 0) 1 1 ht hi hz0 hz1 hz2 hz3 (by decide) _ xs.length (xs.map vb) hsl how ⟨w.heap.size, 0, none⟩ news.length news.length (news.map vb) hx (by simp) (World.news_of_block (heap_alloc_new w _)) (one_bytes news) hm0 (by unfold maxLen; omega) (by omega) hba _ rfl ?_
  intro g cap' w' hown hgrow hat hlt
  refine h (some ⟨g, 0, none⟩) cap' w' ?_ ?_ ?_
  · unfold RowU
    rw [List.map_append, List.length_append]
    exact hown
  · refine (Kp.of (F := rb ra) hal).trans ⟨hgrow.os, hgrow.tape, hgrow.output, hgrow.size, fun k hk hF => hgrow.block k hk (fun e => hF ?_)⟩
    cases ra with
    | none => cases e
    | some a =>
      have h9 : (some k : Option Nat) = some a.block := e
      injection h9 with h9
      exact ⟨a, rfl, h9⟩
  · rintro j ⟨a, ha, rfl⟩
    injection ha with ha
    subst ha
    rcases hat with hat | hat
    · left
      cases ra with
      | none => cases hat
      | some a =>
        have h9 : (some a.block : Option Nat) = some g := hat
        injection h9 with h9
        exact ⟨a, rfl, h9.symm⟩
    · right
      have : (w.alloc (.cells (news.map vb).toArray te)).heap.size = w.heap.size + 1 := by simp
      show w.heap.size ≤ g
      omega

set_option maxHeartbeats 2000000 in
set_option maxRecDepth 100000 in
theorem hexed_any (s : ByteArray) (w : World) (hs : s.size ≤ 100000) :
    Calls Tryz.prog 350 #[.string s] w fun e w' => e = .returned (.string ⟨(hexL s.data.toList).toArray⟩) ∧ Below w.heap.size w w' := by
  obtain ⟨n2, hn2⟩ : ∃ n2, n2 = 2 * s.size := ⟨_, rfl⟩
  have e0 : IntKind.i64.wrap (2 * (s.size : Int)) = (n2 : Int) := by rw [IntWalk.i64_in _ (by omega)]; omega
  obtain ⟨w1, hm1, hm2, hm3⟩ := make_row n2 w (by omega)
  have HM2 := Lib.hid hm2
  have HM3 := Lib.hid hm3
  clear hm2 hm3 hn2
  go_enter Tryz.func350, Tryz.ntmps350
  go_wp2_with fail
  go_loopg [3, 11] s.size (fun gk s3 s11 wx => ∃ (k pl : Nat) (ra : Option Addr) (cap : Nat), k + gk = s.size ∧ s11 = .int .i64 k ∧ pl = 2 * k ∧ s3 = .slice ra pl cap ∧ Hid (RowU wx w.heap.size ra cap (hexL (s.data.toList.take k))) ∧ Hid (Below w.heap.size w wx))
  case atStart => exact ⟨0, 0, some ⟨w.heap.size, 0, none⟩, n2, by omega, rfl, rfl, rfl, Lib.hid (by simpa [hexL] using HM2.out), HM3⟩
  case round =>
    clear hm1
    obtain ⟨k, pl, ra, cap, hk, rfl, hpl, rfl, HP, HBx⟩ := hrel
    have HL : Hid ((hexL (s.data.toList.take k)).length = pl) := Lib.hid (by rw [hexL_len, List.length_take, ← Lib.size_eq, hpl, Nat.min_eq_left (by omega)])
    by_cases hlt : k < s.size
    · obtain ⟨g, rfl⟩ : ∃ g, gk = g + 1 := ⟨gk - 1, by omega⟩
      obtain ⟨ch, hch⟩ : ∃ ch : UInt8, s[k]'hlt = ch := ⟨_, rfl⟩
      have hcl : s.data.toList[k]? = some ch := by rw [← hch]; exact Lib.data_getElem? s k hlt
      have hc8 := ch.toNat_lt
      have HN := Lib.hid (hexL_next hcl)
      have q1 : (ch.toNat : Int) / 16 = ((ch.toNat / 16 : Nat) : Int) := by omega
      have q2 := and15b ch
      have q3 : ch.toNat / 16 < 16 := by omega
      have q4 : ch.toNat % 16 < 16 := by omega
      have q5 := hexs_get _ q3
      have q6 := hexs_get _ q4
      generalize ch.toNat / 16 = d1 at *
      generalize ch.toNat % 16 = d2 at *
      generalize hexd d1 = y1 at *
      generalize hexd d2 = y2 at *
      have q7 : (d1 : Int) < 16 := by omega
      have q8 : (d2 : Int) < 16 := by omega
      have hz : w.heap.size ≤ wr.heap.size := HBx.out.size
      have hpls : (hexL (s.data.toList.take k)).length + 2 ≤ 1000000000 := by rw [HL.out]; omega
      have HPL := Lib.hid hpl
      clear hcl hc8 hpl
      go_upto_region 5 with fail
      --R5
      refine wp_region_seq (fun _ => True) [(0, true), (1, true), (2, true), (3, true), (4, true), (5, true), (6, true), (7, true), (8, true), (9, true), (10, true), (11, false), (12, false), (13, true)] (by as_aux_lemma => kernel_rfl) (by as_aux_lemma => kernel_rfl) (by decide) (by as_aux_lemma => kernel_rfl) trivial ?_
      intro OPS HO
      refine seq_take (o := ⟨_, _, _, _, _, _⟩) (v := ?_) (by rw [HO.out]; rfl) (by rfl) ?_ ?_
      rotate_left 1
      · first | ((intro W _; go_simp) <;> with_reducible rfl) | (intro W hW; skip; (go_simp <;> with_reducible rfl))
      try simp only [Act.put, List.setIfInBounds_toArray, List.set_cons_zero, List.set_cons_succ]
      refine seq_take (o := ⟨_, _, _, _, _, _⟩) (v := ?_) (by rw [HO.out]; rfl) (by rfl) ?_ ?_
      rotate_left 1
      · first | ((intro W _; go_simp) <;> with_reducible rfl) | (intro W hW; skip; (go_simp <;> with_reducible rfl))
      try simp only [Act.put, List.setIfInBounds_toArray, List.set_cons_zero, List.set_cons_succ]
      refine seq_take (o := ⟨_, _, _, _, _, _⟩) (v := ?_) (by rw [HO.out]; rfl) (by rfl) ?_ ?_
      rotate_left 1
      · first | ((intro W _; go_simp) <;> with_reducible rfl) | (intro W hW; skip; (go_simp <;> with_reducible rfl))
      try simp only [Act.put, List.setIfInBounds_toArray, List.set_cons_zero, List.set_cons_succ]
      refine seq_take (o := ⟨_, _, _, _, _, _⟩) (v := ?_) (by rw [HO.out]; rfl) (by rfl) ?_ ?_
      rotate_left 1
      · first | ((intro W _; go_simp) <;> with_reducible rfl) | (intro W hW; skip; (go_simp <;> with_reducible rfl))
      try simp only [Act.put, List.setIfInBounds_toArray, List.set_cons_zero, List.set_cons_succ]
      refine seq_take (o := ⟨_, _, _, _, _, _⟩) (v := ?_) (by rw [HO.out]; rfl) (by rfl) ?_ ?_
      rotate_left 1
      · first | ((intro W _; go_simp) <;> with_reducible rfl) | (intro W hW; skip; (go_simp <;> with_reducible rfl))
      try simp only [Act.put, List.setIfInBounds_toArray, List.set_cons_zero, List.set_cons_succ]
      refine seq_take (o := ⟨_, _, _, _, _, _⟩) (v := ?_) (by rw [HO.out]; rfl) (by rfl) ?_ ?_
      rotate_left 1
      · first | ((intro W _; go_simp) <;> with_reducible rfl) | (intro W hW; skip; (go_simp <;> with_reducible rfl))
      try simp only [Act.put, List.setIfInBounds_toArray, List.set_cons_zero, List.set_cons_succ]
      refine seq_take (o := ⟨_, _, _, _, _, _⟩) (v := ?_) (by rw [HO.out]; rfl) (by rfl) ?_ ?_
      rotate_left 1
      · first | ((intro W _; go_simp) <;> with_reducible rfl) | (intro W hW; skip; (go_simp <;> with_reducible rfl))
      try simp only [Act.put, List.setIfInBounds_toArray, List.set_cons_zero, List.set_cons_succ]
      refine seq_take (o := ⟨_, _, _, _, _, _⟩) (v := ?_) (by rw [HO.out]; rfl) (by rfl) ?_ ?_
      rotate_left 1
      · first | ((intro W _; go_simp) <;> with_reducible rfl) | (intro W hW; skip; (go_simp <;> with_reducible rfl))
      try simp only [Act.put, List.setIfInBounds_toArray, List.set_cons_zero, List.set_cons_succ]
      refine seq_take (o := ⟨_, _, _, _, _, _⟩) (v := ?_) (by rw [HO.out]; rfl) (by rfl) ?_ ?_
      rotate_left 1
      · first | ((intro W _; go_simp) <;> with_reducible rfl) | (intro W hW; skip; (go_simp <;> with_reducible rfl))
      try simp only [Act.put, List.setIfInBounds_toArray, List.set_cons_zero, List.set_cons_succ]
      refine seq_take (o := ⟨_, _, _, _, _, _⟩) (v := ?_) (by rw [HO.out]; rfl) (by rfl) ?_ ?_
      rotate_left 1
      · first | ((intro W _; go_simp) <;> with_reducible rfl) | (intro W hW; skip; (go_simp <;> with_reducible rfl))
      try simp only [Act.put, List.setIfInBounds_toArray, List.set_cons_zero, List.set_cons_succ]
      refine seq_take (o := ⟨_, _, _, _, _, _⟩) (v := ?_) (by rw [HO.out]; rfl) (by rfl) ?_ ?_
      rotate_left 1
      · first | ((intro W _; go_simp) <;> with_reducible rfl) | (intro W hW; skip; (go_simp <;> with_reducible rfl))
      try simp only [Act.put, List.setIfInBounds_toArray, List.set_cons_zero, List.set_cons_succ]
      refine seq_do (o := ⟨_, _, _, _, _, _⟩) (by rw [HO.out]; rfl) (by rfl) (fun K hK => ?_)
      go_wp2_with fail
      have hS : True := trivial
      refine hK.out _ _ hS (fun _ => ?_)
      clear hK K
      try simp only [Act.put, List.setIfInBounds_toArray, List.set_cons_zero, List.set_cons_succ]
      refine seq_do (o := ⟨_, _, _, _, _, _⟩) (by rw [HO.out]; rfl) (by rfl) (fun K hK => ?_)
      refine wp_appU (w := wr.drew) HP.out [y1, y2] _ rfl 2 rfl (by decide) hpls hz (.tmp 14) (.tmp 25) rfl (by show Value.slice _ _ _ = Value.slice _ _ _; rw [HL.out]) rfl (fun ra2 cap2 w2 hy1 hy2 hy3 => ?_)
      refine hK.out _ _ trivial (fun _ => ?_)
      clear hK K
      try simp only [Act.put, List.setIfInBounds_toArray, List.set_cons_zero, List.set_cons_succ]
      refine seq_take (o := ⟨_, _, _, _, _, _⟩) (v := ?_) (by rw [HO.out]; rfl) (by rfl) ?_ ?_
      rotate_left 1
      · first | ((intro W _; go_simp) <;> with_reducible rfl) | (intro W hW; skip; (go_simp <;> with_reducible rfl))
      try simp only [Act.put, List.setIfInBounds_toArray, List.set_cons_zero, List.set_cons_succ]
      refine seq_done ?_
      --ENDR5
      go_wp2_with fail
      go_roundg g
      case measure => omega
      case rel =>
        refine ⟨k + 1, pl + 2, ra2, cap2, by omega, rfl, by have := HPL.out; omega, ?_, Lib.hid ?_, Lib.hid (HBx.out.trans (hy2.undrew.below (fun i hi => (HP.out.base i hi).1) hz))⟩
        · first
            | rfl
            | (congr 1; have := HL.out; omega)
            | (rw [HL.out])
        · rw [HN.out]
          exact hy1
    · obtain rfl : k = s.size := by omega
      have hcv : (convert 97 9 (.slice ra pl cap)).run Tryz.prog wr = .ok (.string ⟨(hexL s.data.toList).toArray⟩) wr := by
        have h := convU HP.out
        rw [HL.out, List.take_of_length_le (by rw [← Lib.size_eq]; exact Nat.le_refl _)] at h
        exact h
      clear hk hlt hpl
      go_wp2_with fail
      go_ret
      exact ⟨rfl, HBx.out⟩

/-- A word, as eight digits. -/
def wtext (x : W) : List UInt8 := hexL (four x)
set_option maxHeartbeats 2000000 in
set_option maxRecDepth 100000 in
theorem wordText_any (x : W) (w : World) :
    Calls Tryz.prog 347 #[vw x] w fun e w' => e = .returned (.string ⟨(wtext x).toArray⟩) ∧ Below w.heap.size w w' := by
  obtain ⟨q3, hq3⟩ : ∃ q, q = UInt8.ofNat (x >>> 24).toNat := ⟨_, rfl⟩
  obtain ⟨q2, hq2⟩ : ∃ q, q = UInt8.ofNat (x >>> 16).toNat := ⟨_, rfl⟩
  obtain ⟨q1, hq1⟩ : ∃ q, q = UInt8.ofNat (x >>> 8).toNat := ⟨_, rfl⟩
  obtain ⟨q0, hq0⟩ : ∃ q, q = UInt8.ofNat x.toNat := ⟨_, rfl⟩
  have f3 : IntKind.u8.wrap ((x.toNat : Int) / 16777216) = (q3.toNat : Int) := by rw [hq3]; exact u8_word x 24 (by decide)
  have f2 : IntKind.u8.wrap ((x.toNat : Int) / 65536) = (q2.toNat : Int) := by rw [hq2]; exact u8_word x 16 (by decide)
  have f1 : IntKind.u8.wrap ((x.toNat : Int) / 256) = (q1.toNat : Int) := by rw [hq1]; exact u8_word x 8 (by decide)
  have f0 : IntKind.u8.wrap (x.toNat : Int) = (q0.toNat : Int) := by rw [hq0]; exact u8_word0 x
  have HQ : Hid (four x = [q3, q2, q1, q0]) := Lib.hid (by rw [hq3, hq2, hq1, hq0]; rfl)
  clear hq3 hq2 hq1 hq0
  have hbx := bAlloc (Below.refl w.heap.size w) (.cells #[vb q3, vb q2, vb q1, vb q0] 5)
  have hcv : (convert 97 9 (.slice (some ⟨w.heap.size, 0, none⟩) 4 4)).run Tryz.prog (w.alloc (.cells #[vb q3, vb q2, vb q1, vb q0] 5)) = .ok (.string ⟨#[q3, q2, q1, q0]⟩) (w.alloc (.cells #[vb q3, vb q2, vb q1, vb q0] 5)) := by
    have hR : RowU (w.alloc (.cells #[vb q3, vb q2, vb q1, vb q0] 5)) w.heap.size (some ⟨w.heap.size, 0, none⟩) 4 [q3, q2, q1, q0] :=
      ⟨rfl, .inr ⟨w.heap.size, 4, _, rfl, Nat.le_refl _, heap_alloc_new w _, Nat.le_refl _, by decide, rfl, rfl⟩⟩
    exact convU hR
  have HX := Lib.hid (fun W => hexed_any ⟨#[q3, q2, q1, q0]⟩ W (by show 4 ≤ 100000; decide))
  have HBx := Lib.hid hbx
  clear hbx
  go_enter Tryz.func347, Tryz.ntmps347
  go_wp2_with (go_at_call 350; refine (HX.out _).mono ?_; rintro e w2 ⟨rfl, hb2⟩)
  go_ret
  refine ⟨?_, bTrans HBx.out hb2⟩
  unfold wtext
  rw [HQ.out]
  rfl
end Go.Proofs.YtmafnjapailliaaGreatDoor
