/-
  Parts of the proof: Sw6, Sw7, Fold, PlainClean2, PlainEnc, Bytes, PlainFeat.
-/
import Derived.Deep.AppendLies
import Derived.Test.YtchfhojighopkaaGreatDoorGuAI
import Derived.Lib.AppendStr
import Derived.Lib.ConvBytes
import Derived.Test.YtchfhojighopkaaGreatDoorGuAC
import Derived.Test.YtchfhojighopkaaGreatDoorGuAB
import Derived.WalkKit
import Derived.Laws.BitsLemmas
namespace Wh.Sha
/-- All whole pieces of a text stirred in by f, and what is left. -/
def goF (f : List W → List UInt8 → List W) (h : List W) (t : List UInt8) : List W × List UInt8 :=
 if _h : t.length < 64 then (h, t) else goF f (f h (t.take 64)) (t.drop 64)
termination_by t.length
decreasing_by simp; omega
variable {f : List W → List UInt8 → List W}
theorem goF_few {h : List W} {t : List UInt8} (ht : t.length < 64) : goF f h t = (h, t) := by rw [goF, dif_pos ht]
theorem goF_more {h : List W} {t : List UInt8} (ht : 64 ≤ t.length) : goF f h t = goF f (f h (t.take 64)) (t.drop 64) := by rw [goF, dif_neg (by omega)]
theorem goF_piece {h : List W} {r t : List UInt8} (hr : r.length = 64) : goF f h (r ++ t) = goF f (f h r) t := by
 rw [goF_more (by simp; omega), List.take_append_of_le_length (by omega), List.take_of_length_le (by omega), List.drop_append_of_le_length (by omega), List.drop_of_length_le (by omega), List.nil_append]
theorem goF_append (n : Nat) : ∀ (h : List W) (t u : List UInt8), t.length ≤ n → goF f h (t ++ u) = goF f (goF f h t).1 ((goF f h t).2 ++ u) := by
 induction n with
 | zero =>
  intro h t u ht
  rw [goF_few (h := h) (t := t) (by omega)]
 | succ n ih =>
  intro h t u ht
  by_cases hl : t.length < 64
  ·rw [goF_few (h := h) (t := t) hl]
  ·have e : t = t.take 64 ++ t.drop 64 := (List.take_append_drop 64 t).symm
   have h1 : (t.take 64).length = 64 := by simp; omega
   rw [goF_more (h := h) (t := t) (by omega), ← ih _ _ _ (by simp; omega)]
   conv => lhs; rw [e, List.append_assoc]
   rw [goF_piece h1]
end Wh.Sha
namespace Go.Proofs.YtchfhojighopkaaGreatDoor
open Go.RowKit Wh.Sha

theorem elem_word : ElemOk Tryz.prog 325 164 (.int .u32 0) 4 := by
 obtain ⟨i0, hi, hz0, hz1, hz2⟩ := info_parts (show (Tryz.prog.info? 164).map (fun i => (i.zero, i.size, i.bytes)) = some (some (.int .u32 0), 1, 4) by kernel_rfl)
 exact ⟨i0, Tryz.underlying325, hi, hz0, hz1, hz2, rfl⟩
theorem one_words (ws : List W) : ∀ u ∈ ws.map vw, u.oneCell' = true := by
 intro u hu
 obtain ⟨a, _, rfl⟩ := List.mem_map.1 hu
 rfl

theorem md5_little (ge : Nat) (w : World) : Calls Tryz.prog 268 #[.pointer (some ⟨ge, 0, none⟩)] w fun e w' => e = .returned (.bool true) ∧ w' = w := by
 go_enter Tryz.func268, Tryz.ntmps268
 go_wp2_with fail
 go_ret
 exact ⟨rfl, rfl⟩
set_option maxHeartbeats 1000000 in
theorem md5_copied (ge : Nat) (ws : List W) (w : World) (hE : WordsAt w ge ws 237) (hl : ws.length = 4) :
  Calls Tryz.prog 267 #[.pointer (some ⟨ge, 0, none⟩)] w fun e w' => e = .returned (.iface 234 (.pointer (some ⟨w.heap.size, 0, none⟩))) ∧ w' = w.alloc (.cells (ws.map vw).toArray 237) := by
 obtain ⟨x0, x1, x2, x3, rfl⟩ : ∃ x0 x1 x2 x3, ws = [x0, x1, x2, x3] := by
  match ws, hl with
  | [x0, x1, x2, x3], _ => exact ⟨x0, x1, x2, x3, rfl⟩
 have c0 : w.cell? ⟨ge, 0, none⟩ = some (vw x0) := hE.cell (i := 0) (show 0 < 4 by decide)
 have c1 : w.cell? ⟨ge, 1, none⟩ = some (vw x1) := hE.cell (i := 1) (show 1 < 4 by decide)
 have c2 : w.cell? ⟨ge, 2, none⟩ = some (vw x2) := hE.cell (i := 2) (show 2 < 4 by decide)
 have c3 : w.cell? ⟨ge, 3, none⟩ = some (vw x3) := hE.cell (i := 3) (show 3 < 4 by decide)
 clear hE hl
 go_enter Tryz.func267, Tryz.ntmps267
 go_wp2_with fail
 go_ret
 exact ⟨rfl, rfl⟩
set_option maxHeartbeats 1000000 in
theorem md5_words (ge : Nat) (ws : List W) (w : World) (hE : WordsAt w ge ws 237) (hl : ws.length = 4) :
  Calls Tryz.prog 271 #[.pointer (some ⟨ge, 0, none⟩)] w fun e w' => ∃ g cap, e = .returned (.slice (some ⟨g, 0, none⟩) 4 cap) ∧ Holds w' (some ⟨g, 0, none⟩) (ws.map vw) ∧ Below w.heap.size w w' := by
 have HE := Lib.hid hE
 have HL := Lib.hid hl
 clear hE hl
 obtain ⟨i0, ht, hi, hz0, hz1, hz2, hz3⟩ := elem_word
 have HA := Lib.hid (And.intro ht (And.intro hi (And.intro hz0 (And.intro hz1 (And.intro hz2 hz3)))))
 clear ht hi hz0 hz1 hz2 hz3
 go_enter Tryz.func271, Tryz.ntmps271
 go_upto_region 1 with fail
 apply wp_region_lit
 iterate 4
  refine wpList_val rfl (v := ?_) ?_ ?_
  rotate_left 1
  ·first | (go_simp <;> with_reducible rfl)
  try simp only [Act.put, List.setIfInBounds_toArray, List.set_cons_zero, List.set_cons_succ]
 refine wpList_append_lies _ rfl _ _ 325 rfl w.heap.size 164 i0 (.int .u32 0) 1 4 HA.out.1 HA.out.2.1 HA.out.2.2.1 HA.out.2.2.2.1 HA.out.2.2.2.2.1 HA.out.2.2.2.2.2 (by decide) (.slice none 0 0) 0 [] rfl ⟨rfl, .inl ⟨rfl, rfl⟩⟩ ⟨ge, 0, none⟩ 4 4 (ws.map vw) rfl (by simp [HL.out]) (World.news_of_block HE.out) (one_words ws) (by decide) (by decide) (by decide) (Nat.le_refl _) _ rfl ?_
 intro g cap w' hown hgrow hat hlt
 have HO := Lib.hid hown
 have HG := Lib.hid ((Below.refl w.heap.size w).grown hgrow (Nat.le_refl _) (fun k hk => by cases hk))
 clear hown hgrow hat hlt
 try simp only [Act.put, List.setIfInBounds_toArray, List.set_cons_zero, List.set_cons_succ]
 go_wp2_with fail
 go_ret
 exact ⟨g, cap, rfl, own_holds HO.out, HG.out⟩

theorem sha1_little (ge : Nat) (w : World) : Calls Tryz.prog 274 #[.pointer (some ⟨ge, 0, none⟩)] w fun e w' => e = .returned (.bool false) ∧ w' = w := by
 go_enter Tryz.func274, Tryz.ntmps274
 go_wp2_with fail
 go_ret
 exact ⟨rfl, rfl⟩
set_option maxHeartbeats 1000000 in
theorem sha1_copied (ge : Nat) (ws : List W) (w : World) (hE : WordsAt w ge ws 241) (hl : ws.length = 5) :
  Calls Tryz.prog 273 #[.pointer (some ⟨ge, 0, none⟩)] w fun e w' => e = .returned (.iface 238 (.pointer (some ⟨w.heap.size, 0, none⟩))) ∧ w' = w.alloc (.cells (ws.map vw).toArray 241) := by
 obtain ⟨x0, x1, x2, x3, x4, rfl⟩ : ∃ x0 x1 x2 x3 x4, ws = [x0, x1, x2, x3, x4] := by
  match ws, hl with
  | [x0, x1, x2, x3, x4], _ => exact ⟨x0, x1, x2, x3, x4, rfl⟩
 have c0 : w.cell? ⟨ge, 0, none⟩ = some (vw x0) := hE.cell (i := 0) (show 0 < 5 by decide)
 have c1 : w.cell? ⟨ge, 1, none⟩ = some (vw x1) := hE.cell (i := 1) (show 1 < 5 by decide)
 have c2 : w.cell? ⟨ge, 2, none⟩ = some (vw x2) := hE.cell (i := 2) (show 2 < 5 by decide)
 have c3 : w.cell? ⟨ge, 3, none⟩ = some (vw x3) := hE.cell (i := 3) (show 3 < 5 by decide)
 have c4 : w.cell? ⟨ge, 4, none⟩ = some (vw x4) := hE.cell (i := 4) (show 4 < 5 by decide)
 clear hE hl
 go_enter Tryz.func273, Tryz.ntmps273
 go_wp2_with fail
 go_ret
 exact ⟨rfl, rfl⟩
set_option maxHeartbeats 1000000 in
theorem sha1_words (ge : Nat) (ws : List W) (w : World) (hE : WordsAt w ge ws 241) (hl : ws.length = 5) :
  Calls Tryz.prog 277 #[.pointer (some ⟨ge, 0, none⟩)] w fun e w' => ∃ g cap, e = .returned (.slice (some ⟨g, 0, none⟩) 5 cap) ∧ Holds w' (some ⟨g, 0, none⟩) (ws.map vw) ∧ Below w.heap.size w w' := by
 have HE := Lib.hid hE
 have HL := Lib.hid hl
 clear hE hl
 obtain ⟨i0, ht, hi, hz0, hz1, hz2, hz3⟩ := elem_word
 have HA := Lib.hid (And.intro ht (And.intro hi (And.intro hz0 (And.intro hz1 (And.intro hz2 hz3)))))
 clear ht hi hz0 hz1 hz2 hz3
 go_enter Tryz.func277, Tryz.ntmps277
 go_upto_region 1 with fail
 apply wp_region_lit
 iterate 4
  refine wpList_val rfl (v := ?_) ?_ ?_
  rotate_left 1
  ·first | (go_simp <;> with_reducible rfl)
  try simp only [Act.put, List.setIfInBounds_toArray, List.set_cons_zero, List.set_cons_succ]
 refine wpList_append_lies _ rfl _ _ 325 rfl w.heap.size 164 i0 (.int .u32 0) 1 4 HA.out.1 HA.out.2.1 HA.out.2.2.1 HA.out.2.2.2.1 HA.out.2.2.2.2.1 HA.out.2.2.2.2.2 (by decide) (.slice none 0 0) 0 [] rfl ⟨rfl, .inl ⟨rfl, rfl⟩⟩ ⟨ge, 0, none⟩ 5 5 (ws.map vw) rfl (by simp [HL.out]) (World.news_of_block HE.out) (one_words ws) (by decide) (by decide) (by decide) (Nat.le_refl _) _ rfl ?_
 intro g cap w' hown hgrow hat hlt
 have HO := Lib.hid hown
 have HG := Lib.hid ((Below.refl w.heap.size w).grown hgrow (Nat.le_refl _) (fun k hk => by cases hk))
 clear hown hgrow hat hlt
 try simp only [Act.put, List.setIfInBounds_toArray, List.set_cons_zero, List.set_cons_succ]
 go_wp2_with fail
 go_ret
 exact ⟨g, cap, rfl, own_holds HO.out, HG.out⟩

theorem sha256_little (ge : Nat) (w : World) : Calls Tryz.prog 280 #[.pointer (some ⟨ge, 0, none⟩)] w fun e w' => e = .returned (.bool false) ∧ w' = w := by
 go_enter Tryz.func280, Tryz.ntmps280
 go_wp2_with fail
 go_ret
 exact ⟨rfl, rfl⟩
set_option maxHeartbeats 1000000 in
theorem sha256_copied (ge : Nat) (ws : List W) (w : World) (hE : WordsAt w ge ws 245) (hl : ws.length = 8) :
  Calls Tryz.prog 279 #[.pointer (some ⟨ge, 0, none⟩)] w fun e w' => e = .returned (.iface 242 (.pointer (some ⟨w.heap.size, 0, none⟩))) ∧ w' = w.alloc (.cells (ws.map vw).toArray 245) := by
 obtain ⟨x0, x1, x2, x3, x4, x5, x6, x7, rfl⟩ : ∃ x0 x1 x2 x3 x4 x5 x6 x7, ws = [x0, x1, x2, x3, x4, x5, x6, x7] := by
  match ws, hl with
  | [x0, x1, x2, x3, x4, x5, x6, x7], _ => exact ⟨x0, x1, x2, x3, x4, x5, x6, x7, rfl⟩
 have c0 : w.cell? ⟨ge, 0, none⟩ = some (vw x0) := hE.cell (i := 0) (show 0 < 8 by decide)
 have c1 : w.cell? ⟨ge, 1, none⟩ = some (vw x1) := hE.cell (i := 1) (show 1 < 8 by decide)
 have c2 : w.cell? ⟨ge, 2, none⟩ = some (vw x2) := hE.cell (i := 2) (show 2 < 8 by decide)
 have c3 : w.cell? ⟨ge, 3, none⟩ = some (vw x3) := hE.cell (i := 3) (show 3 < 8 by decide)
 have c4 : w.cell? ⟨ge, 4, none⟩ = some (vw x4) := hE.cell (i := 4) (show 4 < 8 by decide)
 have c5 : w.cell? ⟨ge, 5, none⟩ = some (vw x5) := hE.cell (i := 5) (show 5 < 8 by decide)
 have c6 : w.cell? ⟨ge, 6, none⟩ = some (vw x6) := hE.cell (i := 6) (show 6 < 8 by decide)
 have c7 : w.cell? ⟨ge, 7, none⟩ = some (vw x7) := hE.cell (i := 7) (show 7 < 8 by decide)
 clear hE hl
 go_enter Tryz.func279, Tryz.ntmps279
 go_wp2_with fail
 go_ret
 exact ⟨rfl, rfl⟩
set_option maxHeartbeats 1000000 in
theorem sha256_words (ge : Nat) (ws : List W) (w : World) (hE : WordsAt w ge ws 245) (hl : ws.length = 8) :
  Calls Tryz.prog 283 #[.pointer (some ⟨ge, 0, none⟩)] w fun e w' => ∃ g cap, e = .returned (.slice (some ⟨g, 0, none⟩) 8 cap) ∧ Holds w' (some ⟨g, 0, none⟩) (ws.map vw) ∧ Below w.heap.size w w' := by
 have HE := Lib.hid hE
 have HL := Lib.hid hl
 clear hE hl
 obtain ⟨i0, ht, hi, hz0, hz1, hz2, hz3⟩ := elem_word
 have HA := Lib.hid (And.intro ht (And.intro hi (And.intro hz0 (And.intro hz1 (And.intro hz2 hz3)))))
 clear ht hi hz0 hz1 hz2 hz3
 go_enter Tryz.func283, Tryz.ntmps283
 go_upto_region 1 with fail
 apply wp_region_lit
 iterate 4
  refine wpList_val rfl (v := ?_) ?_ ?_
  rotate_left 1
  ·first | (go_simp <;> with_reducible rfl)
  try simp only [Act.put, List.setIfInBounds_toArray, List.set_cons_zero, List.set_cons_succ]
 refine wpList_append_lies _ rfl _ _ 325 rfl w.heap.size 164 i0 (.int .u32 0) 1 4 HA.out.1 HA.out.2.1 HA.out.2.2.1 HA.out.2.2.2.1 HA.out.2.2.2.2.1 HA.out.2.2.2.2.2 (by decide) (.slice none 0 0) 0 [] rfl ⟨rfl, .inl ⟨rfl, rfl⟩⟩ ⟨ge, 0, none⟩ 8 8 (ws.map vw) rfl (by simp [HL.out]) (World.news_of_block HE.out) (one_words ws) (by decide) (by decide) (by decide) (Nat.le_refl _) _ rfl ?_
 intro g cap w' hown hgrow hat hlt
 have HO := Lib.hid hown
 have HG := Lib.hid ((Below.refl w.heap.size w).grown hgrow (Nat.le_refl _) (fun k hk => by cases hk))
 clear hown hgrow hat hlt
 try simp only [Act.put, List.setIfInBounds_toArray, List.set_cons_zero, List.set_cons_succ]
 go_wp2_with fail
 go_ret
 exact ⟨g, cap, rfl, own_holds HO.out, HG.out⟩
end Go.Proofs.YtchfhojighopkaaGreatDoor
namespace Go.Proofs.YtchfhojighopkaaGreatDoor
open Go.RowKit Wh.Sha

/-- The kinds of engines. -/
inductive EK where
 | md5
 | sha1
 | sha256
/-- What the package's tables hold. -/
structure Tabs where
 k256 : List W
 tb : List W
 tn : List Int
def EK.len : EK → Nat
 | .md5 => 4
 | .sha1 => 5
 | .sha256 => 8
def EK.f (T : Tabs) : EK → List W → List UInt8 → List W
 | .md5, l, p => (comp5 T.tb T.tn ⟨l.getD 0 0, l.getD 1 0, l.getD 2 0, l.getD 3 0⟩ p).list
 | .sha1, l, p => (comp1 ⟨l.getD 0 0, l.getD 1 0, l.getD 2 0, l.getD 3 0, l.getD 4 0⟩ p).list
 | .sha256, l, p => let st : St := ⟨l.getD 0 0, l.getD 1 0, l.getD 2 0, l.getD 3 0, l.getD 4 0, l.getD 5 0, l.getD 6 0, l.getD 7 0⟩; (st.add (rounds (fun i => T.k256.getD i 0) (sch (word p)) 64 st)).list
theorem EK.f_len (T : Tabs) (k : EK) (l : List W) (p : List UInt8) : (k.f T l p).length = k.len := by cases k <;> rfl
def EK.pty : EK → TypeId
 | .md5 => 234
 | .sha1 => 238
 | .sha256 => 242
def EK.box : EK → TypeId
 | .md5 => 237
 | .sha1 => 241
 | .sha256 => 245
def EK.pieceF : EK → FuncId
 | .md5 => 269
 | .sha1 => 275
 | .sha256 => 281

/-- A block that is none of the tables. -/
def NoTab (b : Nat) : Prop := b ≠ 8 ∧ b ≠ 6 ∧ b ≠ 7
structure TabsAt (w : World) (T : Tabs) : Prop where
 a : WordsAt w 8 T.k256 330
 la : T.k256.length = 64
 b : WordsAt w 6 T.tb 330
 lb : T.tb.length = 64
 c : BoxIs w 7 (T.tn.map (Value.int .i64)).toArray 332
 lc : T.tn.length = 16
theorem TabsAt.kp {F : Nat → Prop} {w w' : World} {T : Tabs} (h : TabsAt w T) (hk : Kp F w w') (hF : ∀ i, F i → NoTab i) : TabsAt w' T :=
 ⟨h.a.kp hk (fun e => (hF _ e).1 rfl), h.la, h.b.kp hk (fun e => (hF _ e).2.1 rfl), h.lb, h.c.kp hk (fun e => (hF _ e).2.2 rfl), h.lc⟩

theorem piece_any (k : EK) (T : Tabs) (b o ge : Nat) (p : List UInt8) (l : List W) (w : World) (hT : TabsAt w T) (hp : p.length = 64) (hB : BytesAt w b o p) (hE : WordsAt w ge l k.box) (hl : l.length = k.len) (hbg : b ≠ ge) (hge : NoTab ge) :
  Calls Tryz.prog k.pieceF #[.pointer (some ⟨ge, 0, none⟩), .pointer (some ⟨b, o, none⟩)] w fun e w' => e = .returned (.tuple #[]) ∧ WordsAt w' ge (k.f T l p) k.box ∧ Kp (· = ge) w w' := by
 cases k with
 | md5 =>
  match l, hl with
  | [x0, x1, x2, x3], _ => exact md5_piece b o ge p ⟨x0, x1, x2, x3⟩ T.tb T.tn w hp hB hE hbg hT.b hT.lb hge.2.1 hT.c hT.lc hge.2.2
 | sha1 =>
  match l, hl with
  | [x0, x1, x2, x3, x4], _ => exact sha1_piece b o ge p ⟨x0, x1, x2, x3, x4⟩ w hp hB hE hbg
 | sha256 =>
  match l, hl with
  | [x0, x1, x2, x3, x4, x5, x6, x7], _ => exact sha256_piece b o ge p ⟨x0, x1, x2, x3, x4, x5, x6, x7⟩ T.k256 w hp hB hE hbg hT.a hT.la hge.1

/-- A row of bytes of the call's own: blocks from B on. -/
def RowU (w : World) (B : Nat) (ra : Option Addr) (cap : Nat) (xs : List UInt8) : Prop := w.ownsRow B 5 1 (.slice ra xs.length cap) xs.length (xs.map vb)
theorem RowU.nil (w : World) (B : Nat) : RowU w B none 0 [] := ⟨rfl, .inl ⟨rfl, rfl⟩⟩
/-- The block of a row. -/
def rb (ra : Option Addr) (i : Nat) : Prop := ∃ a, ra = some a ∧ i = a.block
theorem RowU.base {w : World} {B cap : Nat} {ra : Option Addr} {xs : List UInt8} (h : RowU w B ra cap xs) : ∀ i, rb ra i → B ≤ i ∧ i < w.heap.size := by
 rintro i ⟨a, rfl, rfl⟩
 rcases h.2 with ⟨h1, _⟩ | ⟨g, cap', cur, h1, h2, h3, _⟩
 ·cases h1
 ·injection h1 with h1
  injection h1 with h1
  subst h1
  exact ⟨h2, (Array.getElem?_eq_some_iff.1 h3).1⟩
theorem RowU.kp {F : Nat → Prop} {w w' : World} {B cap : Nat} {ra : Option Addr} {xs : List UInt8} (h : RowU w B ra cap xs) (hk : Kp F w w') (hF : ∀ i, rb ra i → ¬ F i) : RowU w' B ra cap xs := by
 refine ⟨h.1, ?_⟩
 rcases h.2 with h1 | ⟨g, cap', cur, h1, h2, h3, h4⟩
 ·exact .inl h1
 ·refine .inr ⟨g, cap', cur, h1, h2, ?_, h4⟩
  rw [hk.block g (Array.getElem?_eq_some_iff.1 h3).1 (hF g ?_)]
  ·exact h3
  ·injection h1 with h1
   exact ⟨_, h1, rfl⟩
theorem RowU.cut {w : World} {B cap : Nat} {ra : Option Addr} {xs : List UInt8} (h : RowU w B ra cap xs) (hne : ra ≠ none) : RowU w B ra cap [] := by
 rcases h.2 with ⟨h1, _⟩ | ⟨g, cap', cur, h1, h2, h3, h4, h5, h6, h7⟩
 ·injection h1 with h1
  exact absurd h1 hne
 ·refine ⟨rfl, .inr ⟨g, cap, cur, ?_, h2, h3, Nat.zero_le _, ?_, ?_, rfl⟩⟩
  ·injection h1 with h1 _ hc
   rw [h1]
  ·injection h1 with _ _ hc
   rw [hc]; exact h5
  ·injection h1 with _ _ hc
   rw [hc]; exact h6
theorem RowU.bytes {w : World} {B cap : Nat} {a : Addr} {xs : List UInt8} (h : RowU w B (some a) cap xs) : ∃ g, a = ⟨g, 0, none⟩ ∧ BytesAt w g 0 xs := by
 rcases h.2 with ⟨h1, _⟩ | ⟨g, cap', cur, h1, h2, h3, h4, h5, h6, h7⟩
 ·cases h1
 ·injection h1 with h1
  injection h1 with h1
  refine ⟨g, h1, (Array.getElem?_eq_some_iff.1 h3).1, fun i hi => ?_⟩
  rw [Nat.zero_add, Lib.cell_of_heap h3]
  have h8 : cur.toList[i]? = (xs.map vb)[i]? := by
   rw [← h7, List.getElem?_take, if_pos (by omega)]
  rw [← Array.getElem?_toList, h8, List.getElem?_map, List.getD_eq_getElem?_getD, List.getElem?_eq_getElem hi]
  rfl

/-- What a text's append makes of a row, and where it lies. -/
theorem append_text {w : World} {B cap : Nat} {ra : Option Addr} {xs : List UInt8} (h : RowU w B ra cap xs) (s : ByteArray) (ty : TypeId) (hs : xs.length + s.size ≤ 1000000000) (hB : B ≤ w.heap.size) :
  ∃ ra' cap' w', (Builtin.append_ #[125, 9] ty #[.slice ra xs.length cap, .string s]).run Tryz.prog w = .ok (.slice ra' (xs.length + s.size) cap') w' ∧ RowU w' B ra' cap' (xs ++ s.data.toList) ∧ Kp (rb ra) w w' ∧ (∀ i, rb ra' i → rb ra i ∨ w.heap.size ≤ i) := by
 obtain ⟨i, ht, hi, hz0, hz1, hz2, hz3⟩ := elem_byte
 have hu : Tryz.prog.underlying 9 = some .string := by kernel_rfl
 have hM : xs.length + s.size ≤ maxLen := by unfold maxLen; omega
 obtain ⟨v', w', hr, h2, h3, h4⟩ := Lib.run_append_own_string (P := Tryz.prog) w B 125 9 ty 5 i ht hu hi hz0 hz1 hz2 (.slice ra xs.length cap) xs.length (xs.map vb) h s hM (by omega) hB
 have hsc : xs.map vb ++ Lib.strCells s = (xs ++ s.data.toList).map vb := by
  rw [List.map_append]
  rfl
 have hlen : (xs ++ s.data.toList).length = xs.length + s.size := by
  rw [List.length_append, Lib.size_eq]
 rw [hsc] at h2
 have hk : Kp (rb ra) w w' := ⟨h3.os, h3.tape, h3.output, h3.size, fun k hk hF => h3.block k hk (fun e => hF (by
  cases ra with
  | none => cases e
  | some a => exact ⟨a, rfl, by injection e⟩))⟩
 have hblk : v'.ownBlock = (Value.slice ra xs.length cap).ownBlock ∨ v'.ownBlock = some w.heap.size ∨ v' = .slice none 0 0 := by
  rcases h.2 with ⟨e0, hn0⟩ | ⟨g, cap0, cur, e0, hbg, hg, hnc, hcm, hcs, htake⟩
  ·by_cases hs0 : s.size = 0
   ·exact .inr (.inr (h4.2 ⟨e0, hs0⟩))
   ·rw [e0] at hr
    have hr2 := run_append_nil_string (P := Tryz.prog) w 125 9 ty 5 i (.int .u8 0) ht hu hi hz0 s (by omega) (by omega) (by rw [hz2]; omega)
    rw [hr] at hr2
    injection hr2 with e1 e2
    rw [e1]
    exact .inr (.inl rfl)
  ·rw [e0] at hr ⊢
   by_cases hroom : xs.length + s.size ≤ cap0
   ·have hcs' : cur.size = cap0 := by simpa using hcs
    have hr2 := Lib.run_append_room_string (P := Tryz.prog) w 125 9 ty 5 i ht hu hi hz1 g xs.length cap0 cur hg s hroom (by omega)
    rw [hr] at hr2
    injection hr2 with e1 e2
    rw [e1]
    exact .inl rfl
   ·have holds : ∀ j u, (xs.map vb)[j]? = some u → w.cell? ((⟨g, 0, none⟩ : Addr).add j) = some u := by
     have h' := h
     unfold RowU at h'
     rw [e0] at h'
     exact h'.cells (g := g) rfl
    have hr2 := Lib.run_append_grow_string (P := Tryz.prog) w 125 9 ty 5 i (.int .u8 0) ht hu hi hz0 ⟨g, 0, none⟩ xs.length cap0 (xs.map vb) (by rw [hz1]; simp) holds s (by omega) (by omega) (by rw [hz2]; exact growslice_fits (by omega) (by omega))
    rw [hr] at hr2
    injection hr2 with e1 e2
    rw [e1]
    exact .inr (.inl rfl)
 rcases h2.2 with ⟨e0, hn0⟩ | ⟨g, cap', cur, e0, _⟩
 ·subst e0
  refine ⟨none, 0, w', ?_, ?_, hk, fun i hi => by obtain ⟨a, ha, _⟩ := hi; cases ha⟩
  ·rw [hr, hn0]
  ·unfold RowU
   rw [hlen, hn0]
   rw [hn0] at h2
   exact h2
 ·subst e0
  refine ⟨some ⟨g, 0, none⟩, cap', w', hr, ?_, hk, fun i hi => ?_⟩
  ·unfold RowU
   rw [hlen]
   exact h2
  ·obtain ⟨a, ha, rfl⟩ := hi
   injection ha with ha
   subst ha
   rcases hblk with hb | hb | hb
   ·left
    cases ra with
    | none => cases hb
    | some a => exact ⟨a, rfl, by injection hb⟩
   ·right
    injection hb with hb
    exact Nat.le_of_eq hb.symm
   ·cases hb
end Go.Proofs.YtchfhojighopkaaGreatDoor
namespace Go.Proofs.YtchfhojighopkaaGreatDoor
open Go.RowKit

/-- A block's first cells are these bytes, and can be written. -/
def BytesAtF (w : World) (b : Nat) (l : List UInt8) : Prop := ∀ (j : Nat) (x : UInt8), l[j]? = some x → w.cell? ⟨b, j, none⟩ = some (.int .u8 x.toNat) ∧ w.frozen? ⟨b, j, none⟩ = false

theorem BytesAtF.set {w : World} {b k : Nat} {l : List UInt8} (h : BytesAtF w b l) (hk : k < l.length) (v : UInt8) : BytesAtF (w.setCell ⟨b, k, none⟩ (.int .u8 v.toNat)) b (l.set k v) := by
 intro j x hj
 obtain ⟨h1, h2⟩ := h k l[k] (List.getElem?_eq_getElem hk)
 by_cases e : k = j
 ·subst e
  rw [List.getElem?_set_self (by simpa using hk)] at hj
  cases hj
  exact ⟨World.cell?_setCell_same _ _ _ h1, (World.frozen?_setCell ..).trans h2⟩
 ·rw [List.getElem?_set_ne e] at hj
  obtain ⟨h3, h4⟩ := h j x hj
  exact ⟨(World.cell?_setCell_other _ _ _ _ (fun h => e (by injection h))).trans h3, (World.frozen?_setCell ..).trans h4⟩

theorem BytesAtF.keep {w w' : World} {b B : Nat} {l : List UInt8} (h : BytesAtF w b l) (hb : Below B w w') (hB : b < B) : BytesAtF w' b l := by
 intro j x hj
 obtain ⟨h1, h2⟩ := h j x hj
 exact ⟨(hb.cell (p := ⟨b, j, none⟩) hB).trans h1, (hb.frozen (p := ⟨b, j, none⟩) hB).trans h2⟩

/-- What a conversion from a text to bytes leaves. -/
theorem bytesWorld_facts (w : World) (e : TypeId) (s : ByteArray) : Below w.heap.size w (Lib.bytesWorld w e s) ∧ (Lib.bytesWorld w e s).heap.size = w.heap.size + 1 ∧ BytesAtF (Lib.bytesWorld w e s) w.heap.size s.data.toList := by
 refine ⟨⟨rfl, rfl, rfl, by rw [Lib.bytesWorld_size]; omega, fun k hk => Lib.bytesWorld_at_old w e s k hk⟩, Lib.bytesWorld_size w e s, fun j x hj => ?_⟩
 have hjl : j < s.size := by have := (List.getElem?_eq_some_iff.1 hj).1; rw [Lib.size_eq]; exact this
 refine ⟨?_, ?_⟩
 ·rw [Lib.bytesWorld_cell w e s j hjl, List.getD_eq_getElem?_getD, hj]
  rfl
 ·have h1 := Lib.bytesWorld_at_new w e s
  have h2 : s.size ≤ (Lib.bytesCells w e s).size := by simp [Lib.bytesCells]
  simp only [World.frozen?, h1]
  simp
  omega

theorem conv_bytes (w : World) (s : ByteArray) : (convert 9 125 (.string s)).run Tryz.prog w = .ok (.slice (some ⟨w.heap.size, 0, none⟩) s.size (grownCap w s.size 0 5)) (Lib.bytesWorld w 5 s) :=
 Lib.run_convert_string_bytes w 9 125 5 s Tryz.underlying9 Tryz.underlying125 Tryz.underlying5

theorem conv_back (w : World) (b n cap : Nat) (l : List UInt8) (hn : n = l.length) (h : BytesAtF w b l) : (convert 125 9 (.slice (some ⟨b, 0, none⟩) n cap)).run Tryz.prog w = .ok (.string ⟨l.toArray⟩) w := by
 subst hn
 refine run_convert_bytes_back w 125 9 5 ⟨b, 0, none⟩ cap l Tryz.underlying125 Tryz.underlying5 Tryz.underlying9 fun j hj => ?_
 have e : (⟨b, 0, none⟩ : Addr).add j = ⟨b, j, none⟩ := by unfold Addr.add; split <;> simp_all
 rw [e]
 exact (h j l[j] (List.getElem?_eq_getElem hj)).1

set_option maxHeartbeats 1000000 in
theorem small_any (x : UInt8) (w : World) :
  Calls Tryz.prog 139 #[.int .u8 x.toNat] w fun e w' => e = .returned (.int .u8 (Wh.small x).toNat) ∧ w' = w := by
 have hx := x.toNat_lt
 have hs := Lib.hid (Wh.small_nat x)
 by_cases h1 : 65 ≤ x.toNat
 ·by_cases h2 : x.toNat ≤ 90
  ·go_enter Tryz.func139, Tryz.ntmps139
   go_wp2
   go_ret
   refine ⟨ret_int ?_, rfl⟩
   rw [hs.out, if_pos ⟨h1, h2⟩]
   omega
  ·go_enter Tryz.func139, Tryz.ntmps139
   go_wp2
   go_ret
   exact ⟨ret_int (by rw [hs.out, if_neg (by omega)]), rfl⟩
 ·go_enter Tryz.func139, Tryz.ntmps139
  go_wp2
  go_ret
  exact ⟨ret_int (by rw [hs.out, if_neg (by omega)]), rfl⟩

/-- A list of bytes of which the first k are small. -/
theorem lower_step {l : List UInt8} {k : Nat} {x : UInt8} (hk : l[k]? = some x) : ((l.take k).map Wh.small ++ l.drop k)[k]? = some x ∧
  ((l.take k).map Wh.small ++ l.drop k).set k (Wh.small x) = (l.take (k + 1)).map Wh.small ++ l.drop (k + 1) := by
 have hlt := (List.getElem?_eq_some_iff.1 hk).1
 have e : l[k] = x := (List.getElem?_eq_some_iff.1 hk).2
 have hlen : ((l.take k).map Wh.small).length = k := by simp; omega
 refine ⟨?_, ?_⟩
 ·rw [List.getElem?_append_right (by omega), hlen, Nat.sub_self, List.getElem?_drop, Nat.add_zero, hk]
 ·rw [List.set_append, if_neg (by omega), hlen, Nat.sub_self, List.drop_eq_getElem_cons hlt, e, List.take_add_one, hk]
  simp

theorem lower_len (l : List UInt8) (k : Nat) : ((l.take k).map Wh.small ++ l.drop k).length = l.length := by simp; omega

set_option maxHeartbeats 1000000 in
theorem fold_any (s : ByteArray) (w : World) (hs : s.size ≤ 9223372036854775807) :
  Calls Tryz.prog 124 #[.string s] w fun e w' => e = .returned (.string ⟨(Wh.lower s.data.toList).toArray⟩) ∧ Below w.heap.size w w' := by
 have hconv := conv_bytes w s
 obtain ⟨hb0, hz0, hB0⟩ := bytesWorld_facts w 5 s
 generalize grownCap w s.size 0 5 = cap at *
 generalize Lib.bytesWorld w 5 s = W0 at *
 have HB0 := Lib.hid hB0
 clear hB0
 have hz1 : w.heap.size < W0.heap.size := by omega
 clear hz0
 go_enter Tryz.func124, Tryz.ntmps124
 go_wp2_with fail
 clear hconv
 go_loopg [10] s.size (fun g i wx => ∃ k : Nat, k + g = s.size ∧ i = .int .i64 k ∧ Below w.heap.size w wx ∧ w.heap.size < wx.heap.size ∧ Hid (BytesAtF wx w.heap.size ((s.data.toList.take k).map Wh.small ++ s.data.toList.drop k)))
 case atStart => exact ⟨0, by omega, rfl, hb0, hz1, Lib.hid (by simpa using HB0.out)⟩
 case round =>
  obtain ⟨k, hk, rfl, hb, hz, HB⟩ := hrel
  by_cases hlt : k < s.size
  ·obtain ⟨g, rfl⟩ : ∃ g, gk = g + 1 := ⟨gk - 1, by omega⟩
   obtain ⟨x, hx⟩ : ∃ x, s.data.toList[k]? = some x := ⟨_, List.getElem?_eq_getElem (by rw [← Lib.size_eq]; exact hlt)⟩
   obtain ⟨e1, e2⟩ := lower_step hx
   obtain ⟨hc, hf⟩ := HB.out k x e1
   have hset := HB.out.set (k := k) (by rw [lower_len, ← Lib.size_eq]; exact hlt) (Wh.small x)
   rw [e2] at hset
   have HS := Lib.hid hset
   clear hx e1 e2 hset
   go_wp2_with (go_at_call 139; refine (small_any x _).mono ?_; rintro e w' ⟨rfl, rfl⟩)
   go_roundg g
   case measure => omega
   case rel => exact ⟨k + 1, by omega, by go_num, Below.setCell (p := ⟨w.heap.size, k, none⟩) hb (Nat.le_refl _) _, by simpa using hz, HS⟩
  ·obtain rfl : k = s.size := by omega
   have hB := HB.out
   rw [List.take_of_length_le (by rw [← Lib.size_eq]; omega), List.drop_eq_nil_of_le (by rw [← Lib.size_eq]; omega), List.append_nil] at hB
   have hback := conv_back wr w.heap.size s.size cap _ (by rw [List.length_map, Lib.size_eq]) hB
   clear hB
   go_wp2_with fail
   go_ret
   exact ⟨rfl, hb⟩

end Go.Proofs.YtchfhojighopkaaGreatDoor
namespace Wh
open Go

theorem byteArray_ext {a b : ByteArray} (h : a.data.toList = b.data.toList) : a = b := by
 obtain ⟨x⟩ := a
 obtain ⟨y⟩ := b
 congr
 exact Array.toList_inj.1 h

theorem map_data_inj : ∀ {xs ys : List ByteArray}, xs.map (·.data.toList) = ys.map (·.data.toList) → xs = ys
 | [], [], _ => rfl
 | [], _ :: _, h => by simp at h
 | _ :: _, [], h => by simp at h
 | x :: xs, y :: ys, h => by
  simp only [List.map_cons, List.cons.injEq] at h
  rw [byteArray_ext h.1, map_data_inj h.2]

end Wh
namespace Wh
open Go

def digit (c : UInt8) : Bool := decide (48 ≤ c.toNat) && decide (c.toNat ≤ 57)
def letter (c : UInt8) : Bool := (decide (97 ≤ c.toNat) && decide (c.toNat ≤ 122)) || (decide (65 ≤ c.toNat) && decide (c.toNat ≤ 90))

section
variable {xs : List ByteArray} {k : Nat} {n p : ByteArray}
end

theorem bytesLess_flip : ∀ a b : List UInt8, (Op.bytesLess a b || a == b) = !Op.bytesLess b a
 | [], [] => rfl
 | [], _ :: _ => rfl
 | _ :: _, [] => rfl
 | x :: a, y :: b => by
  have ih := bytesLess_flip a b
  rw [Op.bytesLess, Op.bytesLess]
  by_cases hxy : x = y
  ·subst hxy
   have h1 : ¬ x < x := by simp
   simp only [h1, decide_false, Bool.false_or, beq_self_eq_true, Bool.true_and]
   rw [← ih]
   simp [List.cons_beq_cons]
  ·have h2 : (x == y) = false := by simpa using hxy
   have h3 : (y == x) = false := by simpa using fun e => hxy e.symm
   have h4 : ((x :: a) == (y :: b)) = false := by simp [hxy]
   rw [h2, h3, h4]
   by_cases h5 : x < y
   ·have h6 : ¬ y < x := by rw [UInt8.lt_iff_toNat_lt] at *; omega
    simp [h5, h6]
   ·have h6 : y < x := by
     rw [UInt8.lt_iff_toNat_lt] at *
     have : x.toNat ≠ y.toNat := fun e => hxy (UInt8.toNat_inj.1 e)
     omega
    simp [h5, h6]

end Wh
namespace Go.Proofs.YtchfhojighopkaaGreatDoor
open Go.RowKit

end Go.Proofs.YtchfhojighopkaaGreatDoor
namespace Wh
open Go

/-- Features. -/
structure Feat where
 has : Int
 sums : Int
 prec : Int
 maxName : Int
 maxPath : Int
 maxSize : Int
 page : Int
 partSize : Int
 forbid : ByteArray

/-- Bytes that may stand in Forbid: no letter, no digit, no slash, ASCII. -/
def okF (c : UInt8) : Bool := !(c == 47 || (digit c || letter c) || decide (128 ≤ c.toNat))

/-- Different bytes, each of which is right. -/
def formP (p : UInt8 → Bool) : List UInt8 → Bool
 | [] => true
 | x :: r => !r.contains x && p x && formP p r

theorem formP_snoc (p : UInt8 → Bool) (x : UInt8) : ∀ l : List UInt8, formP p (l ++ [x]) = (formP p l && p x && !l.contains x)
 | [] => by simp [formP]
 | y :: r => by
  rw [List.cons_append, formP, formP, formP_snoc p x r, List.contains_append]
  simp only [List.contains_cons, List.contains_nil, Bool.or_false]
  have e : (y == x) = (x == y) := by rw [Bool.eq_iff_iff]; simp; exact ⟨Eq.symm, Eq.symm⟩
  rw [e]
  cases r.contains y <;> cases r.contains x <;> cases (x == y) <;> cases p y <;> cases p x <;> cases formP p r <;> rfl

theorem formP_prefix {p : UInt8 → Bool} : ∀ {a b : List UInt8}, formP p (a ++ b) = true → formP p a = true
 | [], _, _ => rfl
 | x :: a, b, h => by
  rw [List.cons_append, formP, Bool.and_eq_true, Bool.and_eq_true] at h
  rw [formP, Bool.and_eq_true, Bool.and_eq_true]
  refine ⟨⟨?_, h.1.2⟩, formP_prefix h.2⟩
  have h1 := h.1.1
  rw [List.contains_append] at h1
  simp at h1 ⊢
  exact h1.1

theorem formP_bad {p : UInt8 → Bool} {l : List UInt8} {k : Nat} {x : UInt8} (hx : l[k]? = some x) (h : (l.take k).contains x = true ∨ p x = false) : formP p l = false := by
 cases hf : formP p l with
 | false => rfl
 | true =>
  have h1 : formP p (l.take (k + 1)) = true := formP_prefix (b := l.drop (k + 1)) (by rw [List.take_append_drop]; exact hf)
  rw [List.take_add_one, hx, Option.toList_some, formP_snoc] at h1
  rcases h with h | h
  ·rw [h] at h1; simp at h1
  ·rw [h] at h1; simp at h1

theorem formP_step {p : UInt8 → Bool} {l : List UInt8} {k : Nat} {x : UInt8} (hx : l[k]? = some x) (h : formP p (l.take k) = true) (h1 : (l.take k).contains x = false) (h2 : p x = true) : formP p (l.take (k + 1)) = true := by
 rw [List.take_add_one, hx, Option.toList_some, formP_snoc, h, h1, h2]
 rfl

/-- Is a number within bounds? -/
def inB (n lo hi : Int) : Bool := decide (lo ≤ n) && decide (n ≤ hi)

/-- A bit of Has. -/
def hasB (f : Feat) (n : Int) : Bool := bits .and .i64 f.has n != 0

def hasBad (f : Feat) : Bool := decide (f.has < 0) || decide (4095 < f.has) || (hasB f 8 && !hasB f 4) || (hasB f 2048 && !hasB f 64)

def sumsBad (f : Feat) : Bool := bits .andNot .i64 f.sums 62 != 0

def rangeOk (f : Feat) : Bool := inB f.prec 1 86400000000000 && inB f.maxName 1 255 && inB f.maxPath f.maxName 1024 && inB f.maxSize 0 1048576 && inB f.page 1 1000 && inB f.partSize 1 (max f.maxSize 1)

/-- What is wrong with features. -/
def featErr (f : Feat) : Int := if hasBad f || !formP okF f.forbid.data.toList then 6 else if sumsBad f then 5 else if rangeOk f then 0 else 7

end Wh
