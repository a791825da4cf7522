/-
  sums: the small methods of the three engines, newEngine.
-/
import Derived.Test.YtmafnjapailliaaGreatDoorSw5
import Derived.Deep.AppendLies
namespace Wh.Sha
/-- All whole pieces of a text stirred in by f, and what is left. -/
def goF (f : List W → List UInt8 → List W) (h : List W) (t : List UInt8) : List W × List UInt8 :=
  if _h : t.length < 64 then (h, t) else goF f (f h (t.take 64)) (t.drop 64)
termination_by t.length
decreasing_by simp; omega
variable {f : List W → List UInt8 → List W}
theorem goF_few {h : List W} {t : List UInt8} (ht : t.length < 64) : goF f h t = (h, t) := by rw [goF, dif_pos ht]
theorem goF_more {h : List W} {t : List UInt8} (ht : 64 ≤ t.length) : goF f h t = goF f (f h (t.take 64)) (t.drop 64) := by rw [goF, dif_neg (by omega)]
theorem goF_piece {h : List W} {r t : List UInt8} (hr : r.length = 64) : goF f h (r ++ t) = goF f (f h r) t := by
  rw [goF_more (by simp; omega), List.take_append_of_le_length (by omega), List.take_of_length_le (by omega), List.drop_append_of_le_length (by omega), List.drop_of_length_le (by omega), List.nil_append]
theorem goF_append (n : Nat) : ∀ (h : List W) (t u : List UInt8), t.length ≤ n → goF f h (t ++ u) = goF f (goF f h t).1 ((goF f h t).2 ++ u) := by
  induction n with
  | zero =>
    intro h t u ht
    rw [goF_few (h := h) (t := t) (by omega)]
  | succ n ih =>
    intro h t u ht
    by_cases hl : t.length < 64
    · rw [goF_few (h := h) (t := t) hl]
    · have e : t = t.take 64 ++ t.drop 64 := (List.take_append_drop 64 t).symm
      have h1 : (t.take 64).length = 64 := by simp; omega
      rw [goF_more (h := h) (t := t) (by omega), ← ih _ _ _ (by simp; omega)]
      conv => lhs; rw [e, List.append_assoc]
      rw [goF_piece h1]
theorem goF_rest (n : Nat) : ∀ (h : List W) (t : List UInt8), t.length ≤ n → (goF f h t).2.length = t.length % 64 := by
  induction n with
  | zero => intro h t ht; rw [goF_few (by omega)]; simp; omega
  | succ n ih =>
    intro h t ht
    by_cases hl : t.length < 64
    · rw [goF_few hl]
      exact (Nat.mod_eq_of_lt hl).symm
    · rw [goF_more (by omega), ih _ _ (by simp; omega)]
      simp
      omega
end Wh.Sha
namespace Go.Proofs.YtmafnjapailliaaGreatDoor
open Go.RowKit Wh.Sha

theorem elem_word : ElemOk Tryz.prog 248 199 (.int .u32 0) 4 := by
  obtain ⟨i0, hi, hz0, hz1, hz2⟩ := info_parts (show (Tryz.prog.info? 199).map (fun i => (i.zero, i.size, i.bytes)) = some (some (.int .u32 0), 1, 4) by kernel_rfl)
  exact ⟨i0, Tryz.underlying248, hi, hz0, hz1, hz2, rfl⟩
theorem one_words (ws : List W) : ∀ u ∈ ws.map vw, u.oneCell' = true := by
  intro u hu
  obtain ⟨a, _, rfl⟩ := List.mem_map.1 hu
  rfl

theorem md5_little (ge : Nat) (w : World) : Calls Tryz.prog 362 #[.pointer (some ⟨ge, 0, none⟩)] w fun e w' => e = .returned (.bool true) ∧ w' = w := by
  go_enter Tryz.func362, Tryz.ntmps362
  go_wp2_with fail
  go_ret
  exact ⟨rfl, rfl⟩
set_option maxHeartbeats 1000000 in
theorem md5_copied (ge : Nat) (ws : List W) (w : World) (hE : WordsAt w ge ws 375) (hl : ws.length = 4) :
    Calls Tryz.prog 361 #[.pointer (some ⟨ge, 0, none⟩)] w fun e w' => e = .returned (.iface 372 (.pointer (some ⟨w.heap.size, 0, none⟩))) ∧ w' = w.alloc (.cells (ws.map vw).toArray 375) := by
  obtain ⟨x0, x1, x2, x3, rfl⟩ : ∃ x0 x1 x2 x3, ws = [x0, x1, x2, x3] := by
    match ws, hl with
    | [x0, x1, x2, x3], _ => exact ⟨x0, x1, x2, x3, rfl⟩
  have c0 : w.cell? ⟨ge, 0, none⟩ = some (vw x0) := hE.cell (i := 0) (show 0 < 4 by decide)
  have c1 : w.cell? ⟨ge, 1, none⟩ = some (vw x1) := hE.cell (i := 1) (show 1 < 4 by decide)
  have c2 : w.cell? ⟨ge, 2, none⟩ = some (vw x2) := hE.cell (i := 2) (show 2 < 4 by decide)
  have c3 : w.cell? ⟨ge, 3, none⟩ = some (vw x3) := hE.cell (i := 3) (show 3 < 4 by decide)
  clear hE hl
  go_enter Tryz.func361, Tryz.ntmps361
  go_wp2_with fail
  go_ret
  exact ⟨rfl, rfl⟩
set_option maxHeartbeats 1000000 in
theorem md5_words (ge : Nat) (ws : List W) (w : World) (hE : WordsAt w ge ws 375) (hl : ws.length = 4) :
    Calls Tryz.prog 365 #[.pointer (some ⟨ge, 0, none⟩)] w fun e w' => ∃ g cap, e = .returned (.slice (some ⟨g, 0, none⟩) 4 cap) ∧ Holds w' (some ⟨g, 0, none⟩) (ws.map vw) ∧ Below w.heap.size w w' := by
  have HE := Lib.hid hE
  have HL := Lib.hid hl
  clear hE hl
  obtain ⟨i0, ht, hi, hz0, hz1, hz2, hz3⟩ := elem_word
  have HA := Lib.hid (And.intro ht (And.intro hi (And.intro hz0 (And.intro hz1 (And.intro hz2 hz3)))))
  clear ht hi hz0 hz1 hz2 hz3
  go_enter Tryz.func365, Tryz.ntmps365
  go_upto_region 1 with fail
  apply wp_region_lit
  refine wpList_val rfl (v := ?_) ?_ ?_
  rotate_left 1
  · first | (go_simp <;> with_reducible rfl)
  try simp only [Act.put, List.setIfInBounds_toArray, List.set_cons_zero, List.set_cons_succ]
  refine wpList_val rfl (v := ?_) ?_ ?_
  rotate_left 1
  · first | (go_simp <;> with_reducible rfl)
  try simp only [Act.put, List.setIfInBounds_toArray, List.set_cons_zero, List.set_cons_succ]
  refine wpList_val rfl (v := ?_) ?_ ?_
  rotate_left 1
  · first | (go_simp <;> with_reducible rfl)
  try simp only [Act.put, List.setIfInBounds_toArray, List.set_cons_zero, List.set_cons_succ]
  refine wpList_val rfl (v := ?_) ?_ ?_
  rotate_left 1
  · first | (go_simp <;> with_reducible rfl)
  try simp only [Act.put, List.setIfInBounds_toArray, List.set_cons_zero, List.set_cons_succ]
  refine wpList_append_lies _ rfl _ _ 248 rfl w.heap.size 199 i0 (.int .u32 0) 1 4 HA.out.1 HA.out.2.1 HA.out.2.2.1 HA.out.2.2.2.1 HA.out.2.2.2.2.1 HA.out.2.2.2.2.2 (by decide) (.slice none 0 0) 0 [] rfl ⟨rfl, .inl ⟨rfl, rfl⟩⟩ ⟨ge, 0, none⟩ 4 4 (ws.map vw) rfl (by simp [HL.out]) (World.news_of_block HE.out) (one_words ws) (by decide) (by decide) (by decide) (Nat.le_refl _) _ rfl ?_
  intro g cap w' hown hgrow hat hlt
  have HO := Lib.hid hown
  have HG := Lib.hid ((Below.refl w.heap.size w).grown hgrow (Nat.le_refl _) (fun k hk => by cases hk))
  clear hown hgrow hat hlt
  try simp only [Act.put, List.setIfInBounds_toArray, List.set_cons_zero, List.set_cons_succ]
  go_wp2_with fail
  go_ret
  exact ⟨g, cap, rfl, own_holds HO.out, HG.out⟩

theorem sha1_little (ge : Nat) (w : World) : Calls Tryz.prog 368 #[.pointer (some ⟨ge, 0, none⟩)] w fun e w' => e = .returned (.bool false) ∧ w' = w := by
  go_enter Tryz.func368, Tryz.ntmps368
  go_wp2_with fail
  go_ret
  exact ⟨rfl, rfl⟩
set_option maxHeartbeats 1000000 in
theorem sha1_copied (ge : Nat) (ws : List W) (w : World) (hE : WordsAt w ge ws 379) (hl : ws.length = 5) :
    Calls Tryz.prog 367 #[.pointer (some ⟨ge, 0, none⟩)] w fun e w' => e = .returned (.iface 376 (.pointer (some ⟨w.heap.size, 0, none⟩))) ∧ w' = w.alloc (.cells (ws.map vw).toArray 379) := by
  obtain ⟨x0, x1, x2, x3, x4, rfl⟩ : ∃ x0 x1 x2 x3 x4, ws = [x0, x1, x2, x3, x4] := by
    match ws, hl with
    | [x0, x1, x2, x3, x4], _ => exact ⟨x0, x1, x2, x3, x4, rfl⟩
  have c0 : w.cell? ⟨ge, 0, none⟩ = some (vw x0) := hE.cell (i := 0) (show 0 < 5 by decide)
  have c1 : w.cell? ⟨ge, 1, none⟩ = some (vw x1) := hE.cell (i := 1) (show 1 < 5 by decide)
  have c2 : w.cell? ⟨ge, 2, none⟩ = some (vw x2) := hE.cell (i := 2) (show 2 < 5 by decide)
  have c3 : w.cell? ⟨ge, 3, none⟩ = some (vw x3) := hE.cell (i := 3) (show 3 < 5 by decide)
  have c4 : w.cell? ⟨ge, 4, none⟩ = some (vw x4) := hE.cell (i := 4) (show 4 < 5 by decide)
  clear hE hl
  go_enter Tryz.func367, Tryz.ntmps367
  go_wp2_with fail
  go_ret
  exact ⟨rfl, rfl⟩
set_option maxHeartbeats 1000000 in
theorem sha1_words (ge : Nat) (ws : List W) (w : World) (hE : WordsAt w ge ws 379) (hl : ws.length = 5) :
    Calls Tryz.prog 371 #[.pointer (some ⟨ge, 0, none⟩)] w fun e w' => ∃ g cap, e = .returned (.slice (some ⟨g, 0, none⟩) 5 cap) ∧ Holds w' (some ⟨g, 0, none⟩) (ws.map vw) ∧ Below w.heap.size w w' := by
  have HE := Lib.hid hE
  have HL := Lib.hid hl
  clear hE hl
  obtain ⟨i0, ht, hi, hz0, hz1, hz2, hz3⟩ := elem_word
  have HA := Lib.hid (And.intro ht (And.intro hi (And.intro hz0 (And.intro hz1 (And.intro hz2 hz3)))))
  clear ht hi hz0 hz1 hz2 hz3
  go_enter Tryz.func371, Tryz.ntmps371
  go_upto_region 1 with fail
  apply wp_region_lit
  refine wpList_val rfl (v := ?_) ?_ ?_
  rotate_left 1
  · first | (go_simp <;> with_reducible rfl)
  try simp only [Act.put, List.setIfInBounds_toArray, List.set_cons_zero, List.set_cons_succ]
  refine wpList_val rfl (v := ?_) ?_ ?_
  rotate_left 1
  · first | (go_simp <;> with_reducible rfl)
  try simp only [Act.put, List.setIfInBounds_toArray, List.set_cons_zero, List.set_cons_succ]
  refine wpList_val rfl (v := ?_) ?_ ?_
  rotate_left 1
  · first | (go_simp <;> with_reducible rfl)
  try simp only [Act.put, List.setIfInBounds_toArray, List.set_cons_zero, List.set_cons_succ]
  refine wpList_val rfl (v := ?_) ?_ ?_
  rotate_left 1
  · first | (go_simp <;> with_reducible rfl)
  try simp only [Act.put, List.setIfInBounds_toArray, List.set_cons_zero, List.set_cons_succ]
  refine wpList_append_lies _ rfl _ _ 248 rfl w.heap.size 199 i0 (.int .u32 0) 1 4 HA.out.1 HA.out.2.1 HA.out.2.2.1 HA.out.2.2.2.1 HA.out.2.2.2.2.1 HA.out.2.2.2.2.2 (by decide) (.slice none 0 0) 0 [] rfl ⟨rfl, .inl ⟨rfl, rfl⟩⟩ ⟨ge, 0, none⟩ 5 5 (ws.map vw) rfl (by simp [HL.out]) (World.news_of_block HE.out) (one_words ws) (by decide) (by decide) (by decide) (Nat.le_refl _) _ rfl ?_
  intro g cap w' hown hgrow hat hlt
  have HO := Lib.hid hown
  have HG := Lib.hid ((Below.refl w.heap.size w).grown hgrow (Nat.le_refl _) (fun k hk => by cases hk))
  clear hown hgrow hat hlt
  try simp only [Act.put, List.setIfInBounds_toArray, List.set_cons_zero, List.set_cons_succ]
  go_wp2_with fail
  go_ret
  exact ⟨g, cap, rfl, own_holds HO.out, HG.out⟩

theorem sha256_little (ge : Nat) (w : World) : Calls Tryz.prog 374 #[.pointer (some ⟨ge, 0, none⟩)] w fun e w' => e = .returned (.bool false) ∧ w' = w := by
  go_enter Tryz.func374, Tryz.ntmps374
  go_wp2_with fail
  go_ret
  exact ⟨rfl, rfl⟩
set_option maxHeartbeats 1000000 in
theorem sha256_copied (ge : Nat) (ws : List W) (w : World) (hE : WordsAt w ge ws 383) (hl : ws.length = 8) :
    Calls Tryz.prog 373 #[.pointer (some ⟨ge, 0, none⟩)] w fun e w' => e = .returned (.iface 380 (.pointer (some ⟨w.heap.size, 0, none⟩))) ∧ w' = w.alloc (.cells (ws.map vw).toArray 383) := by
  obtain ⟨x0, x1, x2, x3, x4, x5, x6, x7, rfl⟩ : ∃ x0 x1 x2 x3 x4 x5 x6 x7, ws = [x0, x1, x2, x3, x4, x5, x6, x7] := by
    match ws, hl with
    | [x0, x1, x2, x3, x4, x5, x6, x7], _ => exact ⟨x0, x1, x2, x3, x4, x5, x6, x7, rfl⟩
  have c0 : w.cell? ⟨ge, 0, none⟩ = some (vw x0) := hE.cell (i := 0) (show 0 < 8 by decide)
  have c1 : w.cell? ⟨ge, 1, none⟩ = some (vw x1) := hE.cell (i := 1) (show 1 < 8 by decide)
  have c2 : w.cell? ⟨ge, 2, none⟩ = some (vw x2) := hE.cell (i := 2) (show 2 < 8 by decide)
  have c3 : w.cell? ⟨ge, 3, none⟩ = some (vw x3) := hE.cell (i := 3) (show 3 < 8 by decide)
  have c4 : w.cell? ⟨ge, 4, none⟩ = some (vw x4) := hE.cell (i := 4) (show 4 < 8 by decide)
  have c5 : w.cell? ⟨ge, 5, none⟩ = some (vw x5) := hE.cell (i := 5) (show 5 < 8 by decide)
  have c6 : w.cell? ⟨ge, 6, none⟩ = some (vw x6) := hE.cell (i := 6) (show 6 < 8 by decide)
  have c7 : w.cell? ⟨ge, 7, none⟩ = some (vw x7) := hE.cell (i := 7) (show 7 < 8 by decide)
  clear hE hl
  go_enter Tryz.func373, Tryz.ntmps373
  go_wp2_with fail
  go_ret
  exact ⟨rfl, rfl⟩
set_option maxHeartbeats 1000000 in
theorem sha256_words (ge : Nat) (ws : List W) (w : World) (hE : WordsAt w ge ws 383) (hl : ws.length = 8) :
    Calls Tryz.prog 377 #[.pointer (some ⟨ge, 0, none⟩)] w fun e w' => ∃ g cap, e = .returned (.slice (some ⟨g, 0, none⟩) 8 cap) ∧ Holds w' (some ⟨g, 0, none⟩) (ws.map vw) ∧ Below w.heap.size w w' := by
  have HE := Lib.hid hE
  have HL := Lib.hid hl
  clear hE hl
  obtain ⟨i0, ht, hi, hz0, hz1, hz2, hz3⟩ := elem_word
  have HA := Lib.hid (And.intro ht (And.intro hi (And.intro hz0 (And.intro hz1 (And.intro hz2 hz3)))))
  clear ht hi hz0 hz1 hz2 hz3
  go_enter Tryz.func377, Tryz.ntmps377
  go_upto_region 1 with fail
  apply wp_region_lit
  refine wpList_val rfl (v := ?_) ?_ ?_
  rotate_left 1
  · first | (go_simp <;> with_reducible rfl)
  try simp only [Act.put, List.setIfInBounds_toArray, List.set_cons_zero, List.set_cons_succ]
  refine wpList_val rfl (v := ?_) ?_ ?_
  rotate_left 1
  · first | (go_simp <;> with_reducible rfl)
  try simp only [Act.put, List.setIfInBounds_toArray, List.set_cons_zero, List.set_cons_succ]
  refine wpList_val rfl (v := ?_) ?_ ?_
  rotate_left 1
  · first | (go_simp <;> with_reducible rfl)
  try simp only [Act.put, List.setIfInBounds_toArray, List.set_cons_zero, List.set_cons_succ]
  refine wpList_val rfl (v := ?_) ?_ ?_
  rotate_left 1
  · first | (go_simp <;> with_reducible rfl)
  try simp only [Act.put, List.setIfInBounds_toArray, List.set_cons_zero, List.set_cons_succ]
  refine wpList_append_lies _ rfl _ _ 248 rfl w.heap.size 199 i0 (.int .u32 0) 1 4 HA.out.1 HA.out.2.1 HA.out.2.2.1 HA.out.2.2.2.1 HA.out.2.2.2.2.1 HA.out.2.2.2.2.2 (by decide) (.slice none 0 0) 0 [] rfl ⟨rfl, .inl ⟨rfl, rfl⟩⟩ ⟨ge, 0, none⟩ 8 8 (ws.map vw) rfl (by simp [HL.out]) (World.news_of_block HE.out) (one_words ws) (by decide) (by decide) (by decide) (Nat.le_refl _) _ rfl ?_
  intro g cap w' hown hgrow hat hlt
  have HO := Lib.hid hown
  have HG := Lib.hid ((Below.refl w.heap.size w).grown hgrow (Nat.le_refl _) (fun k hk => by cases hk))
  clear hown hgrow hat hlt
  try simp only [Act.put, List.setIfInBounds_toArray, List.set_cons_zero, List.set_cons_succ]
  go_wp2_with fail
  go_ret
  exact ⟨g, cap, rfl, own_holds HO.out, HG.out⟩
end Go.Proofs.YtmafnjapailliaaGreatDoor
