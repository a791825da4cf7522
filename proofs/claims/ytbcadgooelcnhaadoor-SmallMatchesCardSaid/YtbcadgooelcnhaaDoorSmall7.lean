/-
  The law SmallMatches, walked: the law itself.
-/
import Derived.Test.YtbcadgooelcnhaaDoorSmall6
import Derived.Test.YtbcadgooelcnhaaDoorSeq
namespace Go.Proofs.YtbcadgooelcnhaaDoor
open Go.RowKit

set_option maxHeartbeats 4000000 in
set_option maxRecDepth 100000 in
theorem smallMatches_path (f h : Wh.Feat) (a b : Int) (s t : ByteArray) (w : World) (hE : Env w) (hf : FeatOk f) (hh : FeatOk h) (ha : 0 ≤ a) (ha2 : a ≤ 9223372036854775807) (hb : 0 ≤ b) (hb2 : b ≤ 9223372036854775807)
    (hs : s.size ≤ 140737488351232) (ht : t.size ≤ 9223372036854775807) (h1 : Wh.featErr f = 0) (h2 : Wh.featErr h = 0) (hp : Wh.isPath s.data.toList = true) :
    Calls Tryd.prog 7 #[featVal f, featVal h, .int .i64 a, .int .i64 b, .string s, .string t] w fun e w' => e = .returned (.bool true) ∧ Below w.heap.size w w' := by
  obtain ⟨n1, n2, n3⟩ := sums_and hf hh h1 h2
  have hfo := (Wh.feat_right h1).1
  have hfl : f.forbid.size < 4294967281 := by have := Wh.forbid_len hfo; rw [Lib.size_eq]; omega
  have hfa := Wh.forbid_ascii hfo
  have HRf := Lib.hid (fun W => rightFeat_any f hf W)
  have HRh := Lib.hid (fun W => rightFeat_any h hh W)
  rw [h1] at HRf
  rw [h2] at HRh
  have HC1 := Lib.hid (fun W => common_any f h W n1 n2)
  have HC2 := Lib.hid (fun W => refCommon_any f h W n1 n2 n3)
  have HT1 := Lib.hid (fun W => sameTime_any a b f h W ha ha2 hb hb2)
  have HT2 := Lib.hid (fun W => refSameTime_any a b f h W ha ha2 hb hb2)
  have HS1 := Lib.hid (fun W => samePath_any f s t W (by omega) ht)
  have HS2 := Lib.hid (fun W => refSamePath_any f s t W (by omega) ht)
  have HPa := Lib.hid (fun W => partial_any s W hs)
  have HI1 := Lib.hid (fun W => isPartial_any s W (by omega))
  have HI2 := Lib.hid (fun W => refIsPartial_any s W (by omega))
  have HI3 := Lib.hid (fun W => isPartial_any (s ++ ⟨#[46, 119, 104, 126, 112, 97, 114, 116]⟩) W (by
    have e : (s ++ ⟨#[46, 119, 104, 126, 112, 97, 114, 116]⟩ : ByteArray).size = s.size + 8 := by simp [ByteArray.size_append]; rfl
    rw [e]; omega))
  rw [cat_suffix] at HI3
  obtain ⟨PS, hPS⟩ : ∃ PS : ByteArray, s ++ ⟨#[46, 119, 104, 126, 112, 97, 114, 116]⟩ = PS := ⟨_, rfl⟩
  rw [hPS] at HPa HI3
  have hadd : ∀ W : World, (Op.stringOp .add s ⟨#[46, 119, 104, 126, 112, 97, 114, 116]⟩).run Tryd.prog W = .ok (.string PS) W := fun W => by
    rw [run_string_add_sum W s ⟨#[46, 119, 104, 126, 112, 97, 114, 116]⟩ (by have e : (⟨#[46, 119, 104, 126, 112, 97, 114, 116]⟩ : ByteArray).size = 8 := rfl; rw [e]; omega), hPS]
  have HAdd := Lib.hid hadd
  clear hadd hPS
  have HIP := Lib.hid (fun W (hb : Below w.heap.size w W) => refIsPath_any s W (hE.under hb) (by omega))
  have HE := Lib.hid hE
  generalize Wh.leastN (both2 f h) = L at *
  generalize sameT a b f h = ST at *
  generalize sameP f s t = SP at *
  generalize Lib.hasSuffix s.data.toList [46, 119, 104, 126, 112, 97, 114, 116] = IP at *
  have HF1 : Hid (Wh.isPath s.data.toList = true → ∀ W, Below w.heap.size w W → Calls Tryd.prog 36 #[featVal f, .string s] W fun e w' => e = .returned (.bool (fitsB f s)) ∧ Below W.heap.size W w') := Lib.hid (fun hp W hb => planFits_any f s W (hE.under hb) (by simp [Wh.pathErr, hp]) hfl hfa)
  have HF2 : Hid (Wh.isPath s.data.toList = true → ∀ W, Below w.heap.size w W → Calls Tryd.prog 37 #[featVal f, .string s] W fun e w' => e = .returned (.bool (fitsB f s)) ∧ Below W.heap.size W w') := Lib.hid (fun hp W hb => refFits_any f s W (hE.under hb) (by simp [Wh.pathErr, hp]) hfl hfa)
  generalize fitsB f s = FB at *
  have hX1 := (featBox_new w f).under (bAlloc (Below.refl _ _) (featObj h))
  have hX2 := featBox_new (w.alloc (featObj f)) h
  have hbw : Below w.heap.size w ((w.alloc (featObj f)).alloc (featObj h)) := bAlloc (bAlloc (Below.refl _ _) _) _
  have hz : (w.alloc (featObj f)).heap.size = w.heap.size + 1 := by simp
  rw [hz] at hX2
  clear hz hE hf hh h1 h2 n1 n2 n3 hfo hfl hfa
  rw [hp] at HIP
  replace HF1 := Lib.hid (HF1.out hp)
  replace HF2 := Lib.hid (HF2.out hp)
  clear hp
  have hVF : Value.agg #[.int .i64 f.has, .int .i64 f.sums, .int .i64 f.prec, .int .i64 f.maxName, .int .i64 f.maxPath, .int .i64 f.maxSize, .int .i64 f.page, .int .i64 f.partSize, .string f.forbid] = featVal f := rfl
  have hVH : Value.agg #[.int .i64 h.has, .int .i64 h.sums, .int .i64 h.prec, .int .i64 h.maxName, .int .i64 h.maxPath, .int .i64 h.maxSize, .int .i64 h.page, .int .i64 h.partSize, .string h.forbid] = featVal h := rfl
  have HVF := Lib.hid hVF
  have HVH := Lib.hid hVH
  rw [← hVF, ← hVH]
  clear hVF hVH
  unfold featObj at *
  have HL := Lib.hid (fun W (hb : Below w.heap.size w W) => landed_any W (HE.out.under hb))
  go_enter Tryd.func7, Tryd.ntmps7
  go_upto_region 1 with fail
  generalize (w.alloc _).alloc _ = w2 at *
  have hVF := HVF.out
  have hVH := HVH.out
  simp only [hVF, hVH]
  have HX1 := Lib.hid (fun W (hb : Below w2.heap.size w2 W) => hX1.under hb)
  have HX2 := Lib.hid (fun W (hb : Below w2.heap.size w2 W) => hX2.under hb)
  clear hX1 hX2
  go_wp2_with fail
  refine (HL.out _ hbw).mono ?_
  rintro e w3 ⟨rfl, hbb⟩
  obtain ⟨a0, a1, a2, a3, a4, a5, a6, a7, a8, a9⟩ := HX1.out _ hbb
  obtain ⟨b0, b1, b2, b3, b4, b5, b6, b7, b8, b9⟩ := HX2.out _ hbb
  go_wp2_with fail
  refine (HRf.out _).mono ?_
  rintro e w4 ⟨rfl, hb4⟩
  clear a0 a1 a2 a3 a4 a5 a6 a7 a8 a9 b0 b1 b2 b3 b4 b5 b6 b7 b8 b9
  replace hbb := bTrans hbb hb4
  clear hb4
  obtain ⟨a0, a1, a2, a3, a4, a5, a6, a7, a8, a9⟩ := HX1.out _ hbb
  obtain ⟨b0, b1, b2, b3, b4, b5, b6, b7, b8, b9⟩ := HX2.out _ hbb
  go_wp2_with fail
  refine (HRh.out _).mono ?_
  rintro e w5 ⟨rfl, hb5⟩
  clear a0 a1 a2 a3 a4 a5 a6 a7 a8 a9 b0 b1 b2 b3 b4 b5 b6 b7 b8 b9
  replace hbb := bTrans hbb hb5
  clear hb5
  go_wp2_with fail
  simp only [List.append_eq, List.cons_append, List.nil_append]
  have hadd := HAdd.out
  have hS := dr2 hbb
  clear hbb
  refine wp_region_seq (Below w2.heap.size w2) [(0, true), (1, true), (3, true), (4, true), (2, false), (5, false), (6, true), (7, true), (8, true), (9, true), (10, true), (11, true), (13, true), (14, true), (15, true), (16, true), (12, false), (17, false), (18, true), (19, true), (20, true), (21, true), (22, true), (23, true), (25, true), (26, true), (27, true), (24, false), (28, false), (29, true), (30, true), (31, true), (32, true), (34, true), (35, true), (33, false), (36, true), (37, true), (38, true), (39, true), (41, true), (40, false), (42, false), (43, true), (44, true), (45, true), (46, true), (47, false), (48, false), (49, true), (50, true), (51, true), (52, false), (53, true), (54, true), (55, true), (56, true), (58, true), (59, true), (57, false), (60, false), (61, true), (62, true), (63, true), (64, true)] (by as_aux_lemma => kernel_rfl) (by as_aux_lemma => kernel_rfl) (by decide) (by as_aux_lemma => kernel_rfl) ?_ ?_
  · exact hS
  intro OPS HO
  refine seq_take (o := ⟨_, _, _, _, _, _⟩) (v := ?_) (by rw [HO.out]; rfl) (by rfl) ?_ ?_
  rotate_left 1
  · first | ((intro W _; go_simp) <;> with_reducible rfl) | (intro W hW; obtain ⟨a0, a1, a2, a3, a4, a5, a6, a7, a8, a9⟩ := HX1.out _ hW; obtain ⟨b0, b1, b2, b3, b4, b5, b6, b7, b8, b9⟩ := HX2.out _ hW; (go_simp <;> with_reducible rfl))
  try simp only [Act.put, List.setIfInBounds_toArray, List.set_cons_zero, List.set_cons_succ]
  refine seq_take (o := ⟨_, _, _, _, _, _⟩) (v := ?_) (by rw [HO.out]; rfl) (by rfl) ?_ ?_
  rotate_left 1
  · first | ((intro W _; go_simp) <;> with_reducible rfl) | (intro W hW; obtain ⟨a0, a1, a2, a3, a4, a5, a6, a7, a8, a9⟩ := HX1.out _ hW; obtain ⟨b0, b1, b2, b3, b4, b5, b6, b7, b8, b9⟩ := HX2.out _ hW; (go_simp <;> with_reducible rfl))
  try simp only [Act.put, List.setIfInBounds_toArray, List.set_cons_zero, List.set_cons_succ]
  refine seq_take (o := ⟨_, _, _, _, _, _⟩) (v := ?_) (by rw [HO.out]; rfl) (by rfl) ?_ ?_
  rotate_left 1
  · first | ((intro W _; go_simp) <;> with_reducible rfl) | (intro W hW; obtain ⟨a0, a1, a2, a3, a4, a5, a6, a7, a8, a9⟩ := HX1.out _ hW; obtain ⟨b0, b1, b2, b3, b4, b5, b6, b7, b8, b9⟩ := HX2.out _ hW; (go_simp <;> with_reducible rfl))
  try simp only [Act.put, List.setIfInBounds_toArray, List.set_cons_zero, List.set_cons_succ]
  refine seq_take (o := ⟨_, _, _, _, _, _⟩) (v := ?_) (by rw [HO.out]; rfl) (by rfl) ?_ ?_
  rotate_left 1
  · first | ((intro W _; go_simp) <;> with_reducible rfl) | (intro W hW; obtain ⟨a0, a1, a2, a3, a4, a5, a6, a7, a8, a9⟩ := HX1.out _ hW; obtain ⟨b0, b1, b2, b3, b4, b5, b6, b7, b8, b9⟩ := HX2.out _ hW; (go_simp <;> with_reducible rfl))
  try simp only [Act.put, List.setIfInBounds_toArray, List.set_cons_zero, List.set_cons_succ]
  refine seq_do (o := ⟨_, _, _, _, _, _⟩) (by rw [HO.out]; rfl) (by rfl) (fun K hK => ?_)
  go_wp2_with (go_at_call 26; refine (HC1.out _).mono ?_; rintro e wn ⟨rfl, hbn⟩; replace hS := bTrans hS hbn; clear hbn)
  refine hK.out _ _ hS (fun _ => ?_)
  clear hK K
  try simp only [Act.put, List.setIfInBounds_toArray, List.set_cons_zero, List.set_cons_succ]
  as_aux_lemma =>
   refine seq_do (o := ⟨_, _, _, _, _, _⟩) (by rw [HO.out]; rfl) (by rfl) (fun K hK => ?_)
   go_wp2_with (go_at_call 27; refine (HC2.out _).mono ?_; rintro e wn ⟨rfl, hbn⟩; replace hS := bTrans hS hbn; clear hbn)
   refine hK.out _ _ hS (fun _ => ?_)
   clear hK K
   try simp only [Act.put, List.setIfInBounds_toArray, List.set_cons_zero, List.set_cons_succ]
   as_aux_lemma =>
    refine seq_take (o := ⟨_, _, _, _, _, _⟩) (v := ?_) (by rw [HO.out]; rfl) (by rfl) ?_ ?_
    rotate_left 1
    · first | ((intro W _; go_simp) <;> with_reducible rfl) | (intro W hW; obtain ⟨a0, a1, a2, a3, a4, a5, a6, a7, a8, a9⟩ := HX1.out _ hW; obtain ⟨b0, b1, b2, b3, b4, b5, b6, b7, b8, b9⟩ := HX2.out _ hW; (go_simp <;> with_reducible rfl))
    try simp only [Act.put, List.setIfInBounds_toArray, List.set_cons_zero, List.set_cons_succ]
    refine seq_take (o := ⟨_, _, _, _, _, _⟩) (v := ?_) (by rw [HO.out]; rfl) (by rfl) ?_ ?_
    rotate_left 1
    · first | ((intro W _; go_simp) <;> with_reducible rfl) | (intro W hW; obtain ⟨a0, a1, a2, a3, a4, a5, a6, a7, a8, a9⟩ := HX1.out _ hW; obtain ⟨b0, b1, b2, b3, b4, b5, b6, b7, b8, b9⟩ := HX2.out _ hW; (go_simp <;> with_reducible rfl))
    try simp only [Act.put, List.setIfInBounds_toArray, List.set_cons_zero, List.set_cons_succ]
    refine seq_take (o := ⟨_, _, _, _, _, _⟩) (v := ?_) (by rw [HO.out]; rfl) (by as_aux_lemma => (rw [HO.out]; rfl)) ?_ ?_
    rotate_left 1
    · first | ((intro W _; go_simp) <;> with_reducible rfl) | (intro W hW; obtain ⟨a0, a1, a2, a3, a4, a5, a6, a7, a8, a9⟩ := HX1.out _ hW; obtain ⟨b0, b1, b2, b3, b4, b5, b6, b7, b8, b9⟩ := HX2.out _ hW; (go_simp <;> with_reducible rfl))
    try simp only [Act.put, List.setIfInBounds_toArray, List.set_cons_zero, List.set_cons_succ]
    refine seq_take (o := ⟨_, _, _, _, _, _⟩) (v := ?_) (by rw [HO.out]; rfl) (by as_aux_lemma => (rw [HO.out]; rfl)) ?_ ?_
    rotate_left 1
    · first | ((intro W _; go_simp) <;> with_reducible rfl) | (intro W hW; obtain ⟨a0, a1, a2, a3, a4, a5, a6, a7, a8, a9⟩ := HX1.out _ hW; obtain ⟨b0, b1, b2, b3, b4, b5, b6, b7, b8, b9⟩ := HX2.out _ hW; (go_simp <;> with_reducible rfl))
    try simp only [Act.put, List.setIfInBounds_toArray, List.set_cons_zero, List.set_cons_succ]
    refine seq_take (o := ⟨_, _, _, _, _, _⟩) (v := ?_) (by rw [HO.out]; rfl) (by as_aux_lemma => (rw [HO.out]; rfl)) ?_ ?_
    rotate_left 1
    · first | ((intro W _; go_simp) <;> with_reducible rfl) | (intro W hW; obtain ⟨a0, a1, a2, a3, a4, a5, a6, a7, a8, a9⟩ := HX1.out _ hW; obtain ⟨b0, b1, b2, b3, b4, b5, b6, b7, b8, b9⟩ := HX2.out _ hW; (go_simp <;> with_reducible rfl))
    try simp only [Act.put, List.setIfInBounds_toArray, List.set_cons_zero, List.set_cons_succ]
    refine seq_take (o := ⟨_, _, _, _, _, _⟩) (v := ?_) (by rw [HO.out]; rfl) (by as_aux_lemma => (rw [HO.out]; rfl)) ?_ ?_
    rotate_left 1
    · first | ((intro W _; go_simp) <;> with_reducible rfl) | (intro W hW; obtain ⟨a0, a1, a2, a3, a4, a5, a6, a7, a8, a9⟩ := HX1.out _ hW; obtain ⟨b0, b1, b2, b3, b4, b5, b6, b7, b8, b9⟩ := HX2.out _ hW; (go_simp <;> with_reducible rfl))
    try simp only [Act.put, List.setIfInBounds_toArray, List.set_cons_zero, List.set_cons_succ]
    refine seq_take (o := ⟨_, _, _, _, _, _⟩) (v := ?_) (by rw [HO.out]; rfl) (by as_aux_lemma => (rw [HO.out]; rfl)) ?_ ?_
    rotate_left 1
    · first | ((intro W _; go_simp) <;> with_reducible rfl) | (intro W hW; obtain ⟨a0, a1, a2, a3, a4, a5, a6, a7, a8, a9⟩ := HX1.out _ hW; obtain ⟨b0, b1, b2, b3, b4, b5, b6, b7, b8, b9⟩ := HX2.out _ hW; (go_simp <;> with_reducible rfl))
    try simp only [Act.put, List.setIfInBounds_toArray, List.set_cons_zero, List.set_cons_succ]
    refine seq_take (o := ⟨_, _, _, _, _, _⟩) (v := ?_) (by rw [HO.out]; rfl) (by as_aux_lemma => (rw [HO.out]; rfl)) ?_ ?_
    rotate_left 1
    · first | ((intro W _; go_simp) <;> with_reducible rfl) | (intro W hW; obtain ⟨a0, a1, a2, a3, a4, a5, a6, a7, a8, a9⟩ := HX1.out _ hW; obtain ⟨b0, b1, b2, b3, b4, b5, b6, b7, b8, b9⟩ := HX2.out _ hW; (go_simp <;> with_reducible rfl))
    try simp only [Act.put, List.setIfInBounds_toArray, List.set_cons_zero, List.set_cons_succ]
    refine seq_take (o := ⟨_, _, _, _, _, _⟩) (v := ?_) (by rw [HO.out]; rfl) (by as_aux_lemma => (rw [HO.out]; rfl)) ?_ ?_
    rotate_left 1
    · first | ((intro W _; go_simp) <;> with_reducible rfl) | (intro W hW; obtain ⟨a0, a1, a2, a3, a4, a5, a6, a7, a8, a9⟩ := HX1.out _ hW; obtain ⟨b0, b1, b2, b3, b4, b5, b6, b7, b8, b9⟩ := HX2.out _ hW; (go_simp <;> with_reducible rfl))
    try simp only [Act.put, List.setIfInBounds_toArray, List.set_cons_zero, List.set_cons_succ]
    refine seq_take (o := ⟨_, _, _, _, _, _⟩) (v := ?_) (by rw [HO.out]; rfl) (by as_aux_lemma => (rw [HO.out]; rfl)) ?_ ?_
    rotate_left 1
    · first | ((intro W _; go_simp) <;> with_reducible rfl) | (intro W hW; obtain ⟨a0, a1, a2, a3, a4, a5, a6, a7, a8, a9⟩ := HX1.out _ hW; obtain ⟨b0, b1, b2, b3, b4, b5, b6, b7, b8, b9⟩ := HX2.out _ hW; (go_simp <;> with_reducible rfl))
    try simp only [Act.put, List.setIfInBounds_toArray, List.set_cons_zero, List.set_cons_succ]
    refine seq_do (o := ⟨_, _, _, _, _, _⟩) (by rw [HO.out]; rfl) (by as_aux_lemma => (rw [HO.out]; rfl)) (fun K hK => ?_)
    go_wp2_with (go_at_call 28; refine (HT1.out _).mono ?_; rintro e wn ⟨rfl, hbn⟩; replace hS := bTrans hS hbn; clear hbn)
    refine hK.out _ _ hS (fun _ => ?_)
    clear hK K
    try simp only [Act.put, List.setIfInBounds_toArray, List.set_cons_zero, List.set_cons_succ]
    as_aux_lemma =>
     refine seq_do (o := ⟨_, _, _, _, _, _⟩) (by rw [HO.out]; rfl) (by as_aux_lemma => (rw [HO.out]; rfl)) (fun K hK => ?_)
     go_wp2_with (go_at_call 29; refine (HT2.out _).mono ?_; rintro e wn ⟨rfl, hbn⟩; replace hS := bTrans hS hbn; clear hbn)
     refine hK.out _ _ hS (fun _ => ?_)
     clear hK K
     try simp only [Act.put, List.setIfInBounds_toArray, List.set_cons_zero, List.set_cons_succ]
     as_aux_lemma =>
      refine seq_take (o := ⟨_, _, _, _, _, _⟩) (v := ?_) (by rw [HO.out]; rfl) (by as_aux_lemma => (rw [HO.out]; rfl)) ?_ ?_
      rotate_left 1
      · first | ((intro W _; go_simp) <;> with_reducible rfl) | (intro W hW; obtain ⟨a0, a1, a2, a3, a4, a5, a6, a7, a8, a9⟩ := HX1.out _ hW; obtain ⟨b0, b1, b2, b3, b4, b5, b6, b7, b8, b9⟩ := HX2.out _ hW; (go_simp <;> with_reducible rfl))
      try simp only [Act.put, List.setIfInBounds_toArray, List.set_cons_zero, List.set_cons_succ]
      refine seq_take (o := ⟨_, _, _, _, _, _⟩) (v := ?_) (by rw [HO.out]; rfl) (by rfl) ?_ ?_
      rotate_left 1
      · first | ((intro W _; go_simp) <;> with_reducible rfl) | (intro W hW; obtain ⟨a0, a1, a2, a3, a4, a5, a6, a7, a8, a9⟩ := HX1.out _ hW; obtain ⟨b0, b1, b2, b3, b4, b5, b6, b7, b8, b9⟩ := HX2.out _ hW; (go_simp <;> with_reducible rfl))
      try simp only [Act.put, List.setIfInBounds_toArray, List.set_cons_zero, List.set_cons_succ]
      refine seq_take (o := ⟨_, _, _, _, _, _⟩) (v := ?_) (by rw [HO.out]; rfl) (by rfl) ?_ ?_
      rotate_left 1
      · first | ((intro W _; go_simp) <;> with_reducible rfl) | (intro W hW; obtain ⟨a0, a1, a2, a3, a4, a5, a6, a7, a8, a9⟩ := HX1.out _ hW; obtain ⟨b0, b1, b2, b3, b4, b5, b6, b7, b8, b9⟩ := HX2.out _ hW; (go_simp <;> with_reducible rfl))
      try simp only [Act.put, List.setIfInBounds_toArray, List.set_cons_zero, List.set_cons_succ]
      refine seq_take (o := ⟨_, _, _, _, _, _⟩) (v := ?_) (by rw [HO.out]; rfl) (by as_aux_lemma => (rw [HO.out]; rfl)) ?_ ?_
      rotate_left 1
      · first | ((intro W _; go_simp) <;> with_reducible rfl) | (intro W hW; obtain ⟨a0, a1, a2, a3, a4, a5, a6, a7, a8, a9⟩ := HX1.out _ hW; obtain ⟨b0, b1, b2, b3, b4, b5, b6, b7, b8, b9⟩ := HX2.out _ hW; (go_simp <;> with_reducible rfl))
      try simp only [Act.put, List.setIfInBounds_toArray, List.set_cons_zero, List.set_cons_succ]
      refine seq_take (o := ⟨_, _, _, _, _, _⟩) (v := ?_) (by rw [HO.out]; rfl) (by as_aux_lemma => (rw [HO.out]; rfl)) ?_ ?_
      rotate_left 1
      · first | ((intro W _; go_simp) <;> with_reducible rfl) | (intro W hW; obtain ⟨a0, a1, a2, a3, a4, a5, a6, a7, a8, a9⟩ := HX1.out _ hW; obtain ⟨b0, b1, b2, b3, b4, b5, b6, b7, b8, b9⟩ := HX2.out _ hW; (go_simp <;> with_reducible rfl))
      try simp only [Act.put, List.setIfInBounds_toArray, List.set_cons_zero, List.set_cons_succ]
      refine seq_take (o := ⟨_, _, _, _, _, _⟩) (v := ?_) (by rw [HO.out]; rfl) (by as_aux_lemma => (rw [HO.out]; rfl)) ?_ ?_
      rotate_left 1
      · first | ((intro W _; go_simp) <;> with_reducible rfl) | (intro W hW; obtain ⟨a0, a1, a2, a3, a4, a5, a6, a7, a8, a9⟩ := HX1.out _ hW; obtain ⟨b0, b1, b2, b3, b4, b5, b6, b7, b8, b9⟩ := HX2.out _ hW; (go_simp <;> with_reducible rfl))
      try simp only [Act.put, List.setIfInBounds_toArray, List.set_cons_zero, List.set_cons_succ]
      refine seq_take (o := ⟨_, _, _, _, _, _⟩) (v := ?_) (by rw [HO.out]; rfl) (by as_aux_lemma => (rw [HO.out]; rfl)) ?_ ?_
      rotate_left 1
      · first | ((intro W _; go_simp) <;> with_reducible rfl) | (intro W hW; obtain ⟨a0, a1, a2, a3, a4, a5, a6, a7, a8, a9⟩ := HX1.out _ hW; obtain ⟨b0, b1, b2, b3, b4, b5, b6, b7, b8, b9⟩ := HX2.out _ hW; (go_simp <;> with_reducible rfl))
      try simp only [Act.put, List.setIfInBounds_toArray, List.set_cons_zero, List.set_cons_succ]
      refine seq_take (o := ⟨_, _, _, _, _, _⟩) (v := ?_) (by rw [HO.out]; rfl) (by as_aux_lemma => (rw [HO.out]; rfl)) ?_ ?_
      rotate_left 1
      · first | ((intro W _; go_simp) <;> with_reducible rfl) | (intro W hW; obtain ⟨a0, a1, a2, a3, a4, a5, a6, a7, a8, a9⟩ := HX1.out _ hW; obtain ⟨b0, b1, b2, b3, b4, b5, b6, b7, b8, b9⟩ := HX2.out _ hW; (go_simp <;> with_reducible rfl))
      try simp only [Act.put, List.setIfInBounds_toArray, List.set_cons_zero, List.set_cons_succ]
      refine seq_take (o := ⟨_, _, _, _, _, _⟩) (v := ?_) (by rw [HO.out]; rfl) (by as_aux_lemma => (rw [HO.out]; rfl)) ?_ ?_
      rotate_left 1
      · first | ((intro W _; go_simp) <;> with_reducible rfl) | (intro W hW; obtain ⟨a0, a1, a2, a3, a4, a5, a6, a7, a8, a9⟩ := HX1.out _ hW; obtain ⟨b0, b1, b2, b3, b4, b5, b6, b7, b8, b9⟩ := HX2.out _ hW; (go_simp <;> with_reducible rfl))
      try simp only [Act.put, List.setIfInBounds_toArray, List.set_cons_zero, List.set_cons_succ]
      refine seq_do (o := ⟨_, _, _, _, _, _⟩) (by rw [HO.out]; rfl) (by as_aux_lemma => (rw [HO.out]; rfl)) (fun K hK => ?_)
      go_wp2_with (go_at_call 30; refine (HS1.out _).mono ?_; rintro e wn ⟨rfl, hbn⟩; replace hS := bTrans hS hbn; clear hbn)
      refine hK.out _ _ hS (fun _ => ?_)
      clear hK K
      try simp only [Act.put, List.setIfInBounds_toArray, List.set_cons_zero, List.set_cons_succ]
      as_aux_lemma =>
       refine seq_do (o := ⟨_, _, _, _, _, _⟩) (by rw [HO.out]; rfl) (by as_aux_lemma => (rw [HO.out]; rfl)) (fun K hK => ?_)
       go_wp2_with (go_at_call 31; refine (HS2.out _).mono ?_; rintro e wn ⟨rfl, hbn⟩; replace hS := bTrans hS hbn; clear hbn)
       refine hK.out _ _ hS (fun _ => ?_)
       clear hK K
       try simp only [Act.put, List.setIfInBounds_toArray, List.set_cons_zero, List.set_cons_succ]
       as_aux_lemma =>
        refine seq_take (o := ⟨_, _, _, _, _, _⟩) (v := ?_) (by rw [HO.out]; rfl) (by as_aux_lemma => (rw [HO.out]; rfl)) ?_ ?_
        rotate_left 1
        · first | ((intro W _; go_simp) <;> with_reducible rfl) | (intro W hW; obtain ⟨a0, a1, a2, a3, a4, a5, a6, a7, a8, a9⟩ := HX1.out _ hW; obtain ⟨b0, b1, b2, b3, b4, b5, b6, b7, b8, b9⟩ := HX2.out _ hW; (go_simp <;> with_reducible rfl))
        try simp only [Act.put, List.setIfInBounds_toArray, List.set_cons_zero, List.set_cons_succ]
        refine seq_take (o := ⟨_, _, _, _, _, _⟩) (v := ?_) (by rw [HO.out]; rfl) (by rfl) ?_ ?_
        rotate_left 1
        · first | ((intro W _; go_simp) <;> with_reducible rfl) | (intro W hW; obtain ⟨a0, a1, a2, a3, a4, a5, a6, a7, a8, a9⟩ := HX1.out _ hW; obtain ⟨b0, b1, b2, b3, b4, b5, b6, b7, b8, b9⟩ := HX2.out _ hW; (go_simp <;> with_reducible rfl))
        try simp only [Act.put, List.setIfInBounds_toArray, List.set_cons_zero, List.set_cons_succ]
        refine seq_take (o := ⟨_, _, _, _, _, _⟩) (v := ?_) (by rw [HO.out]; rfl) (by rfl) ?_ ?_
        rotate_left 1
        · first | ((intro W _; go_simp) <;> with_reducible rfl) | (intro W hW; obtain ⟨a0, a1, a2, a3, a4, a5, a6, a7, a8, a9⟩ := HX1.out _ hW; obtain ⟨b0, b1, b2, b3, b4, b5, b6, b7, b8, b9⟩ := HX2.out _ hW; (go_simp <;> with_reducible rfl))
        try simp only [Act.put, List.setIfInBounds_toArray, List.set_cons_zero, List.set_cons_succ]
        refine seq_take (o := ⟨_, _, _, _, _, _⟩) (v := ?_) (by rw [HO.out]; rfl) (by as_aux_lemma => (rw [HO.out]; rfl)) ?_ ?_
        rotate_left 1
        · first | ((intro W _; go_simp) <;> with_reducible rfl) | (intro W hW; obtain ⟨a0, a1, a2, a3, a4, a5, a6, a7, a8, a9⟩ := HX1.out _ hW; obtain ⟨b0, b1, b2, b3, b4, b5, b6, b7, b8, b9⟩ := HX2.out _ hW; (go_simp <;> with_reducible rfl))
        try simp only [Act.put, List.setIfInBounds_toArray, List.set_cons_zero, List.set_cons_succ]
        refine seq_take (o := ⟨_, _, _, _, _, _⟩) (v := ?_) (by rw [HO.out]; rfl) (by as_aux_lemma => (rw [HO.out]; rfl)) ?_ ?_
        rotate_left 1
        · first | ((intro W _; go_simp) <;> with_reducible rfl) | (intro W hW; obtain ⟨a0, a1, a2, a3, a4, a5, a6, a7, a8, a9⟩ := HX1.out _ hW; obtain ⟨b0, b1, b2, b3, b4, b5, b6, b7, b8, b9⟩ := HX2.out _ hW; (go_simp <;> with_reducible rfl))
        try simp only [Act.put, List.setIfInBounds_toArray, List.set_cons_zero, List.set_cons_succ]
        refine seq_take (o := ⟨_, _, _, _, _, _⟩) (v := ?_) (by rw [HO.out]; rfl) (by as_aux_lemma => (rw [HO.out]; rfl)) ?_ ?_
        rotate_left 1
        · first | ((intro W _; go_simp) <;> with_reducible rfl) | (intro W hW; obtain ⟨a0, a1, a2, a3, a4, a5, a6, a7, a8, a9⟩ := HX1.out _ hW; obtain ⟨b0, b1, b2, b3, b4, b5, b6, b7, b8, b9⟩ := HX2.out _ hW; (go_simp <;> with_reducible rfl))
        try simp only [Act.put, List.setIfInBounds_toArray, List.set_cons_zero, List.set_cons_succ]
        refine seq_do (o := ⟨_, _, _, _, _, _⟩) (by rw [HO.out]; rfl) (by as_aux_lemma => (rw [HO.out]; rfl)) (fun K hK => ?_)
        go_wp2_with (go_at_call 32; refine (HPa.out _).mono ?_; rintro e wn ⟨rfl, hwn⟩; subst wn)
        refine hK.out _ _ hS (fun _ => ?_)
        clear hK K
        try simp only [Act.put, List.setIfInBounds_toArray, List.set_cons_zero, List.set_cons_succ]
        as_aux_lemma =>
         refine seq_take (o := ⟨_, _, _, _, _, _⟩) (v := ?_) (by rw [HO.out]; rfl) (by as_aux_lemma => (rw [HO.out]; rfl)) ?_ ?_
         rotate_left 1
         · first | ((intro W _; go_simp) <;> with_reducible rfl) | (intro W hW; obtain ⟨a0, a1, a2, a3, a4, a5, a6, a7, a8, a9⟩ := HX1.out _ hW; obtain ⟨b0, b1, b2, b3, b4, b5, b6, b7, b8, b9⟩ := HX2.out _ hW; (go_simp <;> with_reducible rfl))
         try simp only [Act.put, List.setIfInBounds_toArray, List.set_cons_zero, List.set_cons_succ]
         refine seq_take (o := ⟨_, _, _, _, _, _⟩) (v := ?_) (by rw [HO.out]; rfl) (by rfl) ?_ ?_
         rotate_left 1
         · first | ((intro W _; go_simp) <;> with_reducible rfl) | (intro W hW; obtain ⟨a0, a1, a2, a3, a4, a5, a6, a7, a8, a9⟩ := HX1.out _ hW; obtain ⟨b0, b1, b2, b3, b4, b5, b6, b7, b8, b9⟩ := HX2.out _ hW; (go_simp <;> with_reducible rfl))
         try simp only [Act.put, List.setIfInBounds_toArray, List.set_cons_zero, List.set_cons_succ]
         refine seq_take (o := ⟨_, _, _, _, _, _⟩) (v := ?_) (by rw [HO.out]; rfl) (by rfl) ?_ ?_
         rotate_left 1
         · first | ((intro W _; go_simp) <;> with_reducible rfl) | (intro W hW; obtain ⟨a0, a1, a2, a3, a4, a5, a6, a7, a8, a9⟩ := HX1.out _ hW; obtain ⟨b0, b1, b2, b3, b4, b5, b6, b7, b8, b9⟩ := HX2.out _ hW; (go_simp <;> with_reducible rfl))
         try simp only [Act.put, List.setIfInBounds_toArray, List.set_cons_zero, List.set_cons_succ]
         refine seq_take (o := ⟨_, _, _, _, _, _⟩) (v := ?_) (by rw [HO.out]; rfl) (by as_aux_lemma => (rw [HO.out]; rfl)) ?_ ?_
         rotate_left 1
         · first | ((intro W _; go_simp) <;> with_reducible rfl) | (intro W hW; obtain ⟨a0, a1, a2, a3, a4, a5, a6, a7, a8, a9⟩ := HX1.out _ hW; obtain ⟨b0, b1, b2, b3, b4, b5, b6, b7, b8, b9⟩ := HX2.out _ hW; (go_simp <;> with_reducible rfl))
         try simp only [Act.put, List.setIfInBounds_toArray, List.set_cons_zero, List.set_cons_succ]
         refine seq_take (o := ⟨_, _, _, _, _, _⟩) (v := ?_) (by rw [HO.out]; rfl) (by as_aux_lemma => (rw [HO.out]; rfl)) ?_ ?_
         rotate_left 1
         · first | ((intro W _; go_simp) <;> with_reducible rfl) | (intro W hW; obtain ⟨a0, a1, a2, a3, a4, a5, a6, a7, a8, a9⟩ := HX1.out _ hW; obtain ⟨b0, b1, b2, b3, b4, b5, b6, b7, b8, b9⟩ := HX2.out _ hW; (go_simp <;> with_reducible rfl))
         try simp only [Act.put, List.setIfInBounds_toArray, List.set_cons_zero, List.set_cons_succ]
         refine seq_do (o := ⟨_, _, _, _, _, _⟩) (by rw [HO.out]; rfl) (by as_aux_lemma => (rw [HO.out]; rfl)) (fun K hK => ?_)
         go_wp2_with (go_at_call 33; refine (HI1.out _).mono ?_; rintro e wn ⟨rfl, hwn⟩; subst wn)
         refine hK.out _ _ hS (fun _ => ?_)
         clear hK K
         try simp only [Act.put, List.setIfInBounds_toArray, List.set_cons_zero, List.set_cons_succ]
         as_aux_lemma =>
          refine seq_do (o := ⟨_, _, _, _, _, _⟩) (by rw [HO.out]; rfl) (by as_aux_lemma => (rw [HO.out]; rfl)) (fun K hK => ?_)
          go_wp2_with (go_at_call 34; refine (HI2.out _).mono ?_; rintro e wn ⟨rfl, hwn⟩; subst wn)
          refine hK.out _ _ hS (fun _ => ?_)
          clear hK K
          try simp only [Act.put, List.setIfInBounds_toArray, List.set_cons_zero, List.set_cons_succ]
          as_aux_lemma =>
           refine seq_take (o := ⟨_, _, _, _, _, _⟩) (v := ?_) (by rw [HO.out]; rfl) (by as_aux_lemma => (rw [HO.out]; rfl)) ?_ ?_
           rotate_left 1
           · first | ((intro W _; go_simp) <;> with_reducible rfl) | (intro W hW; obtain ⟨a0, a1, a2, a3, a4, a5, a6, a7, a8, a9⟩ := HX1.out _ hW; obtain ⟨b0, b1, b2, b3, b4, b5, b6, b7, b8, b9⟩ := HX2.out _ hW; (go_simp <;> with_reducible rfl))
           try simp only [Act.put, List.setIfInBounds_toArray, List.set_cons_zero, List.set_cons_succ]
           refine seq_take (o := ⟨_, _, _, _, _, _⟩) (v := ?_) (by rw [HO.out]; rfl) (by rfl) ?_ ?_
           rotate_left 1
           · first | ((intro W _; go_simp) <;> with_reducible rfl) | (intro W hW; obtain ⟨a0, a1, a2, a3, a4, a5, a6, a7, a8, a9⟩ := HX1.out _ hW; obtain ⟨b0, b1, b2, b3, b4, b5, b6, b7, b8, b9⟩ := HX2.out _ hW; (go_simp <;> with_reducible rfl))
           try simp only [Act.put, List.setIfInBounds_toArray, List.set_cons_zero, List.set_cons_succ]
           refine seq_take (o := ⟨_, _, _, _, _, _⟩) (v := ?_) (by rw [HO.out]; rfl) (by rfl) ?_ ?_
           rotate_left 1
           · first | ((intro W _; go_simp) <;> with_reducible rfl) | (intro W hW; obtain ⟨a0, a1, a2, a3, a4, a5, a6, a7, a8, a9⟩ := HX1.out _ hW; obtain ⟨b0, b1, b2, b3, b4, b5, b6, b7, b8, b9⟩ := HX2.out _ hW; (go_simp <;> with_reducible rfl))
           try simp only [Act.put, List.setIfInBounds_toArray, List.set_cons_zero, List.set_cons_succ]
           refine seq_take (o := ⟨_, _, _, _, _, _⟩) (v := ?_) (by rw [HO.out]; rfl) (by as_aux_lemma => (rw [HO.out]; rfl)) ?_ ?_
           rotate_left 1
           · first | ((intro W _; go_simp) <;> with_reducible rfl) | (intro W hW; obtain ⟨a0, a1, a2, a3, a4, a5, a6, a7, a8, a9⟩ := HX1.out _ hW; obtain ⟨b0, b1, b2, b3, b4, b5, b6, b7, b8, b9⟩ := HX2.out _ hW; (go_simp <;> with_reducible rfl))
           try simp only [Act.put, List.setIfInBounds_toArray, List.set_cons_zero, List.set_cons_succ]
           refine seq_do (o := ⟨_, _, _, _, _, _⟩) (by rw [HO.out]; rfl) (by as_aux_lemma => (rw [HO.out]; rfl)) (fun K hK => ?_)
           go_wp2_with (go_at_call 32; refine (HPa.out _).mono ?_; rintro e wn ⟨rfl, hwn⟩; subst wn)
           refine hK.out _ _ hS (fun _ => ?_)
           clear hK K
           try simp only [Act.put, List.setIfInBounds_toArray, List.set_cons_zero, List.set_cons_succ]
           as_aux_lemma =>
            refine seq_do (o := ⟨_, _, _, _, _, _⟩) (by rw [HO.out]; rfl) (by as_aux_lemma => (rw [HO.out]; rfl)) (fun K hK => ?_)
            go_wp2_with (go_at_call 33; refine (HI3.out _).mono ?_; rintro e wn ⟨rfl, hwn⟩; subst wn)
            refine hK.out _ _ hS (fun _ => ?_)
            clear hK K
            try simp only [Act.put, List.setIfInBounds_toArray, List.set_cons_zero, List.set_cons_succ]
            as_aux_lemma =>
             refine seq_take (o := ⟨_, _, _, _, _, _⟩) (v := ?_) (by rw [HO.out]; rfl) (by rfl) ?_ ?_
             rotate_left 1
             · first | ((intro W _; go_simp) <;> with_reducible rfl) | (intro W hW; obtain ⟨a0, a1, a2, a3, a4, a5, a6, a7, a8, a9⟩ := HX1.out _ hW; obtain ⟨b0, b1, b2, b3, b4, b5, b6, b7, b8, b9⟩ := HX2.out _ hW; (go_simp <;> with_reducible rfl))
             try simp only [Act.put, List.setIfInBounds_toArray, List.set_cons_zero, List.set_cons_succ]
             refine seq_take (o := ⟨_, _, _, _, _, _⟩) (v := ?_) (by rw [HO.out]; rfl) (by rfl) ?_ ?_
             rotate_left 1
             · first | ((intro W _; go_simp) <;> with_reducible rfl) | (intro W hW; obtain ⟨a0, a1, a2, a3, a4, a5, a6, a7, a8, a9⟩ := HX1.out _ hW; obtain ⟨b0, b1, b2, b3, b4, b5, b6, b7, b8, b9⟩ := HX2.out _ hW; (go_simp <;> with_reducible rfl))
             try simp only [Act.put, List.setIfInBounds_toArray, List.set_cons_zero, List.set_cons_succ]
             refine seq_take (o := ⟨_, _, _, _, _, _⟩) (v := ?_) (by rw [HO.out]; rfl) (by as_aux_lemma => (rw [HO.out]; rfl)) ?_ ?_
             rotate_left 1
             · first | ((intro W _; go_simp) <;> with_reducible rfl) | (intro W hW; obtain ⟨a0, a1, a2, a3, a4, a5, a6, a7, a8, a9⟩ := HX1.out _ hW; obtain ⟨b0, b1, b2, b3, b4, b5, b6, b7, b8, b9⟩ := HX2.out _ hW; (go_simp <;> with_reducible rfl))
             try simp only [Act.put, List.setIfInBounds_toArray, List.set_cons_zero, List.set_cons_succ]
             refine seq_do (o := ⟨_, _, _, _, _, _⟩) (by rw [HO.out]; rfl) (by as_aux_lemma => (rw [HO.out]; rfl)) (fun K hK => ?_)
             go_wp2_with (go_at_call 35; refine (HIP.out _ (bTrans hbw hS)).mono ?_; rintro e wn ⟨rfl, hbn⟩; replace hS := bTrans hS hbn; clear hbn)
             refine hK.out _ _ hS (fun _ => ?_)
             clear hK K
             try simp only [Act.put, List.setIfInBounds_toArray, List.set_cons_zero, List.set_cons_succ]
             as_aux_lemma =>
              refine seq_take (o := ⟨_, _, _, _, _, _⟩) (v := ?_) (by rw [HO.out]; rfl) (by as_aux_lemma => (rw [HO.out]; rfl)) ?_ ?_
              rotate_left 1
              · first | ((intro W _; go_simp) <;> with_reducible rfl) | (intro W hW; obtain ⟨a0, a1, a2, a3, a4, a5, a6, a7, a8, a9⟩ := HX1.out _ hW; obtain ⟨b0, b1, b2, b3, b4, b5, b6, b7, b8, b9⟩ := HX2.out _ hW; (go_simp <;> with_reducible rfl))
              try simp only [Act.put, List.setIfInBounds_toArray, List.set_cons_zero, List.set_cons_succ]
              refine seq_take (o := ⟨_, _, _, _, _, _⟩) (v := ?_) (by rw [HO.out]; rfl) (by as_aux_lemma => (rw [HO.out]; rfl)) ?_ ?_
              rotate_left 1
              · first | ((intro W _; go_simp) <;> with_reducible rfl) | (intro W hW; obtain ⟨a0, a1, a2, a3, a4, a5, a6, a7, a8, a9⟩ := HX1.out _ hW; obtain ⟨b0, b1, b2, b3, b4, b5, b6, b7, b8, b9⟩ := HX2.out _ hW; (go_simp <;> with_reducible rfl))
              try simp only [Act.put, List.setIfInBounds_toArray, List.set_cons_zero, List.set_cons_succ]
              refine seq_take (o := ⟨_, _, _, _, _, _⟩) (v := ?_) (by rw [HO.out]; rfl) (by as_aux_lemma => (rw [HO.out]; rfl)) ?_ ?_
              rotate_left 1
              · first | ((intro W _; go_simp) <;> with_reducible rfl) | (intro W hW; obtain ⟨a0, a1, a2, a3, a4, a5, a6, a7, a8, a9⟩ := HX1.out _ hW; obtain ⟨b0, b1, b2, b3, b4, b5, b6, b7, b8, b9⟩ := HX2.out _ hW; (go_simp <;> with_reducible rfl))
              try simp only [Act.put, List.setIfInBounds_toArray, List.set_cons_zero, List.set_cons_succ]
              refine seq_take (o := ⟨_, _, _, _, _, _⟩) (v := ?_) (by rw [HO.out]; rfl) (by as_aux_lemma => (rw [HO.out]; rfl)) ?_ ?_
              rotate_left 1
              · first | ((intro W _; go_simp) <;> with_reducible rfl) | (intro W hW; obtain ⟨a0, a1, a2, a3, a4, a5, a6, a7, a8, a9⟩ := HX1.out _ hW; obtain ⟨b0, b1, b2, b3, b4, b5, b6, b7, b8, b9⟩ := HX2.out _ hW; (go_simp <;> with_reducible rfl))
              try simp only [Act.put, List.setIfInBounds_toArray, List.set_cons_zero, List.set_cons_succ]
              refine seq_take (o := ⟨_, _, _, _, _, _⟩) (v := ?_) (by rw [HO.out]; rfl) (by as_aux_lemma => (rw [HO.out]; rfl)) ?_ ?_
              rotate_left 1
              · first | ((intro W _; go_simp) <;> with_reducible rfl) | (intro W hW; obtain ⟨a0, a1, a2, a3, a4, a5, a6, a7, a8, a9⟩ := HX1.out _ hW; obtain ⟨b0, b1, b2, b3, b4, b5, b6, b7, b8, b9⟩ := HX2.out _ hW; (go_simp <;> with_reducible rfl))
              try simp only [Act.put, List.setIfInBounds_toArray, List.set_cons_zero, List.set_cons_succ]
              refine seq_take (o := ⟨_, _, _, _, _, _⟩) (v := ?_) (by rw [HO.out]; rfl) (by as_aux_lemma => (rw [HO.out]; rfl)) ?_ ?_
              rotate_left 1
              · first | ((intro W _; go_simp) <;> with_reducible rfl) | (intro W hW; obtain ⟨a0, a1, a2, a3, a4, a5, a6, a7, a8, a9⟩ := HX1.out _ hW; obtain ⟨b0, b1, b2, b3, b4, b5, b6, b7, b8, b9⟩ := HX2.out _ hW; (go_simp <;> with_reducible rfl))
              try simp only [Act.put, List.setIfInBounds_toArray, List.set_cons_zero, List.set_cons_succ]
              refine seq_do (o := ⟨_, _, _, _, _, _⟩) (by rw [HO.out]; rfl) (by as_aux_lemma => (rw [HO.out]; rfl)) (fun K hK => ?_)
              go_wp2_with (go_at_call 36; refine (HF1.out _ (bTrans hbw hS)).mono ?_; rintro e wn ⟨rfl, hbn⟩; replace hS := bTrans hS hbn; clear hbn)
              refine hK.out _ _ hS (fun _ => ?_)
              clear hK K
              try simp only [Act.put, List.setIfInBounds_toArray, List.set_cons_zero, List.set_cons_succ]
              as_aux_lemma =>
               refine seq_do (o := ⟨_, _, _, _, _, _⟩) (by rw [HO.out]; rfl) (by as_aux_lemma => (rw [HO.out]; rfl)) (fun K hK => ?_)
               go_wp2_with (go_at_call 37; refine (HF2.out _ (bTrans hbw hS)).mono ?_; rintro e wn ⟨rfl, hbn⟩; replace hS := bTrans hS hbn; clear hbn)
               refine hK.out _ _ hS (fun _ => ?_)
               clear hK K
               try simp only [Act.put, List.setIfInBounds_toArray, List.set_cons_zero, List.set_cons_succ]
               as_aux_lemma =>
                refine seq_take (o := ⟨_, _, _, _, _, _⟩) (v := ?_) (by rw [HO.out]; rfl) (by as_aux_lemma => (rw [HO.out]; rfl)) ?_ ?_
                rotate_left 1
                · first | ((intro W _; go_simp) <;> with_reducible rfl) | (intro W hW; obtain ⟨a0, a1, a2, a3, a4, a5, a6, a7, a8, a9⟩ := HX1.out _ hW; obtain ⟨b0, b1, b2, b3, b4, b5, b6, b7, b8, b9⟩ := HX2.out _ hW; (go_simp <;> with_reducible rfl))
                try simp only [Act.put, List.setIfInBounds_toArray, List.set_cons_zero, List.set_cons_succ]
                refine seq_take (o := ⟨_, _, _, _, _, _⟩) (v := ?_) (by rw [HO.out]; rfl) (by as_aux_lemma => (rw [HO.out]; rfl)) ?_ ?_
                rotate_left 1
                · first | ((intro W _; go_simp) <;> with_reducible rfl) | (intro W hW; obtain ⟨a0, a1, a2, a3, a4, a5, a6, a7, a8, a9⟩ := HX1.out _ hW; obtain ⟨b0, b1, b2, b3, b4, b5, b6, b7, b8, b9⟩ := HX2.out _ hW; (go_simp <;> with_reducible rfl))
                try simp only [Act.put, List.setIfInBounds_toArray, List.set_cons_zero, List.set_cons_succ]
                refine seq_take (o := ⟨_, _, _, _, _, _⟩) (v := ?_) (by rw [HO.out]; rfl) (by rfl) ?_ ?_
                rotate_left 1
                · first | ((intro W _; go_simp) <;> with_reducible rfl) | (intro W hW; obtain ⟨a0, a1, a2, a3, a4, a5, a6, a7, a8, a9⟩ := HX1.out _ hW; obtain ⟨b0, b1, b2, b3, b4, b5, b6, b7, b8, b9⟩ := HX2.out _ hW; (go_simp <;> with_reducible rfl))
                try simp only [Act.put, List.setIfInBounds_toArray, List.set_cons_zero, List.set_cons_succ]
                refine seq_take (o := ⟨_, _, _, _, _, _⟩) (v := ?_) (by rw [HO.out]; rfl) (by rfl) ?_ ?_
                rotate_left 1
                · first | ((intro W _; go_simp) <;> with_reducible rfl) | (intro W hW; obtain ⟨a0, a1, a2, a3, a4, a5, a6, a7, a8, a9⟩ := HX1.out _ hW; obtain ⟨b0, b1, b2, b3, b4, b5, b6, b7, b8, b9⟩ := HX2.out _ hW; (go_simp <;> with_reducible rfl))
                try simp only [Act.put, List.setIfInBounds_toArray, List.set_cons_zero, List.set_cons_succ]
                refine seq_done ?_
                go_wp2_with fail
                go_ret
                exact ⟨ret_bool (by simp), bTrans hbw hS⟩
end Go.Proofs.YtbcadgooelcnhaaDoor
