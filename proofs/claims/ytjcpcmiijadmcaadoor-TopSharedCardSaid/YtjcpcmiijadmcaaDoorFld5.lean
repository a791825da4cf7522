/-
  seal.Shares.
-/
import Derived.Test.YtjcpcmiijadmcaaDoorOwn2
import Derived.IntWalk
namespace Go.Proofs.YtjcpcmiijadmcaaDoor
open Go.RowKit Wh.Fld

/-- The further coefficients of text j: N bytes of the noise. -/
def nzOf (noise : ByteArray) (N j : Nat) : List F := ((noise.data.toList.drop (j * N)).take N).map UInt8.toBitVec
def coef (secret noise : ByteArray) (N j : Nat) : List F := ((secret.data.toList[j]?.map UInt8.toBitVec).getD 0#8) :: nzOf noise N j
def dataAt (secret noise : ByteArray) (N : Nat) (x : F) : ByteArray := ⟨((List.range secret.size).map (fun j => UInt8.ofBitVec (eval (coef secret noise N j) x))).toArray⟩
def shareAt (secret noise : ByteArray) (N i : Nat) : Share := ⟨BitVec.ofNat 8 (i + 1), dataAt secret noise N (BitVec.ofNat 8 (i + 1))⟩
def sharesTo (secret noise : ByteArray) (N k : Nat) : List Share := (List.range k).map (shareAt secret noise N)

theorem nz_len {noise : ByteArray} {N m j : Nat} (h : noise.size = m * N) (hj : j < m) : (nzOf noise N j).length = N := by
  unfold nzOf
  rw [List.length_map, List.length_take, List.length_drop, ← Lib.size_eq, h]
  have : j * N + N ≤ m * N := by
    rw [← Nat.succ_mul]
    exact Nat.mul_le_mul_right _ hj
  omega
theorem nz_step {noise : ByteArray} {N m j c : Nat} {b : UInt8} (h : noise.size = m * N) (hj : j < m) (hc : c < N) (hb : noise.data.toList[j * N + c]? = some b) (x : F) : eval ((nzOf noise N j).drop c) x = b.toBitVec ^^^ mul (eval ((nzOf noise N j).drop (c + 1)) x) x := by
  have hl := nz_len h hj
  rw [List.drop_eq_getElem_cons (by omega)]
  have e : (nzOf noise N j)[c]? = some b.toBitVec := by
    unfold nzOf
    rw [List.getElem?_map, List.getElem?_take_of_lt hc, List.getElem?_drop, hb]
    rfl
  rw [List.getElem?_eq_getElem (by omega)] at e
  injection e with e
  rw [e]
  rfl

theorem int_eq {k : IntKind} {a b : Int} (h : a = b) : Value.int k a = .int k b := by rw [h]

set_option maxHeartbeats 2000000 in
set_option maxRecDepth 100000 in
theorem shares_any (secret noise : ByteArray) (N ND M : Nat) (w : World) (hND : ND = N + 1) (hm0 : 0 < secret.size) (hm1 : secret.size ≤ 20) (hN : N < M) (hM : M ≤ 20) (hz : noise.size = secret.size * N) :
    Calls Tryd.prog 15 #[.string secret, .string noise, .int .i64 ND, .int .i64 M] w fun e w' => ∃ a cap, e = .returned (.tuple #[.slice a M cap, .int .i64 0]) ∧ OwnSh w w' a cap (sharesTo secret noise N M) := by
  obtain ⟨m, hm⟩ : ∃ m, secret.size = m := ⟨_, rfl⟩
  have HM := Lib.hid hm
  have HZ : Hid (noise.size = m * N) := Lib.hid (by rw [← hm]; exact hz)
  have q1 : decide ((M : Int) < 1) = false := by simp; omega
  have q2 : decide ((255 : Int) < (M : Int)) = false := by simp; omega
  have q3 : decide ((ND : Int) < 1) = false := by simp; omega
  have q4 : decide ((M : Int) < (ND : Int)) = false := by simp; omega
  have q6 : decide (M < ND) = false := by simp; omega
  have hsub : (ND : Int) - 1 = (N : Int) := by omega
  have hNDM : ND ≤ M := by omega
  have e1 : secret.toList.isEmpty = false := by
    cases e : secret.toList.isEmpty
    · rfl
    · have := List.isEmpty_iff.1 e
      rw [Lib.size_eq, ← Lib.toList_data, this] at hm0
      simp at hm0
  have e2 : ¬ secret.toList = [] := fun e => by rw [e] at e1; cases e1
  go_enter Tryd.func15, Tryd.ntmps15
  have hmN : m * N ≤ 400 := by
    have : m * N ≤ 20 * 20 := Nat.mul_le_mul (by omega) (by omega)
    omega
  obtain ⟨mN, hmn⟩ : ∃ mN, m * N = mN := ⟨_, rfl⟩
  have hz2 : noise.size = mN := by rw [hz, hm, hmn]
  have hmul : (m : Int) * (N : Int) = (mN : Int) := by rw [← hmn]; exact (Int.natCast_mul m N).symm
  have q5 : decide ((1024 : Int) < (m : Int)) = false := by simp; omega
  rw [hmn] at hmN
  have HMN := Lib.hid hmn
  rw [hm] at hm0 hm1
  clear hz hmn hND
  go_upto_region 7 with fail
  go_wp2_with fail
  go_loopg [10, 11] M (fun g s10 s11 wx => ∃ (k : Nat) (a : Option Addr) (cap : Nat) (X : F), k + g = M ∧ s11 = .int .i64 X.toNat ∧ k < X.toNat ∧ X.toNat ≤ k + 1 ∧ s10 = .slice a k cap ∧ Hid (OwnSh w wx a cap (sharesTo secret noise N k)))
  case atStart => exact ⟨0, none, 0, 1#8, by omega, rfl, by decide, by decide, rfl, Lib.hid (OwnSh.nil (Below.refl _ _))⟩
  case round =>
    obtain ⟨k, a, cap, X, hk, rfl, hx1, hx2, rfl, HO⟩ := hrel
    by_cases hlt : k < M
    · obtain ⟨g, rfl⟩ : ∃ g, gk = g + 1 := ⟨gk - 1, by omega⟩
      have hmk := fun W => make_bytes m W (by omega)
      have HX : Hid (X = BitVec.ofNat 8 (k + 1)) := Lib.hid (BitVec.eq_of_toNat_eq (by rw [BitVec.toNat_ofNat]; omega))
      have hcv : IntKind.u8.wrap (X.toNat : Int) = (X.toNat : Int) := wrap_u8 _ X.isLt
      have hXM : X.toNat ≤ M := by omega
      go_upto_region 14 with fail
      have HR0 : Hid (RowB (wr.alloc (.cells (Array.replicate m (vf 0#8)) 5)) wr.heap.size ((List.range m).map (fun i => if i < 0 then eval (coef secret noise N i) X else 0#8))) := Lib.hid (by
        unfold RowB
        rw [heap_alloc_new]
        congr 2
        apply Array.toList_inj.1
        have e : (List.range m).map (fun i => if i < 0 then eval (coef secret noise N i) X else 0#8) = List.replicate m 0#8 := by
          apply List.ext_getElem
          · simp
          · intro i h1 h2
            simp
        rw [e]
        simp)
      have hb2 : Below wr.heap.size wr (wr.alloc (.cells (Array.replicate m (vf 0#8)) 5)) := bAlloc (Below.refl _ _) _
      generalize wr.alloc (.cells (Array.replicate m (vf 0#8)) 5) = w2 at *
      obtain ⟨wo, rfl⟩ : ∃ wo : World, wo = wr := ⟨_, rfl⟩
      clear hmk
      go_wp2_with fail
      go_loopg [57] m (fun g i wx => ∃ j : Nat, j + g = m ∧ i = .int .i64 j ∧ Below wo.heap.size wo wx ∧ Hid (RowB wx wo.heap.size ((List.range m).map (fun i => if i < j then eval (coef secret noise N i) X else 0#8))))
      case atStart => exact ⟨0, by omega, rfl, hb2, HR0⟩
      case round =>
        clear HR0 hb2
        obtain ⟨j, hj, rfl, hb, HR⟩ := hrel
        by_cases hlt2 : j < m
        · obtain ⟨g2, rfl⟩ : ∃ g2, gk = g2 + 1 := ⟨gk - 1, by omega⟩
          generalize hB : (List.range m).map (fun i => if i < j then eval (coef secret noise N i) X else 0#8) = B at *
          have hBl : B.length = m := by rw [← hB]; simp
          have hBj : B = B.set j (eval ((nzOf noise N j).drop N) X) := by
            have e0 : eval ((nzOf noise N j).drop N) X = 0#8 := by
              rw [List.drop_eq_nil_of_le (by rw [nz_len HZ.out hlt2]; exact Nat.le_refl _)]
              rfl
            rw [e0]
            apply List.ext_getElem
            · simp
            · intro i h1 h2
              rw [List.getElem_set]
              by_cases e : j = i
              · subst e
                rw [if_pos rfl]
                subst hB
                simp
              · rw [if_neg e]
          have HB := Lib.hid hB
          have HBl := Lib.hid hBl
          rw [hBj] at HR
          clear hB hBj hBl
          go_wp2_with fail
          go_loopg [14] N (fun g i wx => ∃ c : Nat, c = g ∧ c ≤ N ∧ i = .int .i64 c ∧ Below wo.heap.size wo wx ∧ Hid (RowB wx wo.heap.size (B.set j (eval ((nzOf noise N j).drop c) X))))
          case atStart => exact ⟨N, rfl, Nat.le_refl _, by first | rfl | go_num, hb, HR⟩
          case round =>
            clear HR hb
            obtain ⟨c, rfl, hcN, rfl, hb, HR⟩ := hrel
            by_cases hc : 1 ≤ c
            · obtain ⟨c', hc'⟩ : ∃ c', c = c' + 1 := ⟨c - 1, by omega⟩
              have hjN : j * N + N ≤ mN := by
                rw [← HMN.out, ← Nat.succ_mul]
                exact Nat.mul_le_mul_right _ hlt2
              obtain ⟨jN, hjn⟩ : ∃ jN, j * N = jN := ⟨_, rfl⟩
              rw [hjn] at hjN
              obtain ⟨ic, hicd⟩ : ∃ ic, jN + c' = ic := ⟨_, rfl⟩
              obtain ⟨id, hidd⟩ : ∃ id, jN + c = id := ⟨_, rfl⟩
              have hic : ic < noise.size := by omega
              have hic2 : ic < mN := by omega
              obtain ⟨b, hbq⟩ : ∃ b, noise.data.toList[ic]? = some b := ⟨_, List.getElem?_eq_getElem (by rw [← Lib.size_eq]; exact hic)⟩
              have HE := Lib.hid (nz_step HZ.out hlt2 (by omega : c' < N) (by rw [hjn, hicd]; exact hbq) X)
              have hib : noise[ic] = b := by
                have h1 := (List.getElem?_eq_some_iff.1 hbq).2
                rw [← h1]
                rfl
              have f1 : IntKind.i64.wrap (N : Int) = (N : Int) := IntWalk.i64_in _ (by omega)
              have f2 : IntKind.i64.wrap ((j : Int) * (N : Int)) = (jN : Int) := by
                have : (j : Int) * (N : Int) = (jN : Int) := by rw [← hjn]; exact (Int.natCast_mul j N).symm
                rw [this]
                exact IntWalk.i64_in _ (by omega)
              have f3 : IntKind.i64.wrap ((jN : Int) + (c : Int)) = (id : Int) := by
                have : (jN : Int) + (c : Int) = (id : Int) := by omega
                rw [this]
                exact IntWalk.i64_in _ (by omega)
              have f4 : IntKind.i64.wrap ((id : Int) - 1) = (ic : Int) := by
                have : (id : Int) - 1 = (ic : Int) := by omega
                rw [this]
                exact IntWalk.i64_in _ (by omega)
              have f5 : IntKind.i64.wrap (ic : Int) = (ic : Int) := IntWalk.i64_in _ (by omega)
              have hbb : ((b.toNat : Nat) : Int) = (b.toBitVec.toNat : Int) := rfl
              generalize b.toBitVec = bv at *
              rw [← hc'] at HE
              have HC : Hid (c = c' + 1) := Lib.hid hc'
              generalize hoo : eval ((nzOf noise N j).drop c) X = o at *
              have hgl := HR.out.lt
              obtain ⟨t1, t2⟩ := HR.out.cell (i := j) (b := o) (by rw [List.getElem?_set_self (by rw [HBl.out]; exact hlt2)])
              have x1 := bits_xor (mul o X) bv
              have HRs := Lib.hid (HR.out.drew.set j (mul o X ^^^ bv))
              rw [List.set_set, BitVec.xor_comm (mul o X) bv, ← HE.out] at HRs
              rw [BitVec.xor_comm (mul o X) bv, ← HE.out] at x1
              generalize hrr : eval ((nzOf noise N j).drop c') X = r at *
              have HRr := Lib.hid hrr
              clear hrr
              clear hbq HE hjn hicd hidd hoo hjN hc'
              go_wp2_with fail
              --R20
              refine wp_region_seqT (fun W => W = wr.drew) 20 [(0, true), (1, true), (2, true), (3, true), (4, true), (5, true), (6, true), (7, true), (9, true), (10, true), (11, true), (12, true), (13, true), (14, true), (15, true), (16, true), (17, true), (8, false), (18, true), (19, true), (20, false)] (by as_aux_lemma => kernel_rfl) (by as_aux_lemma => kernel_rfl) (by as_aux_lemma => kernel_rfl) (by decide) (by as_aux_lemma => kernel_rfl) (by decide) rfl ?_
              intro OPS HO
              refine seqT_take (o := ⟨_, _, _, _, _, _⟩) (v := ?_) (by rw [HO.out]; rfl) (by rfl) ?_ ?_
              rotate_left 1
              · first | ((intro W _; go_simp) <;> with_reducible rfl) | (intro W hW; subst hW; (go_simp <;> with_reducible rfl))
              try simp only [Act.put, List.setIfInBounds_toArray, List.set_cons_zero, List.set_cons_succ]
              try simp only [hcv, f1, f2, f3, f4, f5, hib, hbb]
              refine seqT_take (o := ⟨_, _, _, _, _, _⟩) (v := ?_) (by rw [HO.out]; rfl) (by rfl) ?_ ?_
              rotate_left 1
              · first | ((intro W _; go_simp) <;> with_reducible rfl) | (intro W hW; subst hW; (go_simp <;> with_reducible rfl))
              try simp only [Act.put, List.setIfInBounds_toArray, List.set_cons_zero, List.set_cons_succ]
              try simp only [hcv, f1, f2, f3, f4, f5, hib, hbb]
              refine seqT_take (o := ⟨_, _, _, _, _, _⟩) (v := ?_) (by rw [HO.out]; rfl) (by rfl) ?_ ?_
              rotate_left 1
              · first | ((intro W _; go_simp) <;> with_reducible rfl) | (intro W hW; subst hW; (go_simp <;> with_reducible rfl))
              try simp only [Act.put, List.setIfInBounds_toArray, List.set_cons_zero, List.set_cons_succ]
              try simp only [hcv, f1, f2, f3, f4, f5, hib, hbb]
              refine seqT_take (o := ⟨_, _, _, _, _, _⟩) (v := ?_) (by rw [HO.out]; rfl) (by rfl) ?_ ?_
              rotate_left 1
              · first | ((intro W _; go_simp) <;> with_reducible rfl) | (intro W hW; subst hW; (go_simp <;> with_reducible rfl))
              try simp only [Act.put, List.setIfInBounds_toArray, List.set_cons_zero, List.set_cons_succ]
              try simp only [hcv, f1, f2, f3, f4, f5, hib, hbb]
              refine seqT_take (o := ⟨_, _, _, _, _, _⟩) (v := ?_) (by rw [HO.out]; rfl) (by rfl) ?_ ?_
              rotate_left 1
              · first | ((intro W _; go_simp) <;> with_reducible rfl) | (intro W hW; subst hW; (go_simp <;> with_reducible rfl))
              try simp only [Act.put, List.setIfInBounds_toArray, List.set_cons_zero, List.set_cons_succ]
              try simp only [hcv, f1, f2, f3, f4, f5, hib, hbb]
              refine seqT_take (o := ⟨_, _, _, _, _, _⟩) (v := ?_) (by rw [HO.out]; rfl) (by rfl) ?_ ?_
              rotate_left 1
              · first | ((intro W _; go_simp) <;> with_reducible rfl) | (intro W hW; subst hW; (go_simp <;> with_reducible rfl))
              try simp only [Act.put, List.setIfInBounds_toArray, List.set_cons_zero, List.set_cons_succ]
              try simp only [hcv, f1, f2, f3, f4, f5, hib, hbb]
              refine seqT_take (o := ⟨_, _, _, _, _, _⟩) (v := ?_) (by rw [HO.out]; rfl) (by rfl) ?_ ?_
              rotate_left 1
              · first | ((intro W _; go_simp) <;> with_reducible rfl) | (intro W hW; subst hW; (go_simp <;> with_reducible rfl))
              try simp only [Act.put, List.setIfInBounds_toArray, List.set_cons_zero, List.set_cons_succ]
              try simp only [hcv, f1, f2, f3, f4, f5, hib, hbb]
              refine seqT_take (o := ⟨_, _, _, _, _, _⟩) (v := ?_) (by rw [HO.out]; rfl) (by rfl) ?_ ?_
              rotate_left 1
              · first | ((intro W _; go_simp) <;> with_reducible rfl) | (intro W hW; subst hW; (go_simp <;> with_reducible rfl))
              try simp only [Act.put, List.setIfInBounds_toArray, List.set_cons_zero, List.set_cons_succ]
              try simp only [hcv, f1, f2, f3, f4, f5, hib, hbb]
              refine seqT_take (o := ⟨_, _, _, _, _, _⟩) (v := ?_) (by rw [HO.out]; rfl) (by rfl) ?_ ?_
              rotate_left 1
              · first | ((intro W _; go_simp) <;> with_reducible rfl) | (intro W hW; subst hW; (go_simp <;> with_reducible rfl))
              try simp only [Act.put, List.setIfInBounds_toArray, List.set_cons_zero, List.set_cons_succ]
              try simp only [hcv, f1, f2, f3, f4, f5, hib, hbb]
              refine seqT_take (o := ⟨_, _, _, _, _, _⟩) (v := ?_) (by rw [HO.out]; rfl) (by rfl) ?_ ?_
              rotate_left 1
              · first | ((intro W _; go_simp) <;> with_reducible rfl) | (intro W hW; subst hW; (go_simp <;> with_reducible rfl))
              try simp only [Act.put, List.setIfInBounds_toArray, List.set_cons_zero, List.set_cons_succ]
              try simp only [hcv, f1, f2, f3, f4, f5, hib, hbb]
              refine seqT_take (o := ⟨_, _, _, _, _, _⟩) (v := ?_) (by rw [HO.out]; rfl) (by rfl) ?_ ?_
              rotate_left 1
              · first | ((intro W _; go_simp) <;> with_reducible rfl) | (intro W hW; subst hW; (go_simp <;> with_reducible rfl))
              try simp only [Act.put, List.setIfInBounds_toArray, List.set_cons_zero, List.set_cons_succ]
              try simp only [hcv, f1, f2, f3, f4, f5, hib, hbb]
              refine seqT_take (o := ⟨_, _, _, _, _, _⟩) (v := ?_) (by rw [HO.out]; rfl) (by rfl) ?_ ?_
              rotate_left 1
              · first | ((intro W _; go_simp) <;> with_reducible rfl) | (intro W hW; subst hW; (go_simp <;> with_reducible rfl))
              try simp only [Act.put, List.setIfInBounds_toArray, List.set_cons_zero, List.set_cons_succ]
              try simp only [hcv, f1, f2, f3, f4, f5, hib, hbb]
              refine seqT_take (o := ⟨_, _, _, _, _, _⟩) (v := ?_) (by rw [HO.out]; rfl) (by rfl) ?_ ?_
              rotate_left 1
              · first | ((intro W _; go_simp) <;> with_reducible rfl) | (intro W hW; subst hW; (go_simp <;> with_reducible rfl))
              try simp only [Act.put, List.setIfInBounds_toArray, List.set_cons_zero, List.set_cons_succ]
              try simp only [hcv, f1, f2, f3, f4, f5, hib, hbb]
              refine seqT_take (o := ⟨_, _, _, _, _, _⟩) (v := ?_) (by rw [HO.out]; rfl) (by rfl) ?_ ?_
              rotate_left 1
              · first | ((intro W _; go_simp) <;> with_reducible rfl) | (intro W hW; subst hW; (go_simp <;> with_reducible rfl))
              try simp only [Act.put, List.setIfInBounds_toArray, List.set_cons_zero, List.set_cons_succ]
              try simp only [hcv, f1, f2, f3, f4, f5, hib, hbb]
              refine seqT_take (o := ⟨_, _, _, _, _, _⟩) (v := ?_) (by rw [HO.out]; rfl) (by rfl) ?_ ?_
              rotate_left 1
              · first | ((intro W _; go_simp) <;> with_reducible rfl) | (intro W hW; subst hW; (go_simp <;> with_reducible rfl))
              try simp only [Act.put, List.setIfInBounds_toArray, List.set_cons_zero, List.set_cons_succ]
              try simp only [hcv, f1, f2, f3, f4, f5, hib, hbb]
              refine seqT_take (o := ⟨_, _, _, _, _, _⟩) (v := ?_) (by rw [HO.out]; rfl) (by rfl) ?_ ?_
              rotate_left 1
              · first | ((intro W _; go_simp) <;> with_reducible rfl) | (intro W hW; subst hW; (go_simp <;> with_reducible rfl))
              try simp only [Act.put, List.setIfInBounds_toArray, List.set_cons_zero, List.set_cons_succ]
              try simp only [hcv, f1, f2, f3, f4, f5, hib, hbb]
              refine seqT_take (o := ⟨_, _, _, _, _, _⟩) (v := ?_) (by rw [HO.out]; rfl) (by rfl) ?_ ?_
              rotate_left 1
              · first | ((intro W _; go_simp) <;> with_reducible rfl) | (intro W hW; subst hW; (go_simp <;> with_reducible rfl))
              try simp only [Act.put, List.setIfInBounds_toArray, List.set_cons_zero, List.set_cons_succ]
              try simp only [hcv, f1, f2, f3, f4, f5, hib, hbb]
              refine seqT_do (o := ⟨_, _, _, _, _, _⟩) (by rw [HO.out]; rfl) (by rfl) (fun K hK => ?_)
              go_wp2_with (go_at_call 42; (with_reducible refine (times_any _ _ _).mono ?_); rintro e w' ⟨rfl, rfl⟩)
              refine hK.out _ _ (fun _ => rfl) ?_
              clear hK K
              try simp only [Act.put, List.setIfInBounds_toArray, List.set_cons_zero, List.set_cons_succ]
              refine seqT_take (o := ⟨_, _, _, _, _, _⟩) (v := ?_) (by rw [HO.out]; rfl) (by rfl) ?_ ?_
              rotate_left 1
              · first | ((intro W _; go_simp) <;> with_reducible rfl) | (intro W hW; subst hW; (go_simp <;> with_reducible rfl))
              try simp only [Act.put, List.setIfInBounds_toArray, List.set_cons_zero, List.set_cons_succ]
              try simp only [hcv, f1, f2, f3, f4, f5, hib, hbb]
              refine seqT_take (o := ⟨_, _, _, _, _, _⟩) (v := ?_) (by rw [HO.out]; rfl) (by rfl) ?_ ?_
              rotate_left 1
              · first | ((intro W _; go_simp) <;> with_reducible rfl) | (intro W hW; subst hW; (go_simp <;> with_reducible rfl))
              try simp only [Act.put, List.setIfInBounds_toArray, List.set_cons_zero, List.set_cons_succ]
              try simp only [hcv, f1, f2, f3, f4, f5, hib, hbb]
              refine seqT_do (o := ⟨_, _, _, _, _, _⟩) (by rw [HO.out]; rfl) (by rfl) (fun K hK => ?_)
              try simp only [x1]
              go_wp2_with fail
              refine hK.out _ _ (fun h => absurd rfl h) ?_
              clear hK K
              try simp only [Act.put, List.setIfInBounds_toArray, List.set_cons_zero, List.set_cons_succ]
              refine seqT_done ?_
              --END20
              go_wp2_with fail
              go_roundg c'
              case measure => have := HC.out; omega
              case rel => exact ⟨c', rfl, by have := HC.out; omega, int_eq (by have := HC.out; omega), (hb.drew).setCell (p := ⟨wo.heap.size, j, none⟩) (Nat.le_refl _) _, by rw [HRr.out]; exact HRs⟩
            · obtain rfl : c = 0 := by omega
              obtain ⟨b, hbq⟩ : ∃ b, secret.data.toList[j]? = some b := ⟨_, List.getElem?_eq_getElem (by rw [← Lib.size_eq, hm]; exact hlt2)⟩
              have HE : Hid (eval (coef secret noise N j) X = b.toBitVec ^^^ mul (eval ((nzOf noise N j).drop 0) X) X) := Lib.hid (by
                unfold coef
                rw [hbq]
                rfl)
              have hjs : j < secret.size := by omega
              have hib : secret[j] = b := by
                have h1 := (List.getElem?_eq_some_iff.1 hbq).2
                rw [← h1]
                rfl
              have HBs : Hid ((List.range m).map (fun i => if i < j + 1 then eval (coef secret noise N i) X else 0#8) = B.set j (eval (coef secret noise N j) X)) := Lib.hid (by
                rw [← HB.out]
                apply List.ext_getElem
                · simp
                · intro i h1 h2
                  rw [List.getElem_set]
                  by_cases e : j = i
                  · subst e
                    simp
                  · simp only [List.getElem_map, List.getElem_range, if_neg e]
                    by_cases e2 : i < j
                    · rw [if_pos e2, if_pos (by omega)]
                    · rw [if_neg e2, if_neg (by omega)])
              have hbb : ((b.toNat : Nat) : Int) = (b.toBitVec.toNat : Int) := rfl
              generalize b.toBitVec = bv at *
              generalize eval ((nzOf noise N j).drop 0) X = o at *
              have hgl := HR.out.lt
              obtain ⟨t1, t2⟩ := HR.out.cell (i := j) (b := o) (by rw [List.getElem?_set_self (by rw [HBl.out]; exact hlt2)])
              have x1 := bits_xor (mul o X) bv
              have HRs := Lib.hid (HR.out.drew.set j (mul o X ^^^ bv))
              rw [List.set_set, BitVec.xor_comm (mul o X) bv, ← HE.out, ← HBs.out] at HRs
              rw [BitVec.xor_comm (mul o X) bv, ← HE.out] at x1
              generalize eval (coef secret noise N j) X = r at *
              clear hbq HE HBs
              go_wp2_with fail
              --R21
              refine wp_region_seqT (fun W => W = wr.drew) 14 [(0, true), (1, true), (2, true), (3, true), (4, true), (5, true), (6, true), (7, true), (9, true), (10, true), (11, true), (8, false), (12, true), (13, true), (14, false)] (by as_aux_lemma => kernel_rfl) (by as_aux_lemma => kernel_rfl) (by as_aux_lemma => kernel_rfl) (by decide) (by as_aux_lemma => kernel_rfl) (by decide) rfl ?_
              intro OPS HO
              refine seqT_take (o := ⟨_, _, _, _, _, _⟩) (v := ?_) (by rw [HO.out]; rfl) (by rfl) ?_ ?_
              rotate_left 1
              · first | ((intro W _; go_simp) <;> with_reducible rfl) | (intro W hW; subst hW; (go_simp <;> with_reducible rfl))
              try simp only [Act.put, List.setIfInBounds_toArray, List.set_cons_zero, List.set_cons_succ]
              try simp only [hcv, hib, hbb]
              refine seqT_take (o := ⟨_, _, _, _, _, _⟩) (v := ?_) (by rw [HO.out]; rfl) (by rfl) ?_ ?_
              rotate_left 1
              · first | ((intro W _; go_simp) <;> with_reducible rfl) | (intro W hW; subst hW; (go_simp <;> with_reducible rfl))
              try simp only [Act.put, List.setIfInBounds_toArray, List.set_cons_zero, List.set_cons_succ]
              try simp only [hcv, hib, hbb]
              refine seqT_take (o := ⟨_, _, _, _, _, _⟩) (v := ?_) (by rw [HO.out]; rfl) (by rfl) ?_ ?_
              rotate_left 1
              · first | ((intro W _; go_simp) <;> with_reducible rfl) | (intro W hW; subst hW; (go_simp <;> with_reducible rfl))
              try simp only [Act.put, List.setIfInBounds_toArray, List.set_cons_zero, List.set_cons_succ]
              try simp only [hcv, hib, hbb]
              refine seqT_take (o := ⟨_, _, _, _, _, _⟩) (v := ?_) (by rw [HO.out]; rfl) (by rfl) ?_ ?_
              rotate_left 1
              · first | ((intro W _; go_simp) <;> with_reducible rfl) | (intro W hW; subst hW; (go_simp <;> with_reducible rfl))
              try simp only [Act.put, List.setIfInBounds_toArray, List.set_cons_zero, List.set_cons_succ]
              try simp only [hcv, hib, hbb]
              refine seqT_take (o := ⟨_, _, _, _, _, _⟩) (v := ?_) (by rw [HO.out]; rfl) (by rfl) ?_ ?_
              rotate_left 1
              · first | ((intro W _; go_simp) <;> with_reducible rfl) | (intro W hW; subst hW; (go_simp <;> with_reducible rfl))
              try simp only [Act.put, List.setIfInBounds_toArray, List.set_cons_zero, List.set_cons_succ]
              try simp only [hcv, hib, hbb]
              refine seqT_take (o := ⟨_, _, _, _, _, _⟩) (v := ?_) (by rw [HO.out]; rfl) (by rfl) ?_ ?_
              rotate_left 1
              · first | ((intro W _; go_simp) <;> with_reducible rfl) | (intro W hW; subst hW; (go_simp <;> with_reducible rfl))
              try simp only [Act.put, List.setIfInBounds_toArray, List.set_cons_zero, List.set_cons_succ]
              try simp only [hcv, hib, hbb]
              refine seqT_take (o := ⟨_, _, _, _, _, _⟩) (v := ?_) (by rw [HO.out]; rfl) (by rfl) ?_ ?_
              rotate_left 1
              · first | ((intro W _; go_simp) <;> with_reducible rfl) | (intro W hW; subst hW; (go_simp <;> with_reducible rfl))
              try simp only [Act.put, List.setIfInBounds_toArray, List.set_cons_zero, List.set_cons_succ]
              try simp only [hcv, hib, hbb]
              refine seqT_take (o := ⟨_, _, _, _, _, _⟩) (v := ?_) (by rw [HO.out]; rfl) (by rfl) ?_ ?_
              rotate_left 1
              · first | ((intro W _; go_simp) <;> with_reducible rfl) | (intro W hW; subst hW; (go_simp <;> with_reducible rfl))
              try simp only [Act.put, List.setIfInBounds_toArray, List.set_cons_zero, List.set_cons_succ]
              try simp only [hcv, hib, hbb]
              refine seqT_take (o := ⟨_, _, _, _, _, _⟩) (v := ?_) (by rw [HO.out]; rfl) (by rfl) ?_ ?_
              rotate_left 1
              · first | ((intro W _; go_simp) <;> with_reducible rfl) | (intro W hW; subst hW; (go_simp <;> with_reducible rfl))
              try simp only [Act.put, List.setIfInBounds_toArray, List.set_cons_zero, List.set_cons_succ]
              try simp only [hcv, hib, hbb]
              refine seqT_take (o := ⟨_, _, _, _, _, _⟩) (v := ?_) (by rw [HO.out]; rfl) (by rfl) ?_ ?_
              rotate_left 1
              · first | ((intro W _; go_simp) <;> with_reducible rfl) | (intro W hW; subst hW; (go_simp <;> with_reducible rfl))
              try simp only [Act.put, List.setIfInBounds_toArray, List.set_cons_zero, List.set_cons_succ]
              try simp only [hcv, hib, hbb]
              refine seqT_take (o := ⟨_, _, _, _, _, _⟩) (v := ?_) (by rw [HO.out]; rfl) (by rfl) ?_ ?_
              rotate_left 1
              · first | ((intro W _; go_simp) <;> with_reducible rfl) | (intro W hW; subst hW; (go_simp <;> with_reducible rfl))
              try simp only [Act.put, List.setIfInBounds_toArray, List.set_cons_zero, List.set_cons_succ]
              try simp only [hcv, hib, hbb]
              refine seqT_do (o := ⟨_, _, _, _, _, _⟩) (by rw [HO.out]; rfl) (by rfl) (fun K hK => ?_)
              go_wp2_with (go_at_call 42; (with_reducible refine (times_any _ _ _).mono ?_); rintro e w' ⟨rfl, rfl⟩)
              refine hK.out _ _ (fun _ => rfl) ?_
              clear hK K
              try simp only [Act.put, List.setIfInBounds_toArray, List.set_cons_zero, List.set_cons_succ]
              refine seqT_take (o := ⟨_, _, _, _, _, _⟩) (v := ?_) (by rw [HO.out]; rfl) (by rfl) ?_ ?_
              rotate_left 1
              · first | ((intro W _; go_simp) <;> with_reducible rfl) | (intro W hW; subst hW; (go_simp <;> with_reducible rfl))
              try simp only [Act.put, List.setIfInBounds_toArray, List.set_cons_zero, List.set_cons_succ]
              try simp only [hcv, hib, hbb]
              refine seqT_take (o := ⟨_, _, _, _, _, _⟩) (v := ?_) (by rw [HO.out]; rfl) (by rfl) ?_ ?_
              rotate_left 1
              · first | ((intro W _; go_simp) <;> with_reducible rfl) | (intro W hW; subst hW; (go_simp <;> with_reducible rfl))
              try simp only [Act.put, List.setIfInBounds_toArray, List.set_cons_zero, List.set_cons_succ]
              try simp only [hcv, hib, hbb]
              refine seqT_do (o := ⟨_, _, _, _, _, _⟩) (by rw [HO.out]; rfl) (by rfl) (fun K hK => ?_)
              try simp only [x1]
              go_wp2_with fail
              refine hK.out _ _ (fun h => absurd rfl h) ?_
              clear hK K
              try simp only [Act.put, List.setIfInBounds_toArray, List.set_cons_zero, List.set_cons_succ]
              refine seqT_done ?_
              --END21
              go_wp2_with fail
              go_roundg g2
              case measure => omega
              case rel => exact ⟨j + 1, by omega, by go_num, (hb.drew).setCell (p := ⟨wo.heap.size, j, none⟩) (Nat.le_refl _) _, HRs⟩
        · obtain rfl : j = m := by omega
          have hO := HR.out.own (w0 := wo) (Nat.le_refl _) (by simp; omega) hb
          have hcvs := convB hO
          simp only [List.length_map, List.length_range] at hcvs
          have HDt : Hid ((⟨(((List.range j).map (fun i => if i < j then eval (coef secret noise N i) X else 0#8)).map UInt8.ofBitVec).toArray⟩ : ByteArray) = dataAt secret noise N X) := Lib.hid (by
            unfold dataAt
            rw [hm, List.map_map]
            congr 2
            apply List.map_congr_left
            intro i hi
            show UInt8.ofBitVec (if i < j then _ else _) = _
            rw [if_pos (List.mem_range.1 hi)])
          rw [HDt.out] at hcvs
          have HSt : Hid (sharesTo secret noise N (k + 1) = sharesTo secret noise N k ++ [⟨X, dataAt secret noise N X⟩]) := Lib.hid (by
            unfold sharesTo
            rw [List.range_succ, List.map_append]
            have : shareAt secret noise N k = ⟨X, dataAt secret noise N X⟩ := by rw [HX.out]; rfl
            simp [this])
          have hln : (sharesTo secret noise N k).length = k := by simp [sharesTo]
          have HO2 := Lib.hid (HO.out.under hb)
          have HLn := Lib.hid hln
          generalize dataAt secret noise N X = DT at *
          generalize hxs : sharesTo secret noise N k = xs at *
          have HXs := Lib.hid hxs
          clear hxs
          obtain rfl : xs.length = k := hln
          clear hO HR HDt HO HLn
          go_wp2_with (at_builtin; refine wp_appSh HO2.out ⟨X, DT⟩ (by omega) rfl (.tmp 101) (.tmp 106) rfl rfl rfl ?_; intro g3 cap3 w9 hO9)
          go_roundg g
          case measure => omega
          case rel => exact ⟨xs.length + 1, _, cap3, X + 1#8, by omega, int_eq (by rw [BitVec.toNat_add]; simp; omega), by rw [BitVec.toNat_add]; simp; omega, by rw [BitVec.toNat_add]; simp; omega, rfl, Lib.hid (by rw [HSt.out]; exact hO9)⟩
    · obtain rfl : k = M := by omega
      go_wp2_with fail
      go_ret2
      exact ⟨a, cap, rfl, HO.out⟩
end Go.Proofs.YtjcpcmiijadmcaaDoor
