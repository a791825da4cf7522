/-
  The texts Stb1, Stb2, Stb3, in one.
-/
import Derived.Test.YtikegddlbelfaaaGreatDoorBase
import Derived.Shelf.SlSortCmp.KitK
import Derived.Sort.Lot0
import Derived.Sort.WalkB2
import Derived.Sort.WalkB12
import Derived.Deep.LoopGhost
import Derived.IntWalk
namespace Go.Proofs.YtikegddlbelfaaaGreatDoor
open Go.RowKit Go.Shelf Go.Lib Go.Sort

/-- One list is the other's, put otherwise. -/
def Pm {α : Type} (d d' : Array α) : Prop := d'.size = d.size ∧ d'.toList.Perm d.toList
theorem Pm.refl {α : Type} (d : Array α) : Pm d d := ⟨rfl, List.Perm.refl _⟩
theorem Pm.trans {α : Type} {a b c : Array α} (h : Pm a b) (k : Pm b c) : Pm a c := ⟨k.1.trans h.1, k.2.trans h.2⟩
theorem Pm.swp {α : Type} [Inhabited α] {d d' : Array α} (h : Pm d d') {i j : Nat} (hi : i < d'.size) (hj : j < d'.size) : Pm d (Go.Sort.swp d' i j) := by
  have hp := swp_permIn d' 0 d'.size i j (Nat.zero_le _) hi (Nat.zero_le _) hj (Nat.le_refl _)
  refine h.trans ⟨size_swp _ _ _, ?_⟩
  have e1 : (Go.Sort.swp d' i j).extract 0 d'.size = Go.Sort.swp d' i j := by
    have : (Go.Sort.swp d' i j).size = d'.size := size_swp _ _ _
    rw [← this]; simp
  have e2 : d'.extract 0 d'.size = d' := by simp
  have := hp.2.2
  rw [e1, e2] at this
  exact this
variable {α : Type} [Inhabited α]

set_option maxHeartbeats 4000000 in
set_option maxRecDepth 1000000 in
theorem swapRange_any (k : Nat) (aE : ∀ w, (isAgg 43).run Tryz.prog w = .ok true w) (zE : ∀ w, (Go.sizeOf 43).run Tryz.prog w = .ok k w) (enc : α → List Value) (cmp : Value) (blk off cap a b n : Nat) (d0 d : Array α) (w0 w : World)
    (R : RowK enc k w0 blk off d0) (hs : d0.size = d.size) (S : SWK enc k w0 blk off d w) (ha : a + n ≤ d.size) (hb : b + n ≤ d.size) (hsz : d.size < 4611686018427387904) :
    Calls Tryz.prog 120 #[.slice (some ⟨blk, off, none⟩) d.size cap, .int .i64 a, .int .i64 b, .int .i64 n, cmp] w fun e w' => e = .returned (.tuple #[]) ∧ ∃ d', Pm d d' ∧ SWK enc k w0 blk off d' w' := by
  have S0 : Aside (SWK enc k w0 blk off d w) := S
  have mixed : Tryz.prog.follows .mixedOrders = true := by kernel_rfl
  clear S
  go_enter Tryz.func120, Tryz.ntmps120
  go_wp2_with fail
  go_loopg [10] n (fun gk s10 wr => ∃ (i : Nat) (dk : Array α), s10 = .int .i64 i ∧ i + gk = n ∧ Hid (Pm d dk) ∧ Aside (SWK enc k w0 blk off dk wr))
  case atStart => exact ⟨0, d, rfl, by omega, Lib.hid (Pm.refl d), S0⟩
  case round =>
    clear S0
    obtain ⟨i, dk, rfl, hik, HP, S1⟩ := hrel
    have hds := HP.out.1
    by_cases hlt : i < n
    · have hltz : (i : Int) < (n : Int) := by omega
      have hI : IntKind.i64.wrap ((a : Int) + (i : Int)) = ((a + i : Nat) : Int) := by rw [IntKind.wrap_i64]; omega
      have hJ : IntKind.i64.wrap ((b : Int) + (i : Int)) = ((b + i : Nat) : Int) := by rw [IntKind.wrap_i64]; omega
      have hPs : Hid (Pm d (swp dk (a + i) (b + i))) := Lib.hid (HP.out.swp (by omega) (by omega))
      go_wp2_with fail
      obtain ⟨x, hx⟩ : ∃ x, a + i = x := ⟨_, rfl⟩
      obtain ⟨y, hy⟩ : ∃ y, b + i = y := ⟨_, rfl⟩
      rw [hx] at hI hPs
      rw [hy] at hJ hPs
      have hx1 : x < d.size := by omega
      have hy1 : y < d.size := by omega
      clear hx hy
      have eA : ((x : Nat) : Int).toNat = x := by omega
      have pA : (0 : Int) ≤ ((x : Nat) : Int) := by omega
      have bA : ((x : Nat) : Int) < (d.size : Int) := by omega
      have rA : IntKind.i64.wrap ((x : Nat) : Int) = ((x : Nat) : Int) := by rw [IntKind.wrap_i64]; omega
      have eB : ((y : Nat) : Int).toNat = y := by omega
      have pB : (0 : Int) ≤ ((y : Nat) : Int) := by omega
      have bB : ((y : Nat) : Int) < (d.size : Int) := by omega
      have rB : IntKind.i64.wrap ((y : Nat) : Int) = ((y : Nat) : Int) := by rw [IntKind.wrap_i64]; omega
      have S2 : Aside (SWK enc k w0 blk off (swp dk (x) (y)) ((wr.drew.setCells blk (off + (x) * k) (enc dk[y]!)).setCells blk (off + (y) * k) (enc dk[x]!))) := S1.out.swapped R (x) (y) (by omega) (by omega)
      have l44a := S1.out.ld1 R (by omega) Tryz.prog (x) (by omega)
      have l44b := S1.out.ld1 R (by omega) Tryz.prog (y) (by omega)
      have s44a := S1.out.st1 R (by omega) Tryz.prog (x) (by omega) dk[y]!
      have s44b := S1.out.st2 R (by omega) Tryz.prog (x) (y) (by omega) (by omega) dk[y]! dk[x]!
      have n44a : (enc dk[x]!).length = k := R.hk _
      have n44b : (enc dk[y]!).length = k := R.hk _
      generalize enc dk[x]! = cI44 at S2 l44a s44b n44a
      generalize enc dk[y]! = cJ44 at S2 l44b s44a s44b n44b
      clear S1
      go_wp2_with fail
      go_big_region_o
      clear l44a l44b s44a s44b eA pA bA rA eB pB bB rB n44a n44b
      generalize (wr.drew.setCells blk (off + (x) * k) cJ44).setCells blk (off + (y) * k) cI44 = w2 at S2 ⊢
      clear hI hJ
      go_wp2
      go_roundg (gk - 1)
      case measure => omega
      case rel => exact ⟨i + 1, _, by go_num, by omega, hPs, S2⟩
    · have hltz : ¬ (i : Int) < (n : Int) := by omega
      go_wp2_with fail
      first | go_end0 | refine bodyPost_ret (results_none rfl _ _ _) rfl ?_
      exact ⟨rfl, dk, HP.out, S1.out⟩

set_option maxHeartbeats 4000000 in
set_option maxRecDepth 1000000 in
theorem rotateI_any (k : Nat) (aE : ∀ w, (isAgg 43).run Tryz.prog w = .ok true w) (zE : ∀ w, (Go.sizeOf 43).run Tryz.prog w = .ok k w) (enc : α → List Value) (cmp : Value) (blk off cap a m b : Nat) (d0 d : Array α) (w0 w : World)
    (R : RowK enc k w0 blk off d0) (hs : d0.size = d.size) (S : SWK enc k w0 blk off d w) (ham : a < m) (hmb : m < b) (hb : b ≤ d.size) (hsz : d.size < 4611686018427387904) :
    Calls Tryz.prog 113 #[.slice (some ⟨blk, off, none⟩) d.size cap, .int .i64 a, .int .i64 m, .int .i64 b, cmp] w fun e w' => e = .returned (.tuple #[]) ∧ ∃ d', Pm d d' ∧ SWK enc k w0 blk off d' w' := by
  have S0 : Aside (SWK enc k w0 blk off d w) := S
  have HS := Lib.hid (fun (dk : Array α) W (x y n : Nat) (h1 : dk.size = d.size) (h : SWK enc k w0 blk off dk W) (hx : x + n ≤ d.size) (hy : y + n ≤ d.size) => (h1 ▸ swapRange_any k aE zE enc cmp blk off cap x y n d0 dk w0 W R (hs.trans h1.symm) h (by omega) (by omega) (by omega) : Calls Tryz.prog 120 #[.slice (some ⟨blk, off, none⟩) d.size cap, .int .i64 x, .int .i64 y, .int .i64 n, cmp] W fun e w' => e = .returned (.tuple #[]) ∧ ∃ d', Pm dk d' ∧ SWK enc k w0 blk off d' w'))
  clear S R aE zE
  have e1 : IntKind.i64.wrap ((m : Int) - (a : Int)) = ((m - a : Nat) : Int) := by rw [IntKind.wrap_i64]; omega
  have e2 : IntKind.i64.wrap ((b : Int) - (m : Int)) = ((b - m : Nat) : Int) := by rw [IntKind.wrap_i64]; omega
  obtain ⟨i0, hi0⟩ : ∃ i, m - a = i := ⟨_, rfl⟩
  obtain ⟨j0, hj0⟩ : ∃ i, b - m = i := ⟨_, rfl⟩
  rw [hi0] at e1
  rw [hj0] at e2
  have hi1 : i0 ≤ m ∧ 0 < i0 := by omega
  have hj1 : m + j0 ≤ d.size ∧ 0 < j0 := by omega
  clear hi0 hj0
  go_enter Tryz.func113, Tryz.ntmps113
  go_wp2_with fail
  clear e1 e2
  go_loopg [10, 11] (i0 + j0) (fun gk s10 s11 wr => ∃ (i j : Nat) (dk : Array α), s10 = .int .i64 i ∧ s11 = .int .i64 j ∧ i ≤ m ∧ 0 < i ∧ m + j ≤ d.size ∧ 0 < j ∧ i + j ≤ gk ∧ Hid (Pm d dk) ∧ Aside (SWK enc k w0 blk off dk wr))
  case atStart => exact ⟨i0, j0, d, rfl, rfl, hi1.1, hi1.2, hj1.1, hj1.2, Nat.le_refl _, Lib.hid (Pm.refl d), S0⟩
  case round =>
    clear S0 hi1 hj1
    obtain ⟨i, j, dk, rfl, rfl, hi1, hi2, hj1, hj2, hgk, HP, S1⟩ := hrel
    have HSd := Lib.hid (fun x y n => HS.out dk wr x y n HP.out.1 S1.out)
    have f1 : IntKind.i64.wrap ((m : Int) - (i : Int)) = ((m - i : Nat) : Int) := by rw [IntKind.wrap_i64]; omega
    rcases Nat.lt_trichotomy i j with hij | hij | hij
    · have h1 : ((i : Int) != (j : Int)) = true := by simp; omega
      have h2 : ¬ (j : Int) < (i : Int) := by omega
      have f2 : IntKind.i64.wrap ((m : Int) + (j : Int)) = ((m + j : Nat) : Int) := by rw [IntKind.wrap_i64]; omega
      have f3 : IntKind.i64.wrap (((m + j : Nat) : Int) - (i : Int)) = ((m + j - i : Nat) : Int) := by rw [IntKind.wrap_i64]; omega
      have f4 : IntKind.i64.wrap ((j : Int) - (i : Int)) = ((j - i : Nat) : Int) := by rw [IntKind.wrap_i64]; omega
      have HC := Lib.hid (HSd.out (m - i) (m + j - i) i (by omega) (by omega))
      generalize m - i = x1 at *
      generalize m + j - i = x2 at *
      generalize hx3 : m + j = x3 at *
      generalize hj3 : j - i = j3 at *
      go_wp2_with (go_at_call 120; refine HC.out.mono ?_; rintro e w2 ⟨rfl, d2, hp2, hs2⟩)
      go_roundg (i + j3)
      case measure => omega
      case rel => exact ⟨i, j3, d2, rfl, rfl, hi1, hi2, by omega, by omega, Nat.le_refl _, Lib.hid (HP.out.trans hp2), hs2⟩
    · subst hij
      have h1 : ((i : Int) != (i : Int)) = false := by simp
      have HC := Lib.hid (HSd.out (m - i) m i (by omega) (by omega))
      generalize m - i = x1 at *
      go_wp2_with (go_at_call 120; refine HC.out.mono ?_; rintro e w2 ⟨rfl, d2, hp2, hs2⟩)
      first | go_end0 | refine bodyPost_ret (results_none rfl _ _ _) rfl ?_
      exact ⟨rfl, d2, HP.out.trans hp2, hs2⟩
    · have h1 : ((i : Int) != (j : Int)) = true := by simp; omega
      have h2 : (j : Int) < (i : Int) := by omega
      have f4 : IntKind.i64.wrap ((i : Int) - (j : Int)) = ((i - j : Nat) : Int) := by rw [IntKind.wrap_i64]; omega
      have HC := Lib.hid (HSd.out (m - i) m j (by omega) (by omega))
      generalize m - i = x1 at *
      generalize hj3 : i - j = j3 at *
      go_wp2_with (go_at_call 120; refine HC.out.mono ?_; rintro e w2 ⟨rfl, d2, hp2, hs2⟩)
      go_roundg (j3 + j)
      case measure => omega
      case rel => exact ⟨j3, j, d2, rfl, rfl, by omega, by omega, hj1, hj2, Nat.le_refl _, Lib.hid (HP.out.trans hp2), hs2⟩
end Go.Proofs.YtikegddlbelfaaaGreatDoor
namespace Go.Proofs.YtikegddlbelfaaaGreatDoor
open Go.RowKit Go.Shelf Go.Lib Go.Sort

variable {α : Type} [Inhabited α]
set_option maxHeartbeats 4000000 in
set_option maxRecDepth 1000000 in
theorem insI_any (k : Nat) (aE : ∀ w, (isAgg 43).run Tryz.prog w = .ok true w) (zE : ∀ w, (Go.sizeOf 43).run Tryz.prog w = .ok k w) (enc : α → List Value) (cf : α → α → Int) (g : Nat) (cb : Array Value) (blk off cap a b : Nat) (d0 d : Array α) (w0 w : World)
    (eg : ∀ args w, (callFunc g args).run Tryz.prog w = .ok (.enter g args) w) (hcmp : CmpLays Tryz.prog g cb enc k cf blk off d0.size w0) (R : RowK enc k w0 blk off d0) (hs : d0.size = d.size) (S : SWK enc k w0 blk off d w) (hb : b ≤ d.size) (hsz : d.size < 4611686018427387904) (ha : a < 4611686018427387904) :
    Calls Tryz.prog 96 #[.slice (some ⟨blk, off, none⟩) d.size cap, .int .i64 a, .int .i64 b, .func (.func g) #[] cb] w fun e w' => e = .returned (.tuple #[]) ∧ ∃ d', Pm d d' ∧ SWK enc k w0 blk off d' w' := by
  have S0 : Aside (SWK enc k w0 blk off d w) := S
  have mixed : Tryz.prog.follows .mixedOrders = true := by kernel_rfl
  have HC : Aside _ := hcmp
  clear S hcmp
  go_enter Tryz.func96, Tryz.ntmps96
  go_wp2_with fail
  go_loopg [8] (b - a) (fun g1 s8 wr => ∃ (i : Nat) (dk : Array α), s8 = .int .i64 i ∧ a < i ∧ b - i ≤ g1 ∧ i ≤ 4611686018427387904 ∧ Hid (Pm d dk) ∧ Aside (SWK enc k w0 blk off dk wr))
  case atStart => exact ⟨a + 1, d, by go_num, by omega, by omega, by omega, Lib.hid (Pm.refl d), S0⟩
  case round =>
    clear S0
    obtain ⟨i, dk, rfl, hai, hg2, hi62, HP, S1⟩ := hrel
    by_cases hlt : i < b
    · have hltz : (i : Int) < (b : Int) := by omega
      go_wp2_with fail
      go_loopg [9] i (fun g2 s9 wr2 => ∃ (j : Nat) (dj : Array α), s9 = .int .i64 j ∧ a ≤ j ∧ j ≤ i ∧ j = g2 ∧ Hid (Pm d dj) ∧ Aside (SWK enc k w0 blk off dj wr2))
      case atStart => exact ⟨i, dk, rfl, by omega, Nat.le_refl _, rfl, HP, S1⟩
      case round =>
        clear S1 HP
        obtain ⟨j, dj, rfl, haj, hji, hjg, HP, S2⟩ := hrel
        have hds := HP.out.1
        by_cases hja : a < j
        · have hjaz : (a : Int) < (j : Int) := by omega
          obtain ⟨jp, rfl⟩ : ∃ jp, j = jp + 1 := ⟨j - 1, by omega⟩
          have hPs : Hid (Pm d (swp dj (jp + 1) jp)) := Lib.hid (HP.out.swp (by omega) (by omega))
          have hJ : IntKind.i64.wrap (((jp + 1 : Nat) : Int) - 1) = (jp : Int) := by rw [IntKind.wrap_i64]; omega
          obtain ⟨y, hy⟩ : ∃ y, jp + 1 = y := ⟨_, rfl⟩
          have hy1 : y < d.size := by omega
          have hjp : jp < d.size := by omega
          rw [hy] at hjaz hPs hJ ⊢
          have HY := Lib.hid (show y = jp + 1 from hy.symm)
          clear hy
          have eA : ((y : Nat) : Int).toNat = y := by omega
          have pA : (0 : Int) ≤ ((y : Nat) : Int) := by omega
          have bA : ((y : Nat) : Int) < (d.size : Int) := by omega
          have rA : IntKind.i64.wrap ((y : Nat) : Int) = ((y : Nat) : Int) := by rw [IntKind.wrap_i64]; omega
          have eB : ((jp : Nat) : Int).toNat = jp := by omega
          have pB : (0 : Int) ≤ ((jp : Nat) : Int) := by omega
          have bB : ((jp : Nat) : Int) < (d.size : Int) := by omega
          have rB : IntKind.i64.wrap ((jp : Nat) : Int) = ((jp : Nat) : Int) := by rw [IntKind.wrap_i64]; omega
          obtain ⟨x0, hx0⟩ : ∃ x, x = dj[y]! := ⟨_, rfl⟩
          obtain ⟨y0, hy0⟩ : ∃ x, x = dj[jp]! := ⟨_, rfl⟩
          have la := S2.out.ld R (by omega) Tryz.prog y (by omega)
          have lb := S2.out.ld R (by omega) Tryz.prog jp (by omega)
          rw [← hx0] at la
          rw [← hy0] at lb
          have hc := S2.out.cmp HC.out (by omega) x0 y0
          clear hx0 hy0
          by_cases hv : cf x0 y0 < 0
          · go_wp2_with fail
            go_quiet_grown (first | (go_at_fn g; refine Calls.grown_of (hc _ _)))
            have S3 : Aside (SWK enc k w0 blk off dj (grow (wr.drewN nq) osq)) := S2.out.grown nq osq
            clear la lb hc S2 eA pA bA rA eB pB bB rB hv
            generalize grow (wr.drewN nq) osq = w2 at S3 ⊢
            clear nq osq
            go_wp2_with fail
            have eA : ((y : Nat) : Int).toNat = y := by omega
            have pA : (0 : Int) ≤ ((y : Nat) : Int) := by omega
            have bA : ((y : Nat) : Int) < (d.size : Int) := by omega
            have rA : IntKind.i64.wrap ((y : Nat) : Int) = ((y : Nat) : Int) := by rw [IntKind.wrap_i64]; omega
            have eB : ((jp : Nat) : Int).toNat = jp := by omega
            have pB : (0 : Int) ≤ ((jp : Nat) : Int) := by omega
            have bB : ((jp : Nat) : Int) < (d.size : Int) := by omega
            have rB : IntKind.i64.wrap ((jp : Nat) : Int) = ((jp : Nat) : Int) := by rw [IntKind.wrap_i64]; omega
            have S4 : Aside (SWK enc k w0 blk off (swp dj (y) (jp)) ((w2.drew.setCells blk (off + (y) * k) (enc dj[jp]!)).setCells blk (off + (jp) * k) (enc dj[y]!))) := S3.out.swapped R (y) (jp) (by omega) (by omega)
            have l44a := S3.out.ld1 R (by omega) Tryz.prog (y) (by omega)
            have l44b := S3.out.ld1 R (by omega) Tryz.prog (jp) (by omega)
            have s44a := S3.out.st1 R (by omega) Tryz.prog (y) (by omega) dj[jp]!
            have s44b := S3.out.st2 R (by omega) Tryz.prog (y) (jp) (by omega) (by omega) dj[jp]! dj[y]!
            have n44a : (enc dj[y]!).length = k := R.hk _
            have n44b : (enc dj[jp]!).length = k := R.hk _
            generalize enc dj[y]! = cI44 at S4 l44a s44b n44a
            generalize enc dj[jp]! = cJ44 at S4 l44b s44a s44b n44b
            clear S3
            go_wp2_with fail
            go_big_region_o
            clear l44a l44b s44a s44b eA pA bA rA eB pB bB rB n44a n44b
            generalize (w2.drew.setCells blk (off + (y) * k) cJ44).setCells blk (off + (jp) * k) cI44 = w3 at S4 ⊢
            go_wp2
            go_roundg jp
            case measure => have := HY.out; omega
            case rel => exact ⟨jp, _, by first | rfl | go_num, by have := HY.out; omega, by have := HY.out; omega, rfl, hPs, S4⟩
          · go_wp2_with fail
            go_quiet_grown (first | (go_at_fn g; refine Calls.grown_of (hc _ _)))
            have S3 : Aside (SWK enc k w0 blk off dj (grow (wr.drewN nq) osq)) := S2.out.grown nq osq
            clear la lb hc S2 eA pA bA rA eB pB bB rB
            generalize grow (wr.drewN nq) osq = w2 at S3 ⊢
            clear nq osq
            go_wp2
            go_roundg (b - (i + 1))
            case measure => omega
            case rel => exact ⟨i + 1, dj, by go_num, by omega, by omega, by omega, HP, S3⟩
        · have hja2 : j = a := by omega
          rw [hja2]
          clear hja2
          go_wp2_with fail
          go_quiet (fail)
          have S3 : Aside (SWK enc k w0 blk off dj (wr.drewN nq)) := S2.out.drewN nq
          generalize wr.drewN nq = w2 at S3 ⊢
          go_wp2
          go_roundg (b - (i + 1))
          case measure => omega
          case rel => exact ⟨i + 1, dj, by go_num, by omega, by omega, by omega, HP, S3⟩
    · have hltz : ¬ (i : Int) < (b : Int) := by omega
      go_wp2_with fail
      first | go_end0 | refine bodyPost_ret (results_none rfl _ _ _) rfl ?_
      exact ⟨rfl, dk, HP.out, S1.out⟩
end Go.Proofs.YtikegddlbelfaaaGreatDoor
namespace Go.Proofs.YtikegddlbelfaaaGreatDoor
open Go.RowKit Go.Shelf Go.Lib Go.Sort

theorem half_facts (i j b : Nat) (h1 : i < j) (h2 : j ≤ b) (h3 : b < 4611686018427387904) : ∃ h : Nat, (i ≤ h ∧ h < j) ∧ ((i : Int) + (j : Int)) / 2 = (h : Int) ∧ IntKind.i64.wrap ((i : Int) + (j : Int)) = (i : Int) + (j : Int) ∧ IntKind.u64.wrap ((i : Int) + (j : Int)) = (i : Int) + (j : Int) :=
  ⟨(i + j) / 2, by omega, by omega, by rw [IntKind.wrap_i64]; omega, by rw [IntKind.wrap_u64]; omega⟩
theorem mid_facts (a m b : Nat) (h1 : a < m) (h2 : m < b) (_h4 : m - a ≠ 1) (_h5 : b - m ≠ 1) (h3 : b < 4611686018427387904) : ∃ h : Nat, (a < h ∧ h < b ∧ a + b ≤ 2 * h + 1 ∧ 2 * h ≤ a + b) ∧ ((a : Int) + (b : Int)) / 2 = (h : Int) ∧ IntKind.i64.wrap ((a : Int) + (b : Int)) = (a : Int) + (b : Int) ∧ IntKind.u64.wrap ((a : Int) + (b : Int)) = (a : Int) + (b : Int) :=
  ⟨(a + b) / 2, by omega, by omega, by rw [IntKind.wrap_i64]; omega, by rw [IntKind.wrap_u64]; omega⟩
variable {α : Type} [Inhabited α]
set_option maxHeartbeats 16000000 in
set_option maxRecDepth 1000000 in
theorem symI_any (k : Nat) (aE : ∀ w, (isAgg 43).run Tryz.prog w = .ok true w) (zE : ∀ w, (Go.sizeOf 43).run Tryz.prog w = .ok k w) (enc : α → List Value) (cf : α → α → Int) (g : Nat) (cb : Array Value) (blk off cap : Nat) (d0 : Array α) (w0 : World)
    (eg : ∀ args w, (callFunc g args).run Tryz.prog w = .ok (.enter g args) w) (hcmp : CmpLays Tryz.prog g cb enc k cf blk off d0.size w0) (R : RowK enc k w0 blk off d0) (hsz : d0.size < 4611686018427387904) : ∀ (N a m b : Nat) (d : Array α) (w : World), b - a ≤ N → d.size = d0.size → SWK enc k w0 blk off d w → a < m → m < b → b ≤ d0.size →
    Calls Tryz.prog 97 #[.slice (some ⟨blk, off, none⟩) d.size cap, .int .i64 a, .int .i64 m, .int .i64 b, .func (.func g) #[] cb] w fun e w' => e = .returned (.tuple #[]) ∧ ∃ d', Pm d d' ∧ SWK enc k w0 blk off d' w'
    := by
  intro N
  induction N with
  | zero => intro a m b d w hN hs S ham hmb hb; omega
  | succ N ih =>
    intro a m b d w hN hs S ham hmb hb
    have S0 : Aside (SWK enc k w0 blk off d w) := S
    have IH : Hid (∀ (a' m' b' : Nat) (d' : Array α) (w' : World), b' - a' ≤ N → d'.size = d.size → SWK enc k w0 blk off d' w' → a' < m' → m' < b' → b' ≤ d.size → Calls Tryz.prog 97 #[.slice (some ⟨blk, off, none⟩) d.size cap, .int .i64 a', .int .i64 m', .int .i64 b', .func (.func g) #[] cb] w' fun e w'' => e = .returned (.tuple #[]) ∧ ∃ d'', Pm d' d'' ∧ SWK enc k w0 blk off d'' w'') := Lib.hid (fun a' m' b' d' w' h1 h2 h3 h4 h5 h6 => by
      have := ih a' m' b' d' w' h1 (h2.trans hs) h3 h4 h5 (by omega)
      rw [h2] at this
      exact this)
    have HR : Hid (∀ (d' : Array α) (w' : World) (a' m' b' : Nat), d'.size = d.size → SWK enc k w0 blk off d' w' → a' < m' → m' < b' → b' ≤ d.size → Calls Tryz.prog 113 #[.slice (some ⟨blk, off, none⟩) d.size cap, .int .i64 a', .int .i64 m', .int .i64 b', .func (.func g) #[] cb] w' fun e w'' => e = .returned (.tuple #[]) ∧ ∃ d'', Pm d' d'' ∧ SWK enc k w0 blk off d'' w'') := Lib.hid (fun d' w' a' m' b' h2 h3 h4 h5 h6 => by
      have := rotateI_any k aE zE enc (.func (.func g) #[] cb) blk off cap a' m' b' d0 d' w0 w' R (hs.symm.trans h2.symm) h3 h4 h5 (by omega) (by omega)
      rw [h2] at this
      exact this)
    have mixed : Tryz.prog.follows .mixedOrders = true := by kernel_rfl
    have HC : Aside _ := hcmp
    rw [← hs] at hb hsz
    have hs' := hs.symm
    clear S hcmp ih hs
    have hm1 : IntKind.i64.wrap ((m : Int) - (a : Int)) = ((m - a : Nat) : Int) := by rw [IntKind.wrap_i64]; omega
    have hm2 : IntKind.i64.wrap ((b : Int) - (m : Int)) = ((b - m : Nat) : Int) := by rw [IntKind.wrap_i64]; omega
    obtain ⟨ma, hma⟩ : ∃ x, m - a = x := ⟨_, rfl⟩
    obtain ⟨bm, hbm⟩ : ∃ x, b - m = x := ⟨_, rfl⟩
    rw [hma] at hm1
    rw [hbm] at hm2
    go_enter Tryz.func97, Tryz.ntmps97
    by_cases h1 : ma = 1
    · have h1z : ((ma : Int) == 1) = true := by simp [h1]
      clear hm2 IH HR hma hbm h1 hN
      go_wp2_with fail
      go_loopg [10, 11] (b - m) (fun gk si sj wr => ∃ i j : Nat, si = .int .i64 i ∧ sj = .int .i64 j ∧ m ≤ i ∧ i ≤ j ∧ j ≤ b ∧ j - i ≤ gk ∧ Aside (SWK enc k w0 blk off d wr))
      case atStart => exact ⟨m, b, by first | rfl | go_num, by first | rfl | go_num, Nat.le_refl _, by omega, Nat.le_refl _, Nat.le_refl _, S0⟩
      case round =>
        clear S0
        obtain ⟨i, j, rfl, rfl, hi1, hi2, hi3, hi4, S1⟩ := hrel
        by_cases hlt : i < j
        · have hltz : (i : Int) < (j : Int) := by omega
          obtain ⟨h, hh3, hh2, hqi, hqu⟩ := half_facts i j b hlt (by omega) (Nat.lt_of_le_of_lt hb hsz)

          have eA : ((h : Nat) : Int).toNat = h := by omega
          have pA : (0 : Int) ≤ ((h : Nat) : Int) := by omega
          have bA : ((h : Nat) : Int) < (d.size : Int) := by omega
          have rA : IntKind.i64.wrap ((h : Nat) : Int) = ((h : Nat) : Int) := by rw [IntKind.wrap_i64]; omega
          have eB : ((a : Nat) : Int).toNat = a := by omega
          have pB : (0 : Int) ≤ ((a : Nat) : Int) := by omega
          have bB : ((a : Nat) : Int) < (d.size : Int) := by omega
          have rB : IntKind.i64.wrap ((a : Nat) : Int) = ((a : Nat) : Int) := by rw [IntKind.wrap_i64]; omega
          obtain ⟨x0, hx0⟩ : ∃ x, x = d[h]! := ⟨_, rfl⟩
          obtain ⟨y0, hy0⟩ : ∃ x, x = d[a]! := ⟨_, rfl⟩
          have la := S1.out.ld R (by omega) Tryz.prog (h) (by omega)
          have lb := S1.out.ld R (by omega) Tryz.prog (a) (by omega)
          rw [← hx0] at la
          rw [← hy0] at lb
          have hc := S1.out.cmp HC.out (by omega) x0 y0
          clear hx0 hy0
          by_cases hv : cf x0 y0 < 0
          · have hd : decide (cf x0 y0 < 0) = true := by simpa using hv
            go_wp2_with fail
            go_quiet_grown (first | (go_at_fn g; refine Calls.grown_of (hc _ _)))
            have S2 : Aside (SWK enc k w0 blk off d (grow (wr.drewN nq) osq)) := S1.out.grown nq osq
            clear la lb hc S1 eA pA bA rA eB pB bB rB
            generalize grow (wr.drewN nq) osq = w2 at S2 ⊢
            clear nq osq
            go_wp2
            go_roundg (j - (h + 1))
            case measure => omega
            case rel => exact ⟨h + 1, j, by first | rfl | go_num, rfl, by omega, by omega, by omega, Nat.le_refl _, S2⟩
          · have hd : decide (cf x0 y0 < 0) = false := by simpa using hv
            go_wp2_with fail
            go_quiet_grown (first | (go_at_fn g; refine Calls.grown_of (hc _ _)))
            have S2 : Aside (SWK enc k w0 blk off d (grow (wr.drewN nq) osq)) := S1.out.grown nq osq
            clear la lb hc S1 eA pA bA rA eB pB bB rB
            generalize grow (wr.drewN nq) osq = w2 at S2 ⊢
            clear nq osq
            go_wp2
            go_roundg (h - i)
            case measure => omega
            case rel => exact ⟨i, h, rfl, by first | rfl | go_num, by omega, by omega, by omega, Nat.le_refl _, S2⟩
        · have hltz : ¬ (i : Int) < (j : Int) := by omega
          have hij : i = j := by omega
          subst hij
          clear hi4 hi2
          have hI1 : IntKind.i64.wrap ((i : Int) - 1) = ((i - 1 : Nat) : Int) := by rw [IntKind.wrap_i64]; omega
          obtain ⟨i1, hi1d⟩ : ∃ x, i - 1 = x := ⟨_, rfl⟩
          rw [hi1d] at hI1
          go_wp2_with fail
          go_loopg [13] (i1 - a) (fun gk sk wr2 => ∃ (x : Nat) (dk : Array α), sk = .int .i64 x ∧ a ≤ x ∧ i1 - x ≤ gk ∧ x ≤ d.size ∧ Hid (Pm d dk) ∧ Aside (SWK enc k w0 blk off dk wr2))
          case atStart => exact ⟨a, d, rfl, Nat.le_refl _, Nat.le_refl _, by omega, Lib.hid (Pm.refl d), S1⟩
          case round =>
            clear S1
            obtain ⟨x, dk, rfl, hx1, hx2, hx3, HP, S2⟩ := hrel
            have hds := HP.out.1
            by_cases hlt2 : x < i1
            · have hltz2 : (x : Int) < (i1 : Int) := by omega
              have hY : IntKind.i64.wrap ((x : Int) + 1) = ((x + 1 : Nat) : Int) := by rw [IntKind.wrap_i64]; omega
              have hPs : Hid (Pm d (swp dk x (x + 1))) := Lib.hid (HP.out.swp (by omega) (by omega))
              obtain ⟨y, hy⟩ : ∃ y, x + 1 = y := ⟨_, rfl⟩
              rw [hy] at hY hPs
              have hy1 : y < d.size := by omega
              have hxl : x < d.size := by omega
              have HY := Lib.hid hy
              clear hy
              go_wp2_with fail
              have eA : ((x : Nat) : Int).toNat = x := by omega
              have pA : (0 : Int) ≤ ((x : Nat) : Int) := by omega
              have bA : ((x : Nat) : Int) < (d.size : Int) := by omega
              have rA : IntKind.i64.wrap ((x : Nat) : Int) = ((x : Nat) : Int) := by rw [IntKind.wrap_i64]; omega
              have eB : ((y : Nat) : Int).toNat = y := by omega
              have pB : (0 : Int) ≤ ((y : Nat) : Int) := by omega
              have bB : ((y : Nat) : Int) < (d.size : Int) := by omega
              have rB : IntKind.i64.wrap ((y : Nat) : Int) = ((y : Nat) : Int) := by rw [IntKind.wrap_i64]; omega
              have S3 : Aside (SWK enc k w0 blk off (swp dk (x) (y)) ((wr.drew.setCells blk (off + (x) * k) (enc dk[y]!)).setCells blk (off + (y) * k) (enc dk[x]!))) := S2.out.swapped R (x) (y) (by omega) (by omega)
              have l44a := S2.out.ld1 R (by omega) Tryz.prog (x) (by omega)
              have l44b := S2.out.ld1 R (by omega) Tryz.prog (y) (by omega)
              have s44a := S2.out.st1 R (by omega) Tryz.prog (x) (by omega) dk[y]!
              have s44b := S2.out.st2 R (by omega) Tryz.prog (x) (y) (by omega) (by omega) dk[y]! dk[x]!
              have n44a : (enc dk[x]!).length = k := R.hk _
              have n44b : (enc dk[y]!).length = k := R.hk _
              generalize enc dk[x]! = cI44 at S3 l44a s44b n44a
              generalize enc dk[y]! = cJ44 at S3 l44b s44a s44b n44b
              clear S2
              go_wp2_with fail
              go_big_region_o
              clear l44a l44b s44a s44b eA pA bA rA eB pB bB rB n44a n44b
              generalize (wr.drew.setCells blk (off + (x) * k) cJ44).setCells blk (off + (y) * k) cI44 = w2 at S3 ⊢
              go_wp2
              go_roundg (gk - 1)
              case measure => omega
              case rel => exact ⟨y, _, rfl, by have := HY.out; omega, by have := HY.out; omega, by have := HY.out; omega, hPs, S3⟩
            · have hltz2 : ¬ (x : Int) < (i1 : Int) := by omega
              go_wp2_with fail
              first | go_end0 | refine bodyPost_ret (results_none rfl _ _ _) rfl ?_
              exact ⟨rfl, dk, HP.out, S2.out⟩
    · have h1z : ((ma : Int) == 1) = false := by simp; omega
      by_cases h2 : bm = 1
      · have h2z : ((bm : Int) == 1) = true := by simp [h2]
        clear IH HR hma hbm h2 h1 hN
        go_wp2_with fail
        go_loopg [14, 15] (m - a) (fun gk si sj wr => ∃ i j : Nat, si = .int .i64 i ∧ sj = .int .i64 j ∧ a ≤ i ∧ i ≤ j ∧ j ≤ m ∧ j - i ≤ gk ∧ Aside (SWK enc k w0 blk off d wr))
        case atStart => exact ⟨a, m, by first | rfl | go_num, by first | rfl | go_num, Nat.le_refl _, by omega, Nat.le_refl _, Nat.le_refl _, S0⟩
        case round =>
          clear S0
          obtain ⟨i, j, rfl, rfl, hi1, hi2, hi3, hi4, S1⟩ := hrel
          by_cases hlt : i < j
          · have hltz : (i : Int) < (j : Int) := by omega
            obtain ⟨h, hh3, hh2, hqi, hqu⟩ := half_facts i j b hlt (by omega) (Nat.lt_of_le_of_lt hb hsz)

            have eA : ((m : Nat) : Int).toNat = m := by omega
            have pA : (0 : Int) ≤ ((m : Nat) : Int) := by omega
            have bA : ((m : Nat) : Int) < (d.size : Int) := by omega
            have rA : IntKind.i64.wrap ((m : Nat) : Int) = ((m : Nat) : Int) := by rw [IntKind.wrap_i64]; omega
            have eB : ((h : Nat) : Int).toNat = h := by omega
            have pB : (0 : Int) ≤ ((h : Nat) : Int) := by omega
            have bB : ((h : Nat) : Int) < (d.size : Int) := by omega
            have rB : IntKind.i64.wrap ((h : Nat) : Int) = ((h : Nat) : Int) := by rw [IntKind.wrap_i64]; omega
            obtain ⟨x0, hx0⟩ : ∃ x, x = d[m]! := ⟨_, rfl⟩
            obtain ⟨y0, hy0⟩ : ∃ x, x = d[h]! := ⟨_, rfl⟩
            have la := S1.out.ld R (by omega) Tryz.prog (m) (by omega)
            have lb := S1.out.ld R (by omega) Tryz.prog (h) (by omega)
            rw [← hx0] at la
            rw [← hy0] at lb
            have hc := S1.out.cmp HC.out (by omega) x0 y0
            clear hx0 hy0
            by_cases hv : cf x0 y0 < 0
            · have hd : decide (cf x0 y0 < 0) = true := by simpa using hv
              go_wp2_with fail
              go_quiet_grown (first | (go_at_fn g; refine Calls.grown_of (hc _ _)))
              have S2 : Aside (SWK enc k w0 blk off d (grow (wr.drewN nq) osq)) := S1.out.grown nq osq
              clear la lb hc S1 eA pA bA rA eB pB bB rB
              generalize grow (wr.drewN nq) osq = w2 at S2 ⊢
              clear nq osq
              go_wp2
              go_roundg (h - i)
              case measure => omega
              case rel => exact ⟨i, h, rfl, by first | rfl | go_num, by omega, by omega, by omega, Nat.le_refl _, S2⟩
            · have hd : decide (cf x0 y0 < 0) = false := by simpa using hv
              go_wp2_with fail
              go_quiet_grown (first | (go_at_fn g; refine Calls.grown_of (hc _ _)))
              have S2 : Aside (SWK enc k w0 blk off d (grow (wr.drewN nq) osq)) := S1.out.grown nq osq
              clear la lb hc S1 eA pA bA rA eB pB bB rB
              generalize grow (wr.drewN nq) osq = w2 at S2 ⊢
              clear nq osq
              go_wp2
              go_roundg (j - (h + 1))
              case measure => omega
              case rel => exact ⟨h + 1, j, by first | rfl | go_num, rfl, by omega, by omega, by omega, Nat.le_refl _, S2⟩
          · have hltz : ¬ (i : Int) < (j : Int) := by omega
            have hij : i = j := by omega
            subst hij
            clear hi4 hi2
            go_wp2_with fail
            go_loopg [17] (m - i) (fun gk sk wr2 => ∃ (x : Nat) (dk : Array α), sk = .int .i64 x ∧ x ≤ m ∧ x - i ≤ gk ∧ Hid (Pm d dk) ∧ Aside (SWK enc k w0 blk off dk wr2))
            case atStart => exact ⟨m, d, rfl, Nat.le_refl _, Nat.le_refl _, Lib.hid (Pm.refl d), S1⟩
            case round =>
              clear S1
              obtain ⟨x, dk, rfl, hx1, hx2, HP, S2⟩ := hrel
              have hds := HP.out.1
              by_cases hlt2 : i < x
              · have hltz2 : (i : Int) < (x : Int) := by omega
                have hY : IntKind.i64.wrap ((x : Int) - 1) = ((x - 1 : Nat) : Int) := by rw [IntKind.wrap_i64]; omega
                have hPs : Hid (Pm d (swp dk x (x - 1))) := Lib.hid (HP.out.swp (by omega) (by omega))
                obtain ⟨y, hy⟩ : ∃ y, x - 1 = y := ⟨_, rfl⟩
                rw [hy] at hY hPs
                have hy1 : y < d.size := by omega
                have hxl : x < d.size := by omega
                have HY := Lib.hid hy
                clear hy
                go_wp2_with fail
                have eA : ((x : Nat) : Int).toNat = x := by omega
                have pA : (0 : Int) ≤ ((x : Nat) : Int) := by omega
                have bA : ((x : Nat) : Int) < (d.size : Int) := by omega
                have rA : IntKind.i64.wrap ((x : Nat) : Int) = ((x : Nat) : Int) := by rw [IntKind.wrap_i64]; omega
                have eB : ((y : Nat) : Int).toNat = y := by omega
                have pB : (0 : Int) ≤ ((y : Nat) : Int) := by omega
                have bB : ((y : Nat) : Int) < (d.size : Int) := by omega
                have rB : IntKind.i64.wrap ((y : Nat) : Int) = ((y : Nat) : Int) := by rw [IntKind.wrap_i64]; omega
                have S3 : Aside (SWK enc k w0 blk off (swp dk (x) (y)) ((wr.drew.setCells blk (off + (x) * k) (enc dk[y]!)).setCells blk (off + (y) * k) (enc dk[x]!))) := S2.out.swapped R (x) (y) (by omega) (by omega)
                have l44a := S2.out.ld1 R (by omega) Tryz.prog (x) (by omega)
                have l44b := S2.out.ld1 R (by omega) Tryz.prog (y) (by omega)
                have s44a := S2.out.st1 R (by omega) Tryz.prog (x) (by omega) dk[y]!
                have s44b := S2.out.st2 R (by omega) Tryz.prog (x) (y) (by omega) (by omega) dk[y]! dk[x]!
                have n44a : (enc dk[x]!).length = k := R.hk _
                have n44b : (enc dk[y]!).length = k := R.hk _
                generalize enc dk[x]! = cI44 at S3 l44a s44b n44a
                generalize enc dk[y]! = cJ44 at S3 l44b s44a s44b n44b
                clear S2
                go_wp2_with fail
                go_big_region_o
                clear l44a l44b s44a s44b eA pA bA rA eB pB bB rB n44a n44b
                generalize (wr.drew.setCells blk (off + (x) * k) cJ44).setCells blk (off + (y) * k) cI44 = w2 at S3 ⊢
                go_wp2
                go_roundg (gk - 1)
                case measure => omega
                case rel => exact ⟨y, _, rfl, by have := HY.out; omega, by have := HY.out; omega, hPs, S3⟩
              · have hltz2 : ¬ (i : Int) < (x : Int) := by omega
                go_wp2_with fail
                first | go_end0 | refine bodyPost_ret (results_none rfl _ _ _) rfl ?_
                exact ⟨rfl, dk, HP.out, S2.out⟩
      · have h2z : ((bm : Int) == 1) = false := by simp; omega
        obtain ⟨mid, hmid, hmid2, hmqi, hmqu⟩ := mid_facts a m b ham hmb (by omega) (by omega) (Nat.lt_of_le_of_lt hb hsz)
        have hn1 : IntKind.i64.wrap ((mid : Int) + (m : Int)) = ((mid + m : Nat) : Int) := by rw [IntKind.wrap_i64]; omega
        obtain ⟨nn, hnn⟩ : ∃ x, mid + m = x := ⟨_, rfl⟩
        rw [hnn] at hn1
        have hb1 : 1 < ma ∧ 1 < bm := by omega
        clear h1 h2
        by_cases hbig : mid < m
        · have hp1 : IntKind.i64.wrap ((nn : Int) - 1) = ((nn - 1 : Nat) : Int) := by rw [IntKind.wrap_i64]; omega
          obtain ⟨p, hp2⟩ : ∃ x, nn - 1 = x := ⟨_, rfl⟩
          rw [hp2] at hp1
          have hmz : (mid : Int) < (m : Int) := by omega
          have hs1 : IntKind.i64.wrap ((nn : Int) - (b : Int)) = ((nn - b : Nat) : Int) := by rw [IntKind.wrap_i64]; omega
          obtain ⟨s0, hs2⟩ : ∃ x, nn - b = x := ⟨_, rfl⟩
          rw [hs2] at hs1
          have hs3 : s0 ≤ mid := by omega
          go_wp2_with fail
          go_loopg [20, 21] (mid - s0) (fun gk si sj wr => ∃ i j : Nat, si = .int .i64 i ∧ sj = .int .i64 j ∧ s0 ≤ i ∧ i ≤ j ∧ j ≤ mid ∧ j - i ≤ gk ∧ Aside (SWK enc k w0 blk off d wr))
          case atStart => exact ⟨s0, mid, by first | rfl | go_num, by first | rfl | go_num, Nat.le_refl _, by omega, Nat.le_refl _, Nat.le_refl _, S0⟩
          case round =>
            clear S0
            obtain ⟨i, j, rfl, rfl, hi1, hi2, hi3, hi4, S1⟩ := hrel
            by_cases hlt : i < j
            · have hltz : (i : Int) < (j : Int) := by omega
              obtain ⟨h, hh3, hh2, hqi, hqu⟩ := half_facts i j b hlt (by omega) (Nat.lt_of_le_of_lt hb hsz)
              have hqw : IntKind.i64.wrap ((p : Int) - (h : Int)) = ((p - h : Nat) : Int) := by rw [IntKind.wrap_i64]; omega
              obtain ⟨q, hq2⟩ : ∃ x, p - h = x := ⟨_, rfl⟩
              rw [hq2] at hqw
              have hq3 : q < d.size := by omega
              have eA : ((q : Nat) : Int).toNat = q := by omega
              have pA : (0 : Int) ≤ ((q : Nat) : Int) := by omega
              have bA : ((q : Nat) : Int) < (d.size : Int) := by omega
              have rA : IntKind.i64.wrap ((q : Nat) : Int) = ((q : Nat) : Int) := by rw [IntKind.wrap_i64]; omega
              have eB : ((h : Nat) : Int).toNat = h := by omega
              have pB : (0 : Int) ≤ ((h : Nat) : Int) := by omega
              have bB : ((h : Nat) : Int) < (d.size : Int) := by omega
              have rB : IntKind.i64.wrap ((h : Nat) : Int) = ((h : Nat) : Int) := by rw [IntKind.wrap_i64]; omega
              obtain ⟨x0, hx0⟩ : ∃ x, x = d[q]! := ⟨_, rfl⟩
              obtain ⟨y0, hy0⟩ : ∃ x, x = d[h]! := ⟨_, rfl⟩
              have la := S1.out.ld R (by omega) Tryz.prog (q) (by omega)
              have lb := S1.out.ld R (by omega) Tryz.prog (h) (by omega)
              rw [← hx0] at la
              rw [← hy0] at lb
              have hc := S1.out.cmp HC.out (by omega) x0 y0
              clear hx0 hy0
              by_cases hv : cf x0 y0 < 0
              · have hd : decide (cf x0 y0 < 0) = true := by simpa using hv
                go_wp2_with fail
                go_quiet_grown (first | (go_at_fn g; refine Calls.grown_of (hc _ _)))
                have S2 : Aside (SWK enc k w0 blk off d (grow (wr.drewN nq) osq)) := S1.out.grown nq osq
                clear la lb hc S1 eA pA bA rA eB pB bB rB
                generalize grow (wr.drewN nq) osq = w2 at S2 ⊢
                clear nq osq
                go_wp2
                go_roundg (h - i)
                case measure => omega
                case rel => exact ⟨i, h, rfl, by first | rfl | go_num, by omega, by omega, by omega, Nat.le_refl _, S2⟩
              · have hd : decide (cf x0 y0 < 0) = false := by simpa using hv
                go_wp2_with fail
                go_quiet_grown (first | (go_at_fn g; refine Calls.grown_of (hc _ _)))
                have S2 : Aside (SWK enc k w0 blk off d (grow (wr.drewN nq) osq)) := S1.out.grown nq osq
                clear la lb hc S1 eA pA bA rA eB pB bB rB
                generalize grow (wr.drewN nq) osq = w2 at S2 ⊢
                clear nq osq
                go_wp2
                go_roundg (j - (h + 1))
                case measure => omega
                case rel => exact ⟨h + 1, j, by first | rfl | go_num, rfl, by omega, by omega, by omega, Nat.le_refl _, S2⟩
            · have hltz : ¬ (i : Int) < (j : Int) := by omega
              have hij : i = j := by omega
              subst hij
              clear hi4 hi2
              have hen : IntKind.i64.wrap ((nn : Int) - (i : Int)) = ((nn - i : Nat) : Int) := by rw [IntKind.wrap_i64]; omega
              obtain ⟨en, hen2⟩ : ∃ x, nn - i = x := ⟨_, rfl⟩
              rw [hen2] at hen
              have hen3 : en ≤ b := by omega
              have hmi : mid < b ∧ a < mid := by omega
              have S2 : Aside (SWK enc k w0 blk off d wr) := S1
              clear S1
              rcases (show ¬ i < m ∨ (i < m ∧ ¬ m < en) ∨ (i < m ∧ m < en) by omega) with hA | hA | hA
              · have hAz : ¬ (i : Int) < (m : Int) := by omega
                rcases (show ¬ a < i ∨ (a < i ∧ ¬ i < mid) ∨ (a < i ∧ i < mid) by omega) with hB | hB | hB
                · have hBz : ¬ (a : Int) < (i : Int) := by omega
                  rcases (show ¬ mid < en ∨ (mid < en ∧ ¬ en < b) ∨ (mid < en ∧ en < b) by omega) with hC | hC | hC
                  · have hCz : ¬ (mid : Int) < (en : Int) := by omega
                    go_upto_region 41 with fail
                    have hp3 : Pm d d := Pm.refl d
                    have hs3 := S2.out
                    have HZ3 := Lib.hid hp3.1
                    go_upto_region 43 with fail
                    have hp4 : Pm d d := Pm.refl d
                    have hs4 := hs3
                    have HZ4 : Hid ((d : Array α).size = d.size) := Lib.hid (hp4.1.trans (by first | exact HZ3.out | rfl))
                    go_wp2_with fail
                    have hp5 : Pm d d := Pm.refl d
                    have hs5 := hs4
                    first | go_end0 | refine bodyPost_ret (results_none rfl _ _ _) rfl ?_
                    exact ⟨rfl, d, (hp3.trans hp4).trans hp5, hs5⟩
                  · have hCz : (mid : Int) < (en : Int) := by omega
                    have hCy : ¬ (en : Int) < (b : Int) := by omega
                    go_upto_region 41 with fail
                    have hp3 : Pm d d := Pm.refl d
                    have hs3 := S2.out
                    have HZ3 := Lib.hid hp3.1
                    go_upto_region 43 with fail
                    have hp4 : Pm d d := Pm.refl d
                    have hs4 := hs3
                    have HZ4 : Hid ((d : Array α).size = d.size) := Lib.hid (hp4.1.trans (by first | exact HZ3.out | rfl))
                    go_wp2_with fail
                    have hp5 : Pm d d := Pm.refl d
                    have hs5 := hs4
                    first | go_end0 | refine bodyPost_ret (results_none rfl _ _ _) rfl ?_
                    exact ⟨rfl, d, (hp3.trans hp4).trans hp5, hs5⟩
                  · have hCz : (mid : Int) < (en : Int) := by omega
                    have hCy : (en : Int) < (b : Int) := by omega
                    go_upto_region 41 with fail
                    have hp3 : Pm d d := Pm.refl d
                    have hs3 := S2.out
                    have HZ3 := Lib.hid hp3.1
                    go_upto_region 43 with fail
                    have hp4 : Pm d d := Pm.refl d
                    have hs4 := hs3
                    have HZ4 : Hid ((d : Array α).size = d.size) := Lib.hid (hp4.1.trans (by first | exact HZ3.out | rfl))
                    go_wp2_with (go_at_call 97; refine (IH.out mid en b d wr (by omega) (by first | exact HZ4.out | rfl) hs4 hC.1 hC.2 hb).mono ?_; rintro e w5 ⟨rfl, d5, hp5, hs5⟩)
                    first | go_end0 | refine bodyPost_ret (results_none rfl _ _ _) rfl ?_
                    exact ⟨rfl, d5, (hp3.trans hp4).trans hp5, hs5⟩
                · have hBz : (a : Int) < (i : Int) := by omega
                  have hBy : ¬ (i : Int) < (mid : Int) := by omega
                  rcases (show ¬ mid < en ∨ (mid < en ∧ ¬ en < b) ∨ (mid < en ∧ en < b) by omega) with hC | hC | hC
                  · have hCz : ¬ (mid : Int) < (en : Int) := by omega
                    go_upto_region 41 with fail
                    have hp3 : Pm d d := Pm.refl d
                    have hs3 := S2.out
                    have HZ3 := Lib.hid hp3.1
                    go_upto_region 43 with fail
                    have hp4 : Pm d d := Pm.refl d
                    have hs4 := hs3
                    have HZ4 : Hid ((d : Array α).size = d.size) := Lib.hid (hp4.1.trans (by first | exact HZ3.out | rfl))
                    go_wp2_with fail
                    have hp5 : Pm d d := Pm.refl d
                    have hs5 := hs4
                    first | go_end0 | refine bodyPost_ret (results_none rfl _ _ _) rfl ?_
                    exact ⟨rfl, d, (hp3.trans hp4).trans hp5, hs5⟩
                  · have hCz : (mid : Int) < (en : Int) := by omega
                    have hCy : ¬ (en : Int) < (b : Int) := by omega
                    go_upto_region 41 with fail
                    have hp3 : Pm d d := Pm.refl d
                    have hs3 := S2.out
                    have HZ3 := Lib.hid hp3.1
                    go_upto_region 43 with fail
                    have hp4 : Pm d d := Pm.refl d
                    have hs4 := hs3
                    have HZ4 : Hid ((d : Array α).size = d.size) := Lib.hid (hp4.1.trans (by first | exact HZ3.out | rfl))
                    go_wp2_with fail
                    have hp5 : Pm d d := Pm.refl d
                    have hs5 := hs4
                    first | go_end0 | refine bodyPost_ret (results_none rfl _ _ _) rfl ?_
                    exact ⟨rfl, d, (hp3.trans hp4).trans hp5, hs5⟩
                  · have hCz : (mid : Int) < (en : Int) := by omega
                    have hCy : (en : Int) < (b : Int) := by omega
                    go_upto_region 41 with fail
                    have hp3 : Pm d d := Pm.refl d
                    have hs3 := S2.out
                    have HZ3 := Lib.hid hp3.1
                    go_upto_region 43 with fail
                    have hp4 : Pm d d := Pm.refl d
                    have hs4 := hs3
                    have HZ4 : Hid ((d : Array α).size = d.size) := Lib.hid (hp4.1.trans (by first | exact HZ3.out | rfl))
                    go_wp2_with (go_at_call 97; refine (IH.out mid en b d wr (by omega) (by first | exact HZ4.out | rfl) hs4 hC.1 hC.2 hb).mono ?_; rintro e w5 ⟨rfl, d5, hp5, hs5⟩)
                    first | go_end0 | refine bodyPost_ret (results_none rfl _ _ _) rfl ?_
                    exact ⟨rfl, d5, (hp3.trans hp4).trans hp5, hs5⟩
                · have hBz : (a : Int) < (i : Int) := by omega
                  have hBy : (i : Int) < (mid : Int) := by omega
                  rcases (show ¬ mid < en ∨ (mid < en ∧ ¬ en < b) ∨ (mid < en ∧ en < b) by omega) with hC | hC | hC
                  · have hCz : ¬ (mid : Int) < (en : Int) := by omega
                    go_upto_region 41 with fail
                    have hp3 : Pm d d := Pm.refl d
                    have hs3 := S2.out
                    have HZ3 := Lib.hid hp3.1
                    go_upto_region 43 with (go_at_call 97; refine (IH.out a i mid d wr (by omega) (by first | exact HZ3.out | rfl) hs3 hB.1 hB.2 (by omega)).mono ?_; rintro e w4 ⟨rfl, d4, hp4, hs4⟩)
                    have HZ4 : Hid ((d4 : Array α).size = d.size) := Lib.hid (hp4.1.trans (by first | exact HZ3.out | rfl))
                    go_wp2_with fail
                    have hp5 : Pm d4 d4 := Pm.refl d4
                    have hs5 := hs4
                    first | go_end0 | refine bodyPost_ret (results_none rfl _ _ _) rfl ?_
                    exact ⟨rfl, d4, (hp3.trans hp4).trans hp5, hs5⟩
                  · have hCz : (mid : Int) < (en : Int) := by omega
                    have hCy : ¬ (en : Int) < (b : Int) := by omega
                    go_upto_region 41 with fail
                    have hp3 : Pm d d := Pm.refl d
                    have hs3 := S2.out
                    have HZ3 := Lib.hid hp3.1
                    go_upto_region 43 with (go_at_call 97; refine (IH.out a i mid d wr (by omega) (by first | exact HZ3.out | rfl) hs3 hB.1 hB.2 (by omega)).mono ?_; rintro e w4 ⟨rfl, d4, hp4, hs4⟩)
                    have HZ4 : Hid ((d4 : Array α).size = d.size) := Lib.hid (hp4.1.trans (by first | exact HZ3.out | rfl))
                    go_wp2_with fail
                    have hp5 : Pm d4 d4 := Pm.refl d4
                    have hs5 := hs4
                    first | go_end0 | refine bodyPost_ret (results_none rfl _ _ _) rfl ?_
                    exact ⟨rfl, d4, (hp3.trans hp4).trans hp5, hs5⟩
                  · have hCz : (mid : Int) < (en : Int) := by omega
                    have hCy : (en : Int) < (b : Int) := by omega
                    go_upto_region 41 with fail
                    have hp3 : Pm d d := Pm.refl d
                    have hs3 := S2.out
                    have HZ3 := Lib.hid hp3.1
                    go_upto_region 43 with (go_at_call 97; refine (IH.out a i mid d wr (by omega) (by first | exact HZ3.out | rfl) hs3 hB.1 hB.2 (by omega)).mono ?_; rintro e w4 ⟨rfl, d4, hp4, hs4⟩)
                    have HZ4 : Hid ((d4 : Array α).size = d.size) := Lib.hid (hp4.1.trans (by first | exact HZ3.out | rfl))
                    go_wp2_with (go_at_call 97; refine (IH.out mid en b d4 w4 (by omega) (by first | exact HZ4.out | rfl) hs4 hC.1 hC.2 hb).mono ?_; rintro e w5 ⟨rfl, d5, hp5, hs5⟩)
                    first | go_end0 | refine bodyPost_ret (results_none rfl _ _ _) rfl ?_
                    exact ⟨rfl, d5, (hp3.trans hp4).trans hp5, hs5⟩
              · have hAz : (i : Int) < (m : Int) := by omega
                have hAy : ¬ (m : Int) < (en : Int) := by omega
                rcases (show ¬ a < i ∨ (a < i ∧ ¬ i < mid) ∨ (a < i ∧ i < mid) by omega) with hB | hB | hB
                · have hBz : ¬ (a : Int) < (i : Int) := by omega
                  rcases (show ¬ mid < en ∨ (mid < en ∧ ¬ en < b) ∨ (mid < en ∧ en < b) by omega) with hC | hC | hC
                  · have hCz : ¬ (mid : Int) < (en : Int) := by omega
                    go_upto_region 41 with fail
                    have hp3 : Pm d d := Pm.refl d
                    have hs3 := S2.out
                    have HZ3 := Lib.hid hp3.1
                    go_upto_region 43 with fail
                    have hp4 : Pm d d := Pm.refl d
                    have hs4 := hs3
                    have HZ4 : Hid ((d : Array α).size = d.size) := Lib.hid (hp4.1.trans (by first | exact HZ3.out | rfl))
                    go_wp2_with fail
                    have hp5 : Pm d d := Pm.refl d
                    have hs5 := hs4
                    first | go_end0 | refine bodyPost_ret (results_none rfl _ _ _) rfl ?_
                    exact ⟨rfl, d, (hp3.trans hp4).trans hp5, hs5⟩
                  · have hCz : (mid : Int) < (en : Int) := by omega
                    have hCy : ¬ (en : Int) < (b : Int) := by omega
                    go_upto_region 41 with fail
                    have hp3 : Pm d d := Pm.refl d
                    have hs3 := S2.out
                    have HZ3 := Lib.hid hp3.1
                    go_upto_region 43 with fail
                    have hp4 : Pm d d := Pm.refl d
                    have hs4 := hs3
                    have HZ4 : Hid ((d : Array α).size = d.size) := Lib.hid (hp4.1.trans (by first | exact HZ3.out | rfl))
                    go_wp2_with fail
                    have hp5 : Pm d d := Pm.refl d
                    have hs5 := hs4
                    first | go_end0 | refine bodyPost_ret (results_none rfl _ _ _) rfl ?_
                    exact ⟨rfl, d, (hp3.trans hp4).trans hp5, hs5⟩
                  · have hCz : (mid : Int) < (en : Int) := by omega
                    have hCy : (en : Int) < (b : Int) := by omega
                    go_upto_region 41 with fail
                    have hp3 : Pm d d := Pm.refl d
                    have hs3 := S2.out
                    have HZ3 := Lib.hid hp3.1
                    go_upto_region 43 with fail
                    have hp4 : Pm d d := Pm.refl d
                    have hs4 := hs3
                    have HZ4 : Hid ((d : Array α).size = d.size) := Lib.hid (hp4.1.trans (by first | exact HZ3.out | rfl))
                    go_wp2_with (go_at_call 97; refine (IH.out mid en b d wr (by omega) (by first | exact HZ4.out | rfl) hs4 hC.1 hC.2 hb).mono ?_; rintro e w5 ⟨rfl, d5, hp5, hs5⟩)
                    first | go_end0 | refine bodyPost_ret (results_none rfl _ _ _) rfl ?_
                    exact ⟨rfl, d5, (hp3.trans hp4).trans hp5, hs5⟩
                · have hBz : (a : Int) < (i : Int) := by omega
                  have hBy : ¬ (i : Int) < (mid : Int) := by omega
                  rcases (show ¬ mid < en ∨ (mid < en ∧ ¬ en < b) ∨ (mid < en ∧ en < b) by omega) with hC | hC | hC
                  · have hCz : ¬ (mid : Int) < (en : Int) := by omega
                    go_upto_region 41 with fail
                    have hp3 : Pm d d := Pm.refl d
                    have hs3 := S2.out
                    have HZ3 := Lib.hid hp3.1
                    go_upto_region 43 with fail
                    have hp4 : Pm d d := Pm.refl d
                    have hs4 := hs3
                    have HZ4 : Hid ((d : Array α).size = d.size) := Lib.hid (hp4.1.trans (by first | exact HZ3.out | rfl))
                    go_wp2_with fail
                    have hp5 : Pm d d := Pm.refl d
                    have hs5 := hs4
                    first | go_end0 | refine bodyPost_ret (results_none rfl _ _ _) rfl ?_
                    exact ⟨rfl, d, (hp3.trans hp4).trans hp5, hs5⟩
                  · have hCz : (mid : Int) < (en : Int) := by omega
                    have hCy : ¬ (en : Int) < (b : Int) := by omega
                    go_upto_region 41 with fail
                    have hp3 : Pm d d := Pm.refl d
                    have hs3 := S2.out
                    have HZ3 := Lib.hid hp3.1
                    go_upto_region 43 with fail
                    have hp4 : Pm d d := Pm.refl d
                    have hs4 := hs3
                    have HZ4 : Hid ((d : Array α).size = d.size) := Lib.hid (hp4.1.trans (by first | exact HZ3.out | rfl))
                    go_wp2_with fail
                    have hp5 : Pm d d := Pm.refl d
                    have hs5 := hs4
                    first | go_end0 | refine bodyPost_ret (results_none rfl _ _ _) rfl ?_
                    exact ⟨rfl, d, (hp3.trans hp4).trans hp5, hs5⟩
                  · have hCz : (mid : Int) < (en : Int) := by omega
                    have hCy : (en : Int) < (b : Int) := by omega
                    go_upto_region 41 with fail
                    have hp3 : Pm d d := Pm.refl d
                    have hs3 := S2.out
                    have HZ3 := Lib.hid hp3.1
                    go_upto_region 43 with fail
                    have hp4 : Pm d d := Pm.refl d
                    have hs4 := hs3
                    have HZ4 : Hid ((d : Array α).size = d.size) := Lib.hid (hp4.1.trans (by first | exact HZ3.out | rfl))
                    go_wp2_with (go_at_call 97; refine (IH.out mid en b d wr (by omega) (by first | exact HZ4.out | rfl) hs4 hC.1 hC.2 hb).mono ?_; rintro e w5 ⟨rfl, d5, hp5, hs5⟩)
                    first | go_end0 | refine bodyPost_ret (results_none rfl _ _ _) rfl ?_
                    exact ⟨rfl, d5, (hp3.trans hp4).trans hp5, hs5⟩
                · have hBz : (a : Int) < (i : Int) := by omega
                  have hBy : (i : Int) < (mid : Int) := by omega
                  rcases (show ¬ mid < en ∨ (mid < en ∧ ¬ en < b) ∨ (mid < en ∧ en < b) by omega) with hC | hC | hC
                  · have hCz : ¬ (mid : Int) < (en : Int) := by omega
                    go_upto_region 41 with fail
                    have hp3 : Pm d d := Pm.refl d
                    have hs3 := S2.out
                    have HZ3 := Lib.hid hp3.1
                    go_upto_region 43 with (go_at_call 97; refine (IH.out a i mid d wr (by omega) (by first | exact HZ3.out | rfl) hs3 hB.1 hB.2 (by omega)).mono ?_; rintro e w4 ⟨rfl, d4, hp4, hs4⟩)
                    have HZ4 : Hid ((d4 : Array α).size = d.size) := Lib.hid (hp4.1.trans (by first | exact HZ3.out | rfl))
                    go_wp2_with fail
                    have hp5 : Pm d4 d4 := Pm.refl d4
                    have hs5 := hs4
                    first | go_end0 | refine bodyPost_ret (results_none rfl _ _ _) rfl ?_
                    exact ⟨rfl, d4, (hp3.trans hp4).trans hp5, hs5⟩
                  · have hCz : (mid : Int) < (en : Int) := by omega
                    have hCy : ¬ (en : Int) < (b : Int) := by omega
                    go_upto_region 41 with fail
                    have hp3 : Pm d d := Pm.refl d
                    have hs3 := S2.out
                    have HZ3 := Lib.hid hp3.1
                    go_upto_region 43 with (go_at_call 97; refine (IH.out a i mid d wr (by omega) (by first | exact HZ3.out | rfl) hs3 hB.1 hB.2 (by omega)).mono ?_; rintro e w4 ⟨rfl, d4, hp4, hs4⟩)
                    have HZ4 : Hid ((d4 : Array α).size = d.size) := Lib.hid (hp4.1.trans (by first | exact HZ3.out | rfl))
                    go_wp2_with fail
                    have hp5 : Pm d4 d4 := Pm.refl d4
                    have hs5 := hs4
                    first | go_end0 | refine bodyPost_ret (results_none rfl _ _ _) rfl ?_
                    exact ⟨rfl, d4, (hp3.trans hp4).trans hp5, hs5⟩
                  · have hCz : (mid : Int) < (en : Int) := by omega
                    have hCy : (en : Int) < (b : Int) := by omega
                    go_upto_region 41 with fail
                    have hp3 : Pm d d := Pm.refl d
                    have hs3 := S2.out
                    have HZ3 := Lib.hid hp3.1
                    go_upto_region 43 with (go_at_call 97; refine (IH.out a i mid d wr (by omega) (by first | exact HZ3.out | rfl) hs3 hB.1 hB.2 (by omega)).mono ?_; rintro e w4 ⟨rfl, d4, hp4, hs4⟩)
                    have HZ4 : Hid ((d4 : Array α).size = d.size) := Lib.hid (hp4.1.trans (by first | exact HZ3.out | rfl))
                    go_wp2_with (go_at_call 97; refine (IH.out mid en b d4 w4 (by omega) (by first | exact HZ4.out | rfl) hs4 hC.1 hC.2 hb).mono ?_; rintro e w5 ⟨rfl, d5, hp5, hs5⟩)
                    first | go_end0 | refine bodyPost_ret (results_none rfl _ _ _) rfl ?_
                    exact ⟨rfl, d5, (hp3.trans hp4).trans hp5, hs5⟩
              · have hAz : (i : Int) < (m : Int) := by omega
                have hAy : (m : Int) < (en : Int) := by omega
                rcases (show ¬ a < i ∨ (a < i ∧ ¬ i < mid) ∨ (a < i ∧ i < mid) by omega) with hB | hB | hB
                · have hBz : ¬ (a : Int) < (i : Int) := by omega
                  rcases (show ¬ mid < en ∨ (mid < en ∧ ¬ en < b) ∨ (mid < en ∧ en < b) by omega) with hC | hC | hC
                  · have hCz : ¬ (mid : Int) < (en : Int) := by omega
                    go_upto_region 41 with (go_at_call 113; refine (HR.out _ _ i m en rfl S2.out hA.1 hA.2 (by omega)).mono ?_; rintro e w3 ⟨rfl, d3, hp3, hs3⟩)
                    have HZ3 := Lib.hid hp3.1
                    go_upto_region 43 with fail
                    have hp4 : Pm d3 d3 := Pm.refl d3
                    have hs4 := hs3
                    have HZ4 : Hid ((d3 : Array α).size = d.size) := Lib.hid (hp4.1.trans (by first | exact HZ3.out | rfl))
                    go_wp2_with fail
                    have hp5 : Pm d3 d3 := Pm.refl d3
                    have hs5 := hs4
                    first | go_end0 | refine bodyPost_ret (results_none rfl _ _ _) rfl ?_
                    exact ⟨rfl, d3, (hp3.trans hp4).trans hp5, hs5⟩
                  · have hCz : (mid : Int) < (en : Int) := by omega
                    have hCy : ¬ (en : Int) < (b : Int) := by omega
                    go_upto_region 41 with (go_at_call 113; refine (HR.out _ _ i m en rfl S2.out hA.1 hA.2 (by omega)).mono ?_; rintro e w3 ⟨rfl, d3, hp3, hs3⟩)
                    have HZ3 := Lib.hid hp3.1
                    go_upto_region 43 with fail
                    have hp4 : Pm d3 d3 := Pm.refl d3
                    have hs4 := hs3
                    have HZ4 : Hid ((d3 : Array α).size = d.size) := Lib.hid (hp4.1.trans (by first | exact HZ3.out | rfl))
                    go_wp2_with fail
                    have hp5 : Pm d3 d3 := Pm.refl d3
                    have hs5 := hs4
                    first | go_end0 | refine bodyPost_ret (results_none rfl _ _ _) rfl ?_
                    exact ⟨rfl, d3, (hp3.trans hp4).trans hp5, hs5⟩
                  · have hCz : (mid : Int) < (en : Int) := by omega
                    have hCy : (en : Int) < (b : Int) := by omega
                    go_upto_region 41 with (go_at_call 113; refine (HR.out _ _ i m en rfl S2.out hA.1 hA.2 (by omega)).mono ?_; rintro e w3 ⟨rfl, d3, hp3, hs3⟩)
                    have HZ3 := Lib.hid hp3.1
                    go_upto_region 43 with fail
                    have hp4 : Pm d3 d3 := Pm.refl d3
                    have hs4 := hs3
                    have HZ4 : Hid ((d3 : Array α).size = d.size) := Lib.hid (hp4.1.trans (by first | exact HZ3.out | rfl))
                    go_wp2_with (go_at_call 97; refine (IH.out mid en b d3 w3 (by omega) (by first | exact HZ4.out | rfl) hs4 hC.1 hC.2 hb).mono ?_; rintro e w5 ⟨rfl, d5, hp5, hs5⟩)
                    first | go_end0 | refine bodyPost_ret (results_none rfl _ _ _) rfl ?_
                    exact ⟨rfl, d5, (hp3.trans hp4).trans hp5, hs5⟩
                · have hBz : (a : Int) < (i : Int) := by omega
                  have hBy : ¬ (i : Int) < (mid : Int) := by omega
                  rcases (show ¬ mid < en ∨ (mid < en ∧ ¬ en < b) ∨ (mid < en ∧ en < b) by omega) with hC | hC | hC
                  · have hCz : ¬ (mid : Int) < (en : Int) := by omega
                    go_upto_region 41 with (go_at_call 113; refine (HR.out _ _ i m en rfl S2.out hA.1 hA.2 (by omega)).mono ?_; rintro e w3 ⟨rfl, d3, hp3, hs3⟩)
                    have HZ3 := Lib.hid hp3.1
                    go_upto_region 43 with fail
                    have hp4 : Pm d3 d3 := Pm.refl d3
                    have hs4 := hs3
                    have HZ4 : Hid ((d3 : Array α).size = d.size) := Lib.hid (hp4.1.trans (by first | exact HZ3.out | rfl))
                    go_wp2_with fail
                    have hp5 : Pm d3 d3 := Pm.refl d3
                    have hs5 := hs4
                    first | go_end0 | refine bodyPost_ret (results_none rfl _ _ _) rfl ?_
                    exact ⟨rfl, d3, (hp3.trans hp4).trans hp5, hs5⟩
                  · have hCz : (mid : Int) < (en : Int) := by omega
                    have hCy : ¬ (en : Int) < (b : Int) := by omega
                    go_upto_region 41 with (go_at_call 113; refine (HR.out _ _ i m en rfl S2.out hA.1 hA.2 (by omega)).mono ?_; rintro e w3 ⟨rfl, d3, hp3, hs3⟩)
                    have HZ3 := Lib.hid hp3.1
                    go_upto_region 43 with fail
                    have hp4 : Pm d3 d3 := Pm.refl d3
                    have hs4 := hs3
                    have HZ4 : Hid ((d3 : Array α).size = d.size) := Lib.hid (hp4.1.trans (by first | exact HZ3.out | rfl))
                    go_wp2_with fail
                    have hp5 : Pm d3 d3 := Pm.refl d3
                    have hs5 := hs4
                    first | go_end0 | refine bodyPost_ret (results_none rfl _ _ _) rfl ?_
                    exact ⟨rfl, d3, (hp3.trans hp4).trans hp5, hs5⟩
                  · have hCz : (mid : Int) < (en : Int) := by omega
                    have hCy : (en : Int) < (b : Int) := by omega
                    go_upto_region 41 with (go_at_call 113; refine (HR.out _ _ i m en rfl S2.out hA.1 hA.2 (by omega)).mono ?_; rintro e w3 ⟨rfl, d3, hp3, hs3⟩)
                    have HZ3 := Lib.hid hp3.1
                    go_upto_region 43 with fail
                    have hp4 : Pm d3 d3 := Pm.refl d3
                    have hs4 := hs3
                    have HZ4 : Hid ((d3 : Array α).size = d.size) := Lib.hid (hp4.1.trans (by first | exact HZ3.out | rfl))
                    go_wp2_with (go_at_call 97; refine (IH.out mid en b d3 w3 (by omega) (by first | exact HZ4.out | rfl) hs4 hC.1 hC.2 hb).mono ?_; rintro e w5 ⟨rfl, d5, hp5, hs5⟩)
                    first | go_end0 | refine bodyPost_ret (results_none rfl _ _ _) rfl ?_
                    exact ⟨rfl, d5, (hp3.trans hp4).trans hp5, hs5⟩
                · have hBz : (a : Int) < (i : Int) := by omega
                  have hBy : (i : Int) < (mid : Int) := by omega
                  rcases (show ¬ mid < en ∨ (mid < en ∧ ¬ en < b) ∨ (mid < en ∧ en < b) by omega) with hC | hC | hC
                  · have hCz : ¬ (mid : Int) < (en : Int) := by omega
                    go_upto_region 41 with (go_at_call 113; refine (HR.out _ _ i m en rfl S2.out hA.1 hA.2 (by omega)).mono ?_; rintro e w3 ⟨rfl, d3, hp3, hs3⟩)
                    have HZ3 := Lib.hid hp3.1
                    go_upto_region 43 with (go_at_call 97; refine (IH.out a i mid d3 w3 (by omega) (by first | exact HZ3.out | rfl) hs3 hB.1 hB.2 (by omega)).mono ?_; rintro e w4 ⟨rfl, d4, hp4, hs4⟩)
                    have HZ4 : Hid ((d4 : Array α).size = d.size) := Lib.hid (hp4.1.trans (by first | exact HZ3.out | rfl))
                    go_wp2_with fail
                    have hp5 : Pm d4 d4 := Pm.refl d4
                    have hs5 := hs4
                    first | go_end0 | refine bodyPost_ret (results_none rfl _ _ _) rfl ?_
                    exact ⟨rfl, d4, (hp3.trans hp4).trans hp5, hs5⟩
                  · have hCz : (mid : Int) < (en : Int) := by omega
                    have hCy : ¬ (en : Int) < (b : Int) := by omega
                    go_upto_region 41 with (go_at_call 113; refine (HR.out _ _ i m en rfl S2.out hA.1 hA.2 (by omega)).mono ?_; rintro e w3 ⟨rfl, d3, hp3, hs3⟩)
                    have HZ3 := Lib.hid hp3.1
                    go_upto_region 43 with (go_at_call 97; refine (IH.out a i mid d3 w3 (by omega) (by first | exact HZ3.out | rfl) hs3 hB.1 hB.2 (by omega)).mono ?_; rintro e w4 ⟨rfl, d4, hp4, hs4⟩)
                    have HZ4 : Hid ((d4 : Array α).size = d.size) := Lib.hid (hp4.1.trans (by first | exact HZ3.out | rfl))
                    go_wp2_with fail
                    have hp5 : Pm d4 d4 := Pm.refl d4
                    have hs5 := hs4
                    first | go_end0 | refine bodyPost_ret (results_none rfl _ _ _) rfl ?_
                    exact ⟨rfl, d4, (hp3.trans hp4).trans hp5, hs5⟩
                  · have hCz : (mid : Int) < (en : Int) := by omega
                    have hCy : (en : Int) < (b : Int) := by omega
                    go_upto_region 41 with (go_at_call 113; refine (HR.out _ _ i m en rfl S2.out hA.1 hA.2 (by omega)).mono ?_; rintro e w3 ⟨rfl, d3, hp3, hs3⟩)
                    have HZ3 := Lib.hid hp3.1
                    go_upto_region 43 with (go_at_call 97; refine (IH.out a i mid d3 w3 (by omega) (by first | exact HZ3.out | rfl) hs3 hB.1 hB.2 (by omega)).mono ?_; rintro e w4 ⟨rfl, d4, hp4, hs4⟩)
                    have HZ4 : Hid ((d4 : Array α).size = d.size) := Lib.hid (hp4.1.trans (by first | exact HZ3.out | rfl))
                    go_wp2_with (go_at_call 97; refine (IH.out mid en b d4 w4 (by omega) (by first | exact HZ4.out | rfl) hs4 hC.1 hC.2 hb).mono ?_; rintro e w5 ⟨rfl, d5, hp5, hs5⟩)
                    first | go_end0 | refine bodyPost_ret (results_none rfl _ _ _) rfl ?_
                    exact ⟨rfl, d5, (hp3.trans hp4).trans hp5, hs5⟩
        · have hp1 : IntKind.i64.wrap ((nn : Int) - 1) = ((nn - 1 : Nat) : Int) := by rw [IntKind.wrap_i64]; omega
          obtain ⟨p, hp2⟩ : ∃ x, nn - 1 = x := ⟨_, rfl⟩
          rw [hp2] at hp1
          have hmz : ¬ (mid : Int) < (m : Int) := by omega
          go_wp2_with fail
          go_loopg [20, 21] (m - a) (fun gk si sj wr => ∃ i j : Nat, si = .int .i64 i ∧ sj = .int .i64 j ∧ a ≤ i ∧ i ≤ j ∧ j ≤ m ∧ j - i ≤ gk ∧ Aside (SWK enc k w0 blk off d wr))
          case atStart => exact ⟨a, m, by first | rfl | go_num, by first | rfl | go_num, Nat.le_refl _, by omega, Nat.le_refl _, Nat.le_refl _, S0⟩
          case round =>
            clear S0
            obtain ⟨i, j, rfl, rfl, hi1, hi2, hi3, hi4, S1⟩ := hrel
            by_cases hlt : i < j
            · have hltz : (i : Int) < (j : Int) := by omega
              obtain ⟨h, hh3, hh2, hqi, hqu⟩ := half_facts i j b hlt (by omega) (Nat.lt_of_le_of_lt hb hsz)
              have hqw : IntKind.i64.wrap ((p : Int) - (h : Int)) = ((p - h : Nat) : Int) := by rw [IntKind.wrap_i64]; omega
              obtain ⟨q, hq2⟩ : ∃ x, p - h = x := ⟨_, rfl⟩
              rw [hq2] at hqw
              have hq3 : q < d.size := by omega
              have eA : ((q : Nat) : Int).toNat = q := by omega
              have pA : (0 : Int) ≤ ((q : Nat) : Int) := by omega
              have bA : ((q : Nat) : Int) < (d.size : Int) := by omega
              have rA : IntKind.i64.wrap ((q : Nat) : Int) = ((q : Nat) : Int) := by rw [IntKind.wrap_i64]; omega
              have eB : ((h : Nat) : Int).toNat = h := by omega
              have pB : (0 : Int) ≤ ((h : Nat) : Int) := by omega
              have bB : ((h : Nat) : Int) < (d.size : Int) := by omega
              have rB : IntKind.i64.wrap ((h : Nat) : Int) = ((h : Nat) : Int) := by rw [IntKind.wrap_i64]; omega
              obtain ⟨x0, hx0⟩ : ∃ x, x = d[q]! := ⟨_, rfl⟩
              obtain ⟨y0, hy0⟩ : ∃ x, x = d[h]! := ⟨_, rfl⟩
              have la := S1.out.ld R (by omega) Tryz.prog (q) (by omega)
              have lb := S1.out.ld R (by omega) Tryz.prog (h) (by omega)
              rw [← hx0] at la
              rw [← hy0] at lb
              have hc := S1.out.cmp HC.out (by omega) x0 y0
              clear hx0 hy0
              by_cases hv : cf x0 y0 < 0
              · have hd : decide (cf x0 y0 < 0) = true := by simpa using hv
                go_wp2_with fail
                go_quiet_grown (first | (go_at_fn g; refine Calls.grown_of (hc _ _)))
                have S2 : Aside (SWK enc k w0 blk off d (grow (wr.drewN nq) osq)) := S1.out.grown nq osq
                clear la lb hc S1 eA pA bA rA eB pB bB rB
                generalize grow (wr.drewN nq) osq = w2 at S2 ⊢
                clear nq osq
                go_wp2
                go_roundg (h - i)
                case measure => omega
                case rel => exact ⟨i, h, rfl, by first | rfl | go_num, by omega, by omega, by omega, Nat.le_refl _, S2⟩
              · have hd : decide (cf x0 y0 < 0) = false := by simpa using hv
                go_wp2_with fail
                go_quiet_grown (first | (go_at_fn g; refine Calls.grown_of (hc _ _)))
                have S2 : Aside (SWK enc k w0 blk off d (grow (wr.drewN nq) osq)) := S1.out.grown nq osq
                clear la lb hc S1 eA pA bA rA eB pB bB rB
                generalize grow (wr.drewN nq) osq = w2 at S2 ⊢
                clear nq osq
                go_wp2
                go_roundg (j - (h + 1))
                case measure => omega
                case rel => exact ⟨h + 1, j, by first | rfl | go_num, rfl, by omega, by omega, by omega, Nat.le_refl _, S2⟩
            · have hltz : ¬ (i : Int) < (j : Int) := by omega
              have hij : i = j := by omega
              subst hij
              clear hi4 hi2
              have hen : IntKind.i64.wrap ((nn : Int) - (i : Int)) = ((nn - i : Nat) : Int) := by rw [IntKind.wrap_i64]; omega
              obtain ⟨en, hen2⟩ : ∃ x, nn - i = x := ⟨_, rfl⟩
              rw [hen2] at hen
              have hen3 : en ≤ b := by omega
              have hmi : mid < b ∧ a < mid := by omega
              have S2 : Aside (SWK enc k w0 blk off d wr) := S1
              clear S1
              rcases (show ¬ i < m ∨ (i < m ∧ ¬ m < en) ∨ (i < m ∧ m < en) by omega) with hA | hA | hA
              · have hAz : ¬ (i : Int) < (m : Int) := by omega
                rcases (show ¬ a < i ∨ (a < i ∧ ¬ i < mid) ∨ (a < i ∧ i < mid) by omega) with hB | hB | hB
                · have hBz : ¬ (a : Int) < (i : Int) := by omega
                  rcases (show ¬ mid < en ∨ (mid < en ∧ ¬ en < b) ∨ (mid < en ∧ en < b) by omega) with hC | hC | hC
                  · have hCz : ¬ (mid : Int) < (en : Int) := by omega
                    go_upto_region 41 with fail
                    have hp3 : Pm d d := Pm.refl d
                    have hs3 := S2.out
                    have HZ3 := Lib.hid hp3.1
                    go_upto_region 43 with fail
                    have hp4 : Pm d d := Pm.refl d
                    have hs4 := hs3
                    have HZ4 : Hid ((d : Array α).size = d.size) := Lib.hid (hp4.1.trans (by first | exact HZ3.out | rfl))
                    go_wp2_with fail
                    have hp5 : Pm d d := Pm.refl d
                    have hs5 := hs4
                    first | go_end0 | refine bodyPost_ret (results_none rfl _ _ _) rfl ?_
                    exact ⟨rfl, d, (hp3.trans hp4).trans hp5, hs5⟩
                  · have hCz : (mid : Int) < (en : Int) := by omega
                    have hCy : ¬ (en : Int) < (b : Int) := by omega
                    go_upto_region 41 with fail
                    have hp3 : Pm d d := Pm.refl d
                    have hs3 := S2.out
                    have HZ3 := Lib.hid hp3.1
                    go_upto_region 43 with fail
                    have hp4 : Pm d d := Pm.refl d
                    have hs4 := hs3
                    have HZ4 : Hid ((d : Array α).size = d.size) := Lib.hid (hp4.1.trans (by first | exact HZ3.out | rfl))
                    go_wp2_with fail
                    have hp5 : Pm d d := Pm.refl d
                    have hs5 := hs4
                    first | go_end0 | refine bodyPost_ret (results_none rfl _ _ _) rfl ?_
                    exact ⟨rfl, d, (hp3.trans hp4).trans hp5, hs5⟩
                  · have hCz : (mid : Int) < (en : Int) := by omega
                    have hCy : (en : Int) < (b : Int) := by omega
                    go_upto_region 41 with fail
                    have hp3 : Pm d d := Pm.refl d
                    have hs3 := S2.out
                    have HZ3 := Lib.hid hp3.1
                    go_upto_region 43 with fail
                    have hp4 : Pm d d := Pm.refl d
                    have hs4 := hs3
                    have HZ4 : Hid ((d : Array α).size = d.size) := Lib.hid (hp4.1.trans (by first | exact HZ3.out | rfl))
                    go_wp2_with (go_at_call 97; refine (IH.out mid en b d wr (by omega) (by first | exact HZ4.out | rfl) hs4 hC.1 hC.2 hb).mono ?_; rintro e w5 ⟨rfl, d5, hp5, hs5⟩)
                    first | go_end0 | refine bodyPost_ret (results_none rfl _ _ _) rfl ?_
                    exact ⟨rfl, d5, (hp3.trans hp4).trans hp5, hs5⟩
                · have hBz : (a : Int) < (i : Int) := by omega
                  have hBy : ¬ (i : Int) < (mid : Int) := by omega
                  rcases (show ¬ mid < en ∨ (mid < en ∧ ¬ en < b) ∨ (mid < en ∧ en < b) by omega) with hC | hC | hC
                  · have hCz : ¬ (mid : Int) < (en : Int) := by omega
                    go_upto_region 41 with fail
                    have hp3 : Pm d d := Pm.refl d
                    have hs3 := S2.out
                    have HZ3 := Lib.hid hp3.1
                    go_upto_region 43 with fail
                    have hp4 : Pm d d := Pm.refl d
                    have hs4 := hs3
                    have HZ4 : Hid ((d : Array α).size = d.size) := Lib.hid (hp4.1.trans (by first | exact HZ3.out | rfl))
                    go_wp2_with fail
                    have hp5 : Pm d d := Pm.refl d
                    have hs5 := hs4
                    first | go_end0 | refine bodyPost_ret (results_none rfl _ _ _) rfl ?_
                    exact ⟨rfl, d, (hp3.trans hp4).trans hp5, hs5⟩
                  · have hCz : (mid : Int) < (en : Int) := by omega
                    have hCy : ¬ (en : Int) < (b : Int) := by omega
                    go_upto_region 41 with fail
                    have hp3 : Pm d d := Pm.refl d
                    have hs3 := S2.out
                    have HZ3 := Lib.hid hp3.1
                    go_upto_region 43 with fail
                    have hp4 : Pm d d := Pm.refl d
                    have hs4 := hs3
                    have HZ4 : Hid ((d : Array α).size = d.size) := Lib.hid (hp4.1.trans (by first | exact HZ3.out | rfl))
                    go_wp2_with fail
                    have hp5 : Pm d d := Pm.refl d
                    have hs5 := hs4
                    first | go_end0 | refine bodyPost_ret (results_none rfl _ _ _) rfl ?_
                    exact ⟨rfl, d, (hp3.trans hp4).trans hp5, hs5⟩
                  · have hCz : (mid : Int) < (en : Int) := by omega
                    have hCy : (en : Int) < (b : Int) := by omega
                    go_upto_region 41 with fail
                    have hp3 : Pm d d := Pm.refl d
                    have hs3 := S2.out
                    have HZ3 := Lib.hid hp3.1
                    go_upto_region 43 with fail
                    have hp4 : Pm d d := Pm.refl d
                    have hs4 := hs3
                    have HZ4 : Hid ((d : Array α).size = d.size) := Lib.hid (hp4.1.trans (by first | exact HZ3.out | rfl))
                    go_wp2_with (go_at_call 97; refine (IH.out mid en b d wr (by omega) (by first | exact HZ4.out | rfl) hs4 hC.1 hC.2 hb).mono ?_; rintro e w5 ⟨rfl, d5, hp5, hs5⟩)
                    first | go_end0 | refine bodyPost_ret (results_none rfl _ _ _) rfl ?_
                    exact ⟨rfl, d5, (hp3.trans hp4).trans hp5, hs5⟩
                · have hBz : (a : Int) < (i : Int) := by omega
                  have hBy : (i : Int) < (mid : Int) := by omega
                  rcases (show ¬ mid < en ∨ (mid < en ∧ ¬ en < b) ∨ (mid < en ∧ en < b) by omega) with hC | hC | hC
                  · have hCz : ¬ (mid : Int) < (en : Int) := by omega
                    go_upto_region 41 with fail
                    have hp3 : Pm d d := Pm.refl d
                    have hs3 := S2.out
                    have HZ3 := Lib.hid hp3.1
                    go_upto_region 43 with (go_at_call 97; refine (IH.out a i mid d wr (by omega) (by first | exact HZ3.out | rfl) hs3 hB.1 hB.2 (by omega)).mono ?_; rintro e w4 ⟨rfl, d4, hp4, hs4⟩)
                    have HZ4 : Hid ((d4 : Array α).size = d.size) := Lib.hid (hp4.1.trans (by first | exact HZ3.out | rfl))
                    go_wp2_with fail
                    have hp5 : Pm d4 d4 := Pm.refl d4
                    have hs5 := hs4
                    first | go_end0 | refine bodyPost_ret (results_none rfl _ _ _) rfl ?_
                    exact ⟨rfl, d4, (hp3.trans hp4).trans hp5, hs5⟩
                  · have hCz : (mid : Int) < (en : Int) := by omega
                    have hCy : ¬ (en : Int) < (b : Int) := by omega
                    go_upto_region 41 with fail
                    have hp3 : Pm d d := Pm.refl d
                    have hs3 := S2.out
                    have HZ3 := Lib.hid hp3.1
                    go_upto_region 43 with (go_at_call 97; refine (IH.out a i mid d wr (by omega) (by first | exact HZ3.out | rfl) hs3 hB.1 hB.2 (by omega)).mono ?_; rintro e w4 ⟨rfl, d4, hp4, hs4⟩)
                    have HZ4 : Hid ((d4 : Array α).size = d.size) := Lib.hid (hp4.1.trans (by first | exact HZ3.out | rfl))
                    go_wp2_with fail
                    have hp5 : Pm d4 d4 := Pm.refl d4
                    have hs5 := hs4
                    first | go_end0 | refine bodyPost_ret (results_none rfl _ _ _) rfl ?_
                    exact ⟨rfl, d4, (hp3.trans hp4).trans hp5, hs5⟩
                  · have hCz : (mid : Int) < (en : Int) := by omega
                    have hCy : (en : Int) < (b : Int) := by omega
                    go_upto_region 41 with fail
                    have hp3 : Pm d d := Pm.refl d
                    have hs3 := S2.out
                    have HZ3 := Lib.hid hp3.1
                    go_upto_region 43 with (go_at_call 97; refine (IH.out a i mid d wr (by omega) (by first | exact HZ3.out | rfl) hs3 hB.1 hB.2 (by omega)).mono ?_; rintro e w4 ⟨rfl, d4, hp4, hs4⟩)
                    have HZ4 : Hid ((d4 : Array α).size = d.size) := Lib.hid (hp4.1.trans (by first | exact HZ3.out | rfl))
                    go_wp2_with (go_at_call 97; refine (IH.out mid en b d4 w4 (by omega) (by first | exact HZ4.out | rfl) hs4 hC.1 hC.2 hb).mono ?_; rintro e w5 ⟨rfl, d5, hp5, hs5⟩)
                    first | go_end0 | refine bodyPost_ret (results_none rfl _ _ _) rfl ?_
                    exact ⟨rfl, d5, (hp3.trans hp4).trans hp5, hs5⟩
              · have hAz : (i : Int) < (m : Int) := by omega
                have hAy : ¬ (m : Int) < (en : Int) := by omega
                rcases (show ¬ a < i ∨ (a < i ∧ ¬ i < mid) ∨ (a < i ∧ i < mid) by omega) with hB | hB | hB
                · have hBz : ¬ (a : Int) < (i : Int) := by omega
                  rcases (show ¬ mid < en ∨ (mid < en ∧ ¬ en < b) ∨ (mid < en ∧ en < b) by omega) with hC | hC | hC
                  · have hCz : ¬ (mid : Int) < (en : Int) := by omega
                    go_upto_region 41 with fail
                    have hp3 : Pm d d := Pm.refl d
                    have hs3 := S2.out
                    have HZ3 := Lib.hid hp3.1
                    go_upto_region 43 with fail
                    have hp4 : Pm d d := Pm.refl d
                    have hs4 := hs3
                    have HZ4 : Hid ((d : Array α).size = d.size) := Lib.hid (hp4.1.trans (by first | exact HZ3.out | rfl))
                    go_wp2_with fail
                    have hp5 : Pm d d := Pm.refl d
                    have hs5 := hs4
                    first | go_end0 | refine bodyPost_ret (results_none rfl _ _ _) rfl ?_
                    exact ⟨rfl, d, (hp3.trans hp4).trans hp5, hs5⟩
                  · have hCz : (mid : Int) < (en : Int) := by omega
                    have hCy : ¬ (en : Int) < (b : Int) := by omega
                    go_upto_region 41 with fail
                    have hp3 : Pm d d := Pm.refl d
                    have hs3 := S2.out
                    have HZ3 := Lib.hid hp3.1
                    go_upto_region 43 with fail
                    have hp4 : Pm d d := Pm.refl d
                    have hs4 := hs3
                    have HZ4 : Hid ((d : Array α).size = d.size) := Lib.hid (hp4.1.trans (by first | exact HZ3.out | rfl))
                    go_wp2_with fail
                    have hp5 : Pm d d := Pm.refl d
                    have hs5 := hs4
                    first | go_end0 | refine bodyPost_ret (results_none rfl _ _ _) rfl ?_
                    exact ⟨rfl, d, (hp3.trans hp4).trans hp5, hs5⟩
                  · have hCz : (mid : Int) < (en : Int) := by omega
                    have hCy : (en : Int) < (b : Int) := by omega
                    go_upto_region 41 with fail
                    have hp3 : Pm d d := Pm.refl d
                    have hs3 := S2.out
                    have HZ3 := Lib.hid hp3.1
                    go_upto_region 43 with fail
                    have hp4 : Pm d d := Pm.refl d
                    have hs4 := hs3
                    have HZ4 : Hid ((d : Array α).size = d.size) := Lib.hid (hp4.1.trans (by first | exact HZ3.out | rfl))
                    go_wp2_with (go_at_call 97; refine (IH.out mid en b d wr (by omega) (by first | exact HZ4.out | rfl) hs4 hC.1 hC.2 hb).mono ?_; rintro e w5 ⟨rfl, d5, hp5, hs5⟩)
                    first | go_end0 | refine bodyPost_ret (results_none rfl _ _ _) rfl ?_
                    exact ⟨rfl, d5, (hp3.trans hp4).trans hp5, hs5⟩
                · have hBz : (a : Int) < (i : Int) := by omega
                  have hBy : ¬ (i : Int) < (mid : Int) := by omega
                  rcases (show ¬ mid < en ∨ (mid < en ∧ ¬ en < b) ∨ (mid < en ∧ en < b) by omega) with hC | hC | hC
                  · have hCz : ¬ (mid : Int) < (en : Int) := by omega
                    go_upto_region 41 with fail
                    have hp3 : Pm d d := Pm.refl d
                    have hs3 := S2.out
                    have HZ3 := Lib.hid hp3.1
                    go_upto_region 43 with fail
                    have hp4 : Pm d d := Pm.refl d
                    have hs4 := hs3
                    have HZ4 : Hid ((d : Array α).size = d.size) := Lib.hid (hp4.1.trans (by first | exact HZ3.out | rfl))
                    go_wp2_with fail
                    have hp5 : Pm d d := Pm.refl d
                    have hs5 := hs4
                    first | go_end0 | refine bodyPost_ret (results_none rfl _ _ _) rfl ?_
                    exact ⟨rfl, d, (hp3.trans hp4).trans hp5, hs5⟩
                  · have hCz : (mid : Int) < (en : Int) := by omega
                    have hCy : ¬ (en : Int) < (b : Int) := by omega
                    go_upto_region 41 with fail
                    have hp3 : Pm d d := Pm.refl d
                    have hs3 := S2.out
                    have HZ3 := Lib.hid hp3.1
                    go_upto_region 43 with fail
                    have hp4 : Pm d d := Pm.refl d
                    have hs4 := hs3
                    have HZ4 : Hid ((d : Array α).size = d.size) := Lib.hid (hp4.1.trans (by first | exact HZ3.out | rfl))
                    go_wp2_with fail
                    have hp5 : Pm d d := Pm.refl d
                    have hs5 := hs4
                    first | go_end0 | refine bodyPost_ret (results_none rfl _ _ _) rfl ?_
                    exact ⟨rfl, d, (hp3.trans hp4).trans hp5, hs5⟩
                  · have hCz : (mid : Int) < (en : Int) := by omega
                    have hCy : (en : Int) < (b : Int) := by omega
                    go_upto_region 41 with fail
                    have hp3 : Pm d d := Pm.refl d
                    have hs3 := S2.out
                    have HZ3 := Lib.hid hp3.1
                    go_upto_region 43 with fail
                    have hp4 : Pm d d := Pm.refl d
                    have hs4 := hs3
                    have HZ4 : Hid ((d : Array α).size = d.size) := Lib.hid (hp4.1.trans (by first | exact HZ3.out | rfl))
                    go_wp2_with (go_at_call 97; refine (IH.out mid en b d wr (by omega) (by first | exact HZ4.out | rfl) hs4 hC.1 hC.2 hb).mono ?_; rintro e w5 ⟨rfl, d5, hp5, hs5⟩)
                    first | go_end0 | refine bodyPost_ret (results_none rfl _ _ _) rfl ?_
                    exact ⟨rfl, d5, (hp3.trans hp4).trans hp5, hs5⟩
                · have hBz : (a : Int) < (i : Int) := by omega
                  have hBy : (i : Int) < (mid : Int) := by omega
                  rcases (show ¬ mid < en ∨ (mid < en ∧ ¬ en < b) ∨ (mid < en ∧ en < b) by omega) with hC | hC | hC
                  · have hCz : ¬ (mid : Int) < (en : Int) := by omega
                    go_upto_region 41 with fail
                    have hp3 : Pm d d := Pm.refl d
                    have hs3 := S2.out
                    have HZ3 := Lib.hid hp3.1
                    go_upto_region 43 with (go_at_call 97; refine (IH.out a i mid d wr (by omega) (by first | exact HZ3.out | rfl) hs3 hB.1 hB.2 (by omega)).mono ?_; rintro e w4 ⟨rfl, d4, hp4, hs4⟩)
                    have HZ4 : Hid ((d4 : Array α).size = d.size) := Lib.hid (hp4.1.trans (by first | exact HZ3.out | rfl))
                    go_wp2_with fail
                    have hp5 : Pm d4 d4 := Pm.refl d4
                    have hs5 := hs4
                    first | go_end0 | refine bodyPost_ret (results_none rfl _ _ _) rfl ?_
                    exact ⟨rfl, d4, (hp3.trans hp4).trans hp5, hs5⟩
                  · have hCz : (mid : Int) < (en : Int) := by omega
                    have hCy : ¬ (en : Int) < (b : Int) := by omega
                    go_upto_region 41 with fail
                    have hp3 : Pm d d := Pm.refl d
                    have hs3 := S2.out
                    have HZ3 := Lib.hid hp3.1
                    go_upto_region 43 with (go_at_call 97; refine (IH.out a i mid d wr (by omega) (by first | exact HZ3.out | rfl) hs3 hB.1 hB.2 (by omega)).mono ?_; rintro e w4 ⟨rfl, d4, hp4, hs4⟩)
                    have HZ4 : Hid ((d4 : Array α).size = d.size) := Lib.hid (hp4.1.trans (by first | exact HZ3.out | rfl))
                    go_wp2_with fail
                    have hp5 : Pm d4 d4 := Pm.refl d4
                    have hs5 := hs4
                    first | go_end0 | refine bodyPost_ret (results_none rfl _ _ _) rfl ?_
                    exact ⟨rfl, d4, (hp3.trans hp4).trans hp5, hs5⟩
                  · have hCz : (mid : Int) < (en : Int) := by omega
                    have hCy : (en : Int) < (b : Int) := by omega
                    go_upto_region 41 with fail
                    have hp3 : Pm d d := Pm.refl d
                    have hs3 := S2.out
                    have HZ3 := Lib.hid hp3.1
                    go_upto_region 43 with (go_at_call 97; refine (IH.out a i mid d wr (by omega) (by first | exact HZ3.out | rfl) hs3 hB.1 hB.2 (by omega)).mono ?_; rintro e w4 ⟨rfl, d4, hp4, hs4⟩)
                    have HZ4 : Hid ((d4 : Array α).size = d.size) := Lib.hid (hp4.1.trans (by first | exact HZ3.out | rfl))
                    go_wp2_with (go_at_call 97; refine (IH.out mid en b d4 w4 (by omega) (by first | exact HZ4.out | rfl) hs4 hC.1 hC.2 hb).mono ?_; rintro e w5 ⟨rfl, d5, hp5, hs5⟩)
                    first | go_end0 | refine bodyPost_ret (results_none rfl _ _ _) rfl ?_
                    exact ⟨rfl, d5, (hp3.trans hp4).trans hp5, hs5⟩
              · have hAz : (i : Int) < (m : Int) := by omega
                have hAy : (m : Int) < (en : Int) := by omega
                rcases (show ¬ a < i ∨ (a < i ∧ ¬ i < mid) ∨ (a < i ∧ i < mid) by omega) with hB | hB | hB
                · have hBz : ¬ (a : Int) < (i : Int) := by omega
                  rcases (show ¬ mid < en ∨ (mid < en ∧ ¬ en < b) ∨ (mid < en ∧ en < b) by omega) with hC | hC | hC
                  · have hCz : ¬ (mid : Int) < (en : Int) := by omega
                    go_upto_region 41 with (go_at_call 113; refine (HR.out _ _ i m en rfl S2.out hA.1 hA.2 (by omega)).mono ?_; rintro e w3 ⟨rfl, d3, hp3, hs3⟩)
                    have HZ3 := Lib.hid hp3.1
                    go_upto_region 43 with fail
                    have hp4 : Pm d3 d3 := Pm.refl d3
                    have hs4 := hs3
                    have HZ4 : Hid ((d3 : Array α).size = d.size) := Lib.hid (hp4.1.trans (by first | exact HZ3.out | rfl))
                    go_wp2_with fail
                    have hp5 : Pm d3 d3 := Pm.refl d3
                    have hs5 := hs4
                    first | go_end0 | refine bodyPost_ret (results_none rfl _ _ _) rfl ?_
                    exact ⟨rfl, d3, (hp3.trans hp4).trans hp5, hs5⟩
                  · have hCz : (mid : Int) < (en : Int) := by omega
                    have hCy : ¬ (en : Int) < (b : Int) := by omega
                    go_upto_region 41 with (go_at_call 113; refine (HR.out _ _ i m en rfl S2.out hA.1 hA.2 (by omega)).mono ?_; rintro e w3 ⟨rfl, d3, hp3, hs3⟩)
                    have HZ3 := Lib.hid hp3.1
                    go_upto_region 43 with fail
                    have hp4 : Pm d3 d3 := Pm.refl d3
                    have hs4 := hs3
                    have HZ4 : Hid ((d3 : Array α).size = d.size) := Lib.hid (hp4.1.trans (by first | exact HZ3.out | rfl))
                    go_wp2_with fail
                    have hp5 : Pm d3 d3 := Pm.refl d3
                    have hs5 := hs4
                    first | go_end0 | refine bodyPost_ret (results_none rfl _ _ _) rfl ?_
                    exact ⟨rfl, d3, (hp3.trans hp4).trans hp5, hs5⟩
                  · have hCz : (mid : Int) < (en : Int) := by omega
                    have hCy : (en : Int) < (b : Int) := by omega
                    go_upto_region 41 with (go_at_call 113; refine (HR.out _ _ i m en rfl S2.out hA.1 hA.2 (by omega)).mono ?_; rintro e w3 ⟨rfl, d3, hp3, hs3⟩)
                    have HZ3 := Lib.hid hp3.1
                    go_upto_region 43 with fail
                    have hp4 : Pm d3 d3 := Pm.refl d3
                    have hs4 := hs3
                    have HZ4 : Hid ((d3 : Array α).size = d.size) := Lib.hid (hp4.1.trans (by first | exact HZ3.out | rfl))
                    go_wp2_with (go_at_call 97; refine (IH.out mid en b d3 w3 (by omega) (by first | exact HZ4.out | rfl) hs4 hC.1 hC.2 hb).mono ?_; rintro e w5 ⟨rfl, d5, hp5, hs5⟩)
                    first | go_end0 | refine bodyPost_ret (results_none rfl _ _ _) rfl ?_
                    exact ⟨rfl, d5, (hp3.trans hp4).trans hp5, hs5⟩
                · have hBz : (a : Int) < (i : Int) := by omega
                  have hBy : ¬ (i : Int) < (mid : Int) := by omega
                  rcases (show ¬ mid < en ∨ (mid < en ∧ ¬ en < b) ∨ (mid < en ∧ en < b) by omega) with hC | hC | hC
                  · have hCz : ¬ (mid : Int) < (en : Int) := by omega
                    go_upto_region 41 with (go_at_call 113; refine (HR.out _ _ i m en rfl S2.out hA.1 hA.2 (by omega)).mono ?_; rintro e w3 ⟨rfl, d3, hp3, hs3⟩)
                    have HZ3 := Lib.hid hp3.1
                    go_upto_region 43 with fail
                    have hp4 : Pm d3 d3 := Pm.refl d3
                    have hs4 := hs3
                    have HZ4 : Hid ((d3 : Array α).size = d.size) := Lib.hid (hp4.1.trans (by first | exact HZ3.out | rfl))
                    go_wp2_with fail
                    have hp5 : Pm d3 d3 := Pm.refl d3
                    have hs5 := hs4
                    first | go_end0 | refine bodyPost_ret (results_none rfl _ _ _) rfl ?_
                    exact ⟨rfl, d3, (hp3.trans hp4).trans hp5, hs5⟩
                  · have hCz : (mid : Int) < (en : Int) := by omega
                    have hCy : ¬ (en : Int) < (b : Int) := by omega
                    go_upto_region 41 with (go_at_call 113; refine (HR.out _ _ i m en rfl S2.out hA.1 hA.2 (by omega)).mono ?_; rintro e w3 ⟨rfl, d3, hp3, hs3⟩)
                    have HZ3 := Lib.hid hp3.1
                    go_upto_region 43 with fail
                    have hp4 : Pm d3 d3 := Pm.refl d3
                    have hs4 := hs3
                    have HZ4 : Hid ((d3 : Array α).size = d.size) := Lib.hid (hp4.1.trans (by first | exact HZ3.out | rfl))
                    go_wp2_with fail
                    have hp5 : Pm d3 d3 := Pm.refl d3
                    have hs5 := hs4
                    first | go_end0 | refine bodyPost_ret (results_none rfl _ _ _) rfl ?_
                    exact ⟨rfl, d3, (hp3.trans hp4).trans hp5, hs5⟩
                  · have hCz : (mid : Int) < (en : Int) := by omega
                    have hCy : (en : Int) < (b : Int) := by omega
                    go_upto_region 41 with (go_at_call 113; refine (HR.out _ _ i m en rfl S2.out hA.1 hA.2 (by omega)).mono ?_; rintro e w3 ⟨rfl, d3, hp3, hs3⟩)
                    have HZ3 := Lib.hid hp3.1
                    go_upto_region 43 with fail
                    have hp4 : Pm d3 d3 := Pm.refl d3
                    have hs4 := hs3
                    have HZ4 : Hid ((d3 : Array α).size = d.size) := Lib.hid (hp4.1.trans (by first | exact HZ3.out | rfl))
                    go_wp2_with (go_at_call 97; refine (IH.out mid en b d3 w3 (by omega) (by first | exact HZ4.out | rfl) hs4 hC.1 hC.2 hb).mono ?_; rintro e w5 ⟨rfl, d5, hp5, hs5⟩)
                    first | go_end0 | refine bodyPost_ret (results_none rfl _ _ _) rfl ?_
                    exact ⟨rfl, d5, (hp3.trans hp4).trans hp5, hs5⟩
                · have hBz : (a : Int) < (i : Int) := by omega
                  have hBy : (i : Int) < (mid : Int) := by omega
                  rcases (show ¬ mid < en ∨ (mid < en ∧ ¬ en < b) ∨ (mid < en ∧ en < b) by omega) with hC | hC | hC
                  · have hCz : ¬ (mid : Int) < (en : Int) := by omega
                    go_upto_region 41 with (go_at_call 113; refine (HR.out _ _ i m en rfl S2.out hA.1 hA.2 (by omega)).mono ?_; rintro e w3 ⟨rfl, d3, hp3, hs3⟩)
                    have HZ3 := Lib.hid hp3.1
                    go_upto_region 43 with (go_at_call 97; refine (IH.out a i mid d3 w3 (by omega) (by first | exact HZ3.out | rfl) hs3 hB.1 hB.2 (by omega)).mono ?_; rintro e w4 ⟨rfl, d4, hp4, hs4⟩)
                    have HZ4 : Hid ((d4 : Array α).size = d.size) := Lib.hid (hp4.1.trans (by first | exact HZ3.out | rfl))
                    go_wp2_with fail
                    have hp5 : Pm d4 d4 := Pm.refl d4
                    have hs5 := hs4
                    first | go_end0 | refine bodyPost_ret (results_none rfl _ _ _) rfl ?_
                    exact ⟨rfl, d4, (hp3.trans hp4).trans hp5, hs5⟩
                  · have hCz : (mid : Int) < (en : Int) := by omega
                    have hCy : ¬ (en : Int) < (b : Int) := by omega
                    go_upto_region 41 with (go_at_call 113; refine (HR.out _ _ i m en rfl S2.out hA.1 hA.2 (by omega)).mono ?_; rintro e w3 ⟨rfl, d3, hp3, hs3⟩)
                    have HZ3 := Lib.hid hp3.1
                    go_upto_region 43 with (go_at_call 97; refine (IH.out a i mid d3 w3 (by omega) (by first | exact HZ3.out | rfl) hs3 hB.1 hB.2 (by omega)).mono ?_; rintro e w4 ⟨rfl, d4, hp4, hs4⟩)
                    have HZ4 : Hid ((d4 : Array α).size = d.size) := Lib.hid (hp4.1.trans (by first | exact HZ3.out | rfl))
                    go_wp2_with fail
                    have hp5 : Pm d4 d4 := Pm.refl d4
                    have hs5 := hs4
                    first | go_end0 | refine bodyPost_ret (results_none rfl _ _ _) rfl ?_
                    exact ⟨rfl, d4, (hp3.trans hp4).trans hp5, hs5⟩
                  · have hCz : (mid : Int) < (en : Int) := by omega
                    have hCy : (en : Int) < (b : Int) := by omega
                    go_upto_region 41 with (go_at_call 113; refine (HR.out _ _ i m en rfl S2.out hA.1 hA.2 (by omega)).mono ?_; rintro e w3 ⟨rfl, d3, hp3, hs3⟩)
                    have HZ3 := Lib.hid hp3.1
                    go_upto_region 43 with (go_at_call 97; refine (IH.out a i mid d3 w3 (by omega) (by first | exact HZ3.out | rfl) hs3 hB.1 hB.2 (by omega)).mono ?_; rintro e w4 ⟨rfl, d4, hp4, hs4⟩)
                    have HZ4 : Hid ((d4 : Array α).size = d.size) := Lib.hid (hp4.1.trans (by first | exact HZ3.out | rfl))
                    go_wp2_with (go_at_call 97; refine (IH.out mid en b d4 w4 (by omega) (by first | exact HZ4.out | rfl) hs4 hC.1 hC.2 hb).mono ?_; rintro e w5 ⟨rfl, d5, hp5, hs5⟩)
                    first | go_end0 | refine bodyPost_ret (results_none rfl _ _ _) rfl ?_
                    exact ⟨rfl, d5, (hp3.trans hp4).trans hp5, hs5⟩
end Go.Proofs.YtikegddlbelfaaaGreatDoor
