/-
  The law PlanParses, walked.
-/
import Derived.Test.YtfenmeacimfiaaaGreatDoorPw17
import Derived.Test.YtfenmeacimfiaaaGreatDoorPw18
import Derived.Test.YtfenmeacimfiaaaGreatDoorPaths
namespace Go.Proofs.YtfenmeacimfiaaaGreatDoor
open Go.RowKit

theorem ParseR.small {t : ByteArray} {r : PRes} (h : ParseR t r) : r.S.length + r.R.length ≤ 2000000 := by
  rcases h with ⟨_, rfl⟩ | ⟨ht, m, last, h1, h2, h3⟩
  · simp [zeroR]
  · rcases h3 with ⟨i, S, R, a, b, _, _, _, rfl⟩ | ⟨S, R, a, b, hr, h4⟩
    · simp [zeroR]
    · have hg := (hr.good (lines_len ht)).2.2.1
      have hn := Wh.pieces_le 10 t
      rcases h4 with ⟨_, rfl⟩ | ⟨_, h5⟩
      · simp [zeroR]
      · rcases h5 with ⟨_, rfl⟩ | ⟨_, rfl⟩
        · simp [zeroR]
        · dsimp only
          omega

set_option maxHeartbeats 4000000 in
set_option maxRecDepth 100000 in
theorem planParses_walk (t : ByteArray) (w : World) (hE : Env w) (hX : EnvX w) (hT : EnvT w) (hS : EnvS w) :
    Calls Tryz.prog 3 #[.string t] w fun e w' => e = .returned (.bool true) ∧ Below w.heap.size w w' := by
  have HL := Lib.hid (fun W (hb : Below w.heap.size w W) => landed_any W (hE.under hb))
  have HP := Lib.hid (fun W (hb : Below w.heap.size w W) => parse_any t W (hE.under hb) (hX.under hb) (hT.under hb) (hS.under hb))
  have HR := Lib.hid (fun W (hb : Below w.heap.size w W) => refParse_any t W (hE.under hb) (hX.under hb) (hT.under hb))
  clear hE hX hT hS
  go_enter Tryz.func3, Tryz.ntmps3
  go_upto_region 3 with (go_at_call 8; refine (HL.out _ (Below.refl _ _)).mono ?_; rintro e w2 ⟨rfl, hb2⟩)
  go_upto_region 4 with (go_at_call 9; refine (HP.out _ hb2).mono ?_; rintro e w3 ⟨r1, sa, ra, sc, rc, hp1, rfl, hs1, hr1, hb3⟩)
  replace hb2 := bTrans hb2 hb3
  have HQ1 := Lib.hid (And.intro hp1 (And.intro hs1 hr1))
  have HX1 := Lib.hid (BoxIs.new w3 #[.slice sa r1.S.length sc, .slice ra r1.R.length rc, .int .i64 r1.same, .int .i64 r1.bytes] planTy)
  have HB1 := Lib.hid (bAlloc (Below.refl w3.heap.size w3) (.cells #[.slice sa r1.S.length sc, .slice ra r1.R.length rc, .int .i64 r1.same, .int .i64 r1.bytes] planTy))
  clear hp1 hs1 hr1 hb3
  generalize w3.alloc _ = w4 at *
  replace hb2 := bTrans hb2 HB1.out
  obtain ⟨p1, hp1⟩ : ∃ p1, p1 = w3.heap.size := ⟨_, rfl⟩
  rw [← hp1]
  rw [← hp1] at HX1
  clear hp1
  go_upto_region 5 with (go_at_call 10; refine (HR.out _ hb2).mono ?_; rintro e w5 ⟨r2, sa2, ra2, sc2, rc2, hp2, rfl, hs2, hr2, hb4⟩)
  obtain rfl := HQ1.out.1.det hp2
  have HX2 := Lib.hid (BoxIs.new w5 #[.slice sa2 r1.S.length sc2, .slice ra2 r1.R.length rc2, .int .i64 r1.same, .int .i64 r1.bytes] planTy)
  have HB2 := Lib.hid (bAlloc (Below.refl w5.heap.size w5) (.cells #[.slice sa2 r1.S.length sc2, .slice ra2 r1.R.length rc2, .int .i64 r1.same, .int .i64 r1.bytes] planTy))
  have hb45 := bTrans HB1.out hb4
  have HK := Lib.hid (fun W (hb : Below w5.heap.size w5 W) => alikePlan_any r1.S r1.R r1.same r1.bytes sa sa2 ra ra2 sc sc2 rc rc2 W ((HQ1.out.2.1.under hb45).under hb) (hs2.under hb) ((HQ1.out.2.2.under hb45).under hb) (hr2.under hb) hp2.small)
  replace hb2 := bTrans hb2 hb4
  replace HX1 := Lib.hid (HX1.out.under hb4)
  clear hp2 hs2 hr2 hb4 hb45 HQ1 HL HP HR HB1
  generalize r1.S.length = NS at *
  generalize r1.R.length = NR at *
  generalize r1.same = r1a at *
  generalize r1.bytes = r1b at *
  generalize r1.n = r1n at *
  generalize r1.err = r1e at *
  obtain ⟨p2, hp2⟩ : ∃ p2, p2 = w5.heap.size := ⟨_, rfl⟩
  rw [← hp2]
  rw [← hp2] at HX2
  clear hp2
  replace HX1 := Lib.hid (HX1.out.under HB2.out)
  generalize w5.alloc _ = w6 at *
  have c0 := HX1.out.cell (j := 0) rfl
  have c1 := HX1.out.cell (j := 1) rfl
  have c2 := HX1.out.cell (j := 2) rfl
  have c3 := HX1.out.cell (j := 3) rfl
  have k0 := HX2.out.cell (j := 0) rfl
  have k1 := HX2.out.cell (j := 1) rfl
  have k2 := HX2.out.cell (j := 2) rfl
  have k3 := HX2.out.cell (j := 3) rfl
  go_wp2_with (go_at_call 11; refine (HK.out _ HB2.out).mono ?_; rintro e w7 ⟨rfl, hb7⟩)
  go_ret
  exact ⟨rfl, bTrans hb2 (bTrans HB2.out hb7)⟩
end Go.Proofs.YtfenmeacimfiaaaGreatDoor
