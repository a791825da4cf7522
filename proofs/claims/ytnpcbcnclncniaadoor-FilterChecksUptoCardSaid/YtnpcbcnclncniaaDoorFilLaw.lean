/-
  The law FilterChecks, walked.
-/
import Derived.Test.YtnpcbcnclncniaaDoorRowFil
import Derived.Test.YtnpcbcnclncniaaDoorPaths
namespace Go.Proofs.YtnpcbcnclncniaaDoor
open Go.RowKit

set_option maxHeartbeats 2000000 in
set_option maxRecDepth 100000 in
theorem passes_err {D : Nat} (f : FilterOf D) (x : InfoOf) (now : Int) (w : World) (hs : RulesOk w D f.rules) (hK : ckF f ≠ 0) :
    Calls Tryd.prog 14 #[.agg (filterArr f), .agg (infoArr x), .int .i64 now] w fun e w' => e = .returned (.tuple #[.bool false, .int .i64 (ckF f)]) ∧ Below w.heap.size w w' := by
  have hb1 := bAlloc (bAlloc (Below.refl w.heap.size w) (.cells (filterArr f) 36)) (.cells (infoArr x) 40)
  have HX := Lib.hid ((BoxIs.new w (filterArr f) 36).under (bAlloc (Below.refl _ _) (.cells (infoArr x) 40)))
  have HC := Lib.hid (fun W (hb : Below w.heap.size w W) => checkFilter_any f W (hs.under hb))
  have hK' : (ckF f != 0) = true := by simp [hK]
  generalize ckF f = K at *
  clear hs hK
  go_enter Tryd.func14, Tryd.ntmps14
  go_upto_region 1 with fail
  generalize (w.alloc _).alloc _ = w1 at *
  have c0 := HX.out.cell (j := 0) rfl
  have c1 := HX.out.cell (j := 1) rfl
  have c2 := HX.out.cell (j := 2) rfl
  have c3 := HX.out.cell (j := 3) rfl
  have c4 := HX.out.cell (j := 4) rfl
  have c5 := HX.out.cell (j := 5) rfl
  go_wp2_with fail
  refine (HC.out _ hb1).mono ?_
  rintro e w2 ⟨rfl, hb2⟩
  clear c0 c1 c2 c3 c4 c5
  go_wp2_with fail
  go_ret2
  exact ⟨rfl, bTrans hb1 hb2⟩

set_option maxHeartbeats 2000000 in
set_option maxRecDepth 100000 in
theorem passesDir_err {D : Nat} (f : FilterOf D) (p : ByteArray) (w : World) (hs : RulesOk w D f.rules) (hK : ckF f ≠ 0) :
    Calls Tryd.prog 16 #[.agg (filterArr f), .string p] w fun e w' => e = .returned (.tuple #[.bool false, .int .i64 (ckF f)]) ∧ Below w.heap.size w w' := by
  have hb1 := bAlloc (Below.refl w.heap.size w) (.cells (filterArr f) 36)
  have HX := Lib.hid (BoxIs.new w (filterArr f) 36)
  have HC := Lib.hid (fun W (hb : Below w.heap.size w W) => checkFilter_any f W (hs.under hb))
  have hK' : (ckF f != 0) = true := by simp [hK]
  generalize ckF f = K at *
  clear hs hK
  go_enter Tryd.func16, Tryd.ntmps16
  go_upto_region 1 with fail
  generalize w.alloc _ = w1 at *
  have c0 := HX.out.cell (j := 0) rfl
  have c1 := HX.out.cell (j := 1) rfl
  have c2 := HX.out.cell (j := 2) rfl
  have c3 := HX.out.cell (j := 3) rfl
  have c4 := HX.out.cell (j := 4) rfl
  have c5 := HX.out.cell (j := 5) rfl
  go_wp2_with fail
  refine (HC.out _ hb1).mono ?_
  rintro e w2 ⟨rfl, hb2⟩
  clear c0 c1 c2 c3 c4 c5
  go_wp2_with fail
  go_ret2
  exact ⟨rfl, bTrans hb1 hb2⟩

set_option maxHeartbeats 4000000 in
set_option maxRecDepth 100000 in
theorem filterChecks_walk {D : Nat} (f : FilterOf D) (x : InfoOf) (now : Int) (w : World) (hE : Env w) (hs : RulesOk w D f.rules) :
    Calls Tryd.prog 6 #[.agg (filterArr f), .agg (infoArr x), .int .i64 now] w fun e w' => e = .returned (.bool true) ∧ Below w.heap.size w w' := by
  have hb1 := bAlloc (bAlloc (Below.refl w.heap.size w) (.cells (filterArr f) 36)) (.cells (infoArr x) 40)
  have HX := Lib.hid ((BoxIs.new w (filterArr f) 36).under (bAlloc (Below.refl _ _) (.cells (infoArr x) 40)))
  have HY := Lib.hid (BoxIs.new (w.alloc (.cells (filterArr f) 36)) (infoArr x) 40)
  have hsz : (w.alloc (.cells (filterArr f) 36)).heap.size = w.heap.size + 1 := by simp
  rw [hsz] at HY
  have HC := Lib.hid (fun W (hb : Below w.heap.size w W) => checkFilter_any f W (hs.under hb))
  have HR := Lib.hid (fun W (hb : Below w.heap.size w W) => refCheckFilter_any f W (hs.under hb))
  have HP := Lib.hid (fun hK W (hb : Below w.heap.size w W) => passes_err f x now W (hs.under hb) hK)
  have HPD := Lib.hid (fun hK W (hb : Below w.heap.size w W) => passesDir_err f x.path W (hs.under hb) hK)
  have HL := Lib.hid (fun W (hb : Below w.heap.size w W) => landed_any W (hE.under hb))
  generalize ckF f = K at *
  clear hs hE hsz
  go_enter Tryd.func6, Tryd.ntmps6
  go_upto_region 1 with fail
  generalize (w.alloc _).alloc _ = w1 at *
  go_wp2_with fail
  refine (HL.out _ hb1).mono ?_
  rintro e w2 ⟨rfl, hb2⟩
  have HX2 := Lib.hid (HX.out.under hb2)
  have HY2 := Lib.hid (HY.out.under hb2)
  replace hb2 := bTrans hb1 hb2
  clear HL HX HY hb1
  have c0 := HX2.out.cell (j := 0) rfl
  have c1 := HX2.out.cell (j := 1) rfl
  have c2 := HX2.out.cell (j := 2) rfl
  have c3 := HX2.out.cell (j := 3) rfl
  have c4 := HX2.out.cell (j := 4) rfl
  have c5 := HX2.out.cell (j := 5) rfl
  go_wp2_with fail
  refine (HR.out _ hb2).mono ?_
  rintro e w3 ⟨rfl, hb3⟩
  have HX3 := Lib.hid (HX2.out.under hb3)
  have HY3 := Lib.hid (HY2.out.under hb3)
  replace hb3 := bTrans hb2 hb3
  clear c0 c1 c2 c3 c4 c5 HX2 HY2 hb2 HR
  have c0 := HX3.out.cell (j := 0) rfl
  have c1 := HX3.out.cell (j := 1) rfl
  have c2 := HX3.out.cell (j := 2) rfl
  have c3 := HX3.out.cell (j := 3) rfl
  have c4 := HX3.out.cell (j := 4) rfl
  have c5 := HX3.out.cell (j := 5) rfl
  go_wp2_with fail
  refine (HC.out _ hb3).mono ?_
  rintro e w4 ⟨rfl, hb4⟩
  have HX4 := Lib.hid (HX3.out.under hb4)
  have HY4 := Lib.hid (HY3.out.under hb4)
  replace hb4 := bTrans hb3 hb4
  clear c0 c1 c2 c3 c4 c5 HX3 HY3 hb3 HC
  by_cases hK : K = 0
  · subst hK
    go_wp2_with fail
    go_ret
    exact ⟨rfl, hb4⟩
  have hK2 : (K == 0) = false := by simp [hK]
  have HP := Lib.hid (HP.out hK)
  have HPD := Lib.hid (HPD.out hK)
  clear hK
  have c0 := HX4.out.cell (j := 0) rfl
  have c1 := HX4.out.cell (j := 1) rfl
  have c2 := HX4.out.cell (j := 2) rfl
  have c3 := HX4.out.cell (j := 3) rfl
  have c4 := HX4.out.cell (j := 4) rfl
  have c5 := HX4.out.cell (j := 5) rfl
  have i0 := HY4.out.cell (j := 0) rfl
  have i1 := HY4.out.cell (j := 1) rfl
  have i2 := HY4.out.cell (j := 2) rfl
  have i3 := HY4.out.cell (j := 3) rfl
  have i4 := HY4.out.cell (j := 4) rfl
  have i5 := HY4.out.cell (j := 5) rfl
  have i6 := HY4.out.cell (j := 6) rfl
  go_wp2_with fail
  refine (HP.out _ hb4).mono ?_
  rintro e w5 ⟨rfl, hb5⟩
  have HX5 := Lib.hid (HX4.out.under hb5)
  have HY5 := Lib.hid (HY4.out.under hb5)
  replace hb5 := bTrans hb4 hb5
  clear c0 c1 c2 c3 c4 c5 i0 i1 i2 i3 i4 i5 i6 HX4 HY4 hb4 HP
  have c0 := HX5.out.cell (j := 0) rfl
  have c1 := HX5.out.cell (j := 1) rfl
  have c2 := HX5.out.cell (j := 2) rfl
  have c3 := HX5.out.cell (j := 3) rfl
  have c4 := HX5.out.cell (j := 4) rfl
  have c5 := HX5.out.cell (j := 5) rfl
  have i0 := HY5.out.cell (j := 0) rfl
  go_wp2_with fail
  refine (HPD.out _ hb5).mono ?_
  rintro e w6 ⟨rfl, hb6⟩
  clear c0 c1 c2 c3 c4 c5 i0
  go_wp2_with fail
  go_ret
  exact ⟨rfl, bTrans hb5 hb6⟩
end Go.Proofs.YtnpcbcnclncniaaDoor
