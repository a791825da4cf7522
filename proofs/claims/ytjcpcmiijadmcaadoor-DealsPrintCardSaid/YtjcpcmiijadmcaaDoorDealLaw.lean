/-
  The law DealsPrint, walked.
-/
import Derived.Test.YtjcpcmiijadmcaaDoorDeal6
namespace Go.Proofs.YtjcpcmiijadmcaaDoor
open Go.RowKit

set_option maxHeartbeats 2000000 in
set_option maxRecDepth 100000 in
theorem dealsPrint_walk (x : DealAt) (w : World) (hE : Env w) (hT : EnvT w) (hD : DealOk x w) (hN : x.d.nums) :
    Calls Tryd.prog 3 #[dealVal x] w fun e w' => e = .returned (.bool true) ∧ Below w.heap.size w w' := by
  have HL := Lib.hid (fun W (hb : Below w.heap.size w W) => landed_any W (hE.under hb))
  have H1 := Lib.hid (fun W (hb : Below w.heap.size w W) => refCheckDeal_any x W (hE.under hb) (hD.under hb))
  have H2 := Lib.hid (fun W (hb : Below w.heap.size w W) => printDeal_any x W (hE.under hb) (hT.under hb) (hD.under hb) hN)
  have H3 := Lib.hid (fun W (hb : Below w.heap.size w W) => refPrintDeal_any x W (hE.under hb) (hT.under hb) (hD.under hb) hN)
  have H4 := Lib.hid (fun W (hb : Below w.heap.size w W) => checkDeal_any x W (hE.under hb) (hD.under hb))
  have HB1 := Lib.hid (dealBox_new w x 26)
  clear hE hT hD hN
  unfold DealPost at H2 H3
  obtain ⟨d, a1, a2, a3, a4, c1, c2, c3, c4⟩ := x
  simp only [] at *
  generalize (⟨(Wh.dealText d).toArray⟩ : ByteArray) = T at *
  generalize Wh.dealErr d = E at *
  have hb0 := bAlloc (Below.refl w.heap.size w) (.cells #[.slice a1 d.acts.length c1, .slice a2 d.refused.length c2, .slice a3 d.equal.length c3, .slice a4 d.conf.length c4] 26)
  go_enter Tryd.func3, Tryd.ntmps3
  go_upto_region 1 with fail
  generalize w.alloc _ = w1 at *
  go_wp2_with fail
  refine (HL.out _ hb0).mono ?_
  rintro e w2 ⟨rfl, hb1⟩
  replace HB1 := Lib.hid (HB1.out.under hb1)
  replace hb0 := bTrans hb0 hb1
  clear hb1 HL
  obtain ⟨k0, k1, k2, k3, k4⟩ := HB1.out
  go_wp2_with fail
  refine (H1.out _ hb0).mono ?_
  rintro e w3 ⟨rfl, hb1⟩
  clear k0 k1 k2 k3 k4
  replace HB1 := Lib.hid (HB1.out.under hb1)
  replace hb0 := bTrans hb0 hb1
  clear hb1
  obtain ⟨k0, k1, k2, k3, k4⟩ := HB1.out
  go_wp2_with fail
  refine (H2.out _ hb0).mono ?_
  rintro e w4 ⟨rfl, hb1⟩
  clear k0 k1 k2 k3 k4
  replace HB1 := Lib.hid (HB1.out.under hb1)
  replace hb0 := bTrans hb0 hb1
  clear hb1
  obtain ⟨k0, k1, k2, k3, k4⟩ := HB1.out
  go_wp2_with fail
  refine (H3.out _ hb0).mono ?_
  rintro e w5 ⟨rfl, hb1⟩
  clear k0 k1 k2 k3 k4
  replace HB1 := Lib.hid (HB1.out.under hb1)
  replace hb0 := bTrans hb0 hb1
  clear hb1
  obtain ⟨k0, k1, k2, k3, k4⟩ := HB1.out
  go_wp2_with fail
  refine (H4.out _ hb0).mono ?_
  rintro e w6 ⟨rfl, hb1⟩
  go_wp2_with fail
  go_ret
  exact ⟨rfl, bTrans hb0 hb1⟩
end Go.Proofs.YtjcpcmiijadmcaaDoor
