/-
  The texts Pa2, Pa3, Pa4, Pa5, Pa6, Pa7, in one.
-/
import Derived.Test.YtmafnjapailliaaGreatDoorMeC
import Derived.Test.YtmafnjapailliaaGreatDoorPa1
import Derived.LaidEqlPtr
import Derived.Lib.SliceRun
namespace Go.Proofs.YtmafnjapailliaaGreatDoor
open Go.RowKit

theorem infoUp : (Tryz.prog.info? 180).map (fun i => (i.zero, i.size, i.bytes)) = some (some (.pointer none), 1, 8) := by kernel_rfl
theorem MemAt.rebegun {w : World} {B : Nat} {A : ByteArray} {M : MB} {s : MSt} (h : MemAt w B A M s) (n : Int) : MemAt (w.setCell ⟨M.b, 16, none⟩ (.int .i64 n)) B A M { s with begun := n } := by
  have hap := h.apart
  have hk : Kp (fun i => i = M.b) w (w.setCell ⟨M.b, 16, none⟩ (.int .i64 n)) := (Kp.refl (fun i => i = M.b) w).set (b := M.b) (.inl rfl) 16 _
  refine ⟨BoxIs.putAt h.box 16 (.int .i64 n), h.clk.kp hk (fun e => hap.b.1 e.symm), h.root.kp hk (fun e => hap.b.2.1 e.symm), h.kids.kp hk (fun e => hap.b.2.2.1 e.symm), h.ca.kp hk (fun e => hap.b.2.2.2.1 e.symm), h.si.kp hk (fun e => hap.b.2.2.2.2.1 e.symm), fun c hc => (h.file c hc).kp hk (fun e => (hap.nb (by rw [hc]; simp)).1 e.symm), h.nums.kp hk (fun e => hap.b.2.2.2.2.2.2.1 e.symm), h.vers.kp hk (fun e => hap.b.2.2.2.2.2.1 e.symm), h.row.kp hk (fun i hi e => hap.b.2.2.2.2.2.2.2 (e ▸ hi)), h.lo, h.ne1, h.ne2⟩
theorem MemAt.reups {w : World} {B : Nat} {A : ByteArray} {M : MB} {s : MSt} (h : MemAt w B A M s) (v : Value) : MemAt (w.setCell ⟨M.b, 17, none⟩ v) B A M { s with ups := v } := by
  have hap := h.apart
  have hk : Kp (fun i => i = M.b) w (w.setCell ⟨M.b, 17, none⟩ v) := (Kp.refl (fun i => i = M.b) w).set (b := M.b) (.inl rfl) 17 _
  refine ⟨BoxIs.putAt h.box 17 v, h.clk.kp hk (fun e => hap.b.1 e.symm), h.root.kp hk (fun e => hap.b.2.1 e.symm), h.kids.kp hk (fun e => hap.b.2.2.1 e.symm), h.ca.kp hk (fun e => hap.b.2.2.2.1 e.symm), h.si.kp hk (fun e => hap.b.2.2.2.2.1 e.symm), fun c hc => (h.file c hc).kp hk (fun e => (hap.nb (by rw [hc]; simp)).1 e.symm), h.nums.kp hk (fun e => hap.b.2.2.2.2.2.2.1 e.symm), h.vers.kp hk (fun e => hap.b.2.2.2.2.2.1 e.symm), h.row.kp hk (fun i hi e => hap.b.2.2.2.2.2.2.2 (e ▸ hi)), h.lo, h.ne1, h.ne2⟩
theorem MemAt.begunc {w : World} {B : Nat} {A : ByteArray} {M : MB} {s : MSt} (h : MemAt w B A M s) : w.cell? ⟨M.b, 16, none⟩ = some (.int .i64 s.begun) := h.box.cell (j := 16) rfl
theorem MemAt.upsc {w : World} {B : Nat} {A : ByteArray} {M : MB} {s : MSt} (h : MemAt w B A M s) : w.cell? ⟨M.b, 17, none⟩ = some s.ups := h.box.cell (j := 17) rfl

abbrev upArr (id A : ByteArray) (t : Int) (mp : Nat) : Array Value := #[.string id, .string A, .int .i64 t, .slice none 0 0, .map (some mp)]
/-- The one upload that is open. -/
structure UpAt (w : World) (B : Nat) (ra : Option Addr) (cap u mp : Nat) (id A : ByteArray) (t : Int) (ps : List ByteArray) : Prop where
  row : RowG 180 1 w B ra cap [[ptr u]]
  box : BoxIs w u (upArr id A t mp) 183
  map : PartsIs w mp ps
  lo : B ≤ u ∧ B ≤ mp
theorem UpAt.kp {F : Nat → Prop} {w w' : World} {B : Nat} {ra : Option Addr} {cap u mp : Nat} {id A : ByteArray} {t : Int} {ps : List ByteArray} (h : UpAt w B ra cap u mp id A t ps) (hk : Kp F w w') (hF : ∀ i, F i → i < B) : UpAt w' B ra cap u mp id A t ps :=
  ⟨h.row.kp hk (fun i hi e => absurd (hF i e) (Nat.not_lt.2 (h.row.base i hi).1)), h.box.kp hk (fun e => absurd (hF _ e) (Nat.not_lt.2 h.lo.1)), h.map.kp hk (fun e => absurd (hF _ e) (Nat.not_lt.2 h.lo.2)), h.lo⟩
/-- The store with one upload. -/
structure Ups (w0 : World) (A : ByteArray) (M : MB) (s : MSt) (B : Nat) (ra : Option Addr) (cap u mp : Nat) (id : ByteArray) (t : Int) (ps : List ByteArray) (W : World) : Prop where
  bel : Below w0.heap.size w0 W
  mem : MemAt W w0.heap.size A M s
  up : UpAt W B ra cap u mp id A t ps
  ups : s.ups = .slice ra 1 cap
  nb : M.nb < W.heap.size
  ap : ∀ i, MF M i ∨ i = M.cb ∨ i = M.rb → i < B
  base : w0.heap.size ≤ B
def BegPost (w0 : World) (A : ByteArray) (M : MB) (s : MSt) (t : Int) (w : World) (e : Ending) (w' : World) : Prop :=
  ∃ id ra cap u mp, e = .returned (.tuple #[.string id, .int .i64 0]) ∧ Ups w0 A M { s with begun := 1, ups := .slice ra 1 cap } w.heap.size ra cap u mp id t [] w' ∧ Goes M M w w'
set_option maxHeartbeats 4000000 in
set_option maxRecDepth 100000 in
theorem beginUp_any (w0 : World) (T : Tabs) (A : ByteArray) (M : MB) (s : MSt) (t : Int) (w : World) (hG : Gr w0 T) (hb0 : Below w0.heap.size w0 w) (hM : MemAt w w0.heap.size A M s) (hnb : M.nb < w.heap.size) (hA : PathA A) (hf : FOk s.f A) (hp : hasB s.f 128 = true) (hbg : s.begun = 0) (hup : s.ups = .slice none 0 0) :
    Calls Tryz.prog 278 #[ptr M.b, .string A, .int .i64 t, .slice none 0 0] w (BegPost w0 A M s t w) := by
  have HBe := Lib.hid (begin_any 10 (by decide) w w0.heap.size A M s hM)
  have HNw := Lib.hid (fun W (hb : Below w0.heap.size w0 W) (h : MemAt W w0.heap.size A M s) => isNew_any M.b s.f A W hA (hG.env.below hb (Nat.le_refl _)) hf.a h.feats)
  have HHa := Lib.hid (fun W (h : MemAt W w0.heap.size A M s) => has_any M.b s.f 128 W h.has)
  rw [hp] at HHa
  have HPl := Lib.hid (fun W (hb : Below w0.heap.size w0 W) (h : MemAt W w0.heap.size A M s) => place_any W w0.heap.size A M s h hA (hG.env.below hb (Nat.le_refl _)))
  have HMf := Lib.hid metaForm_nil
  have HIt := Lib.hid (fun W (hb : Below w0.heap.size w0 W) => itoa_any 1 W (hG.pow.under hb) (by decide) (by decide))
  have HCl := Lib.hid cloneM_nil
  obtain ⟨ns, hns⟩ : ∃ ns, numS 1 = ns := ⟨_, rfl⟩
  have hnz := numS_size 1 (by decide) (by decide)
  rw [hns] at HIt hnz
  have HMl := Lib.hid (fun i (hi : MF M i ∨ i = M.cb ∨ i = M.rb) => hM.mfl hnb hi)
  have HM := Lib.hid hM
  have HB0 := Lib.hid hb0
  have HBg := Lib.hid hbg
  have HUp := Lib.hid hup
  clear hM hf hb0 hp hbg hup hns hA hG
  have hmm := @run_makeMap Tryz.prog
  go_enter Tryz.func278, Tryz.ntmps278
  go_upto_region 4 with (go_at_call 28; refine HBe.out.mono ?_; rintro e w1 ⟨rfl, hm1, hk1, hz1⟩)
  have HG1 : Hid (Goes M M w w1) := Lib.hid (Goes.counted hk1)
  have HM1 := Lib.hid hm1
  have HB1 : Hid (Below w0.heap.size w0 w1) := Lib.hid (HG1.out.below HM.out HB0.out)
  clear hm1 hk1 hz1 HBe
  go_upto_region 7 with (go_at_call 34; refine (HNw.out _ HB1.out HM1.out).mono ?_; rintro e w2 ⟨rfl, hb2⟩)
  have HG2 : Hid (Goes M M w w2) := Lib.hid (HG1.out.trans (Goes.of hb2))
  have HM2 := Lib.hid (HM1.out.below hb2)
  have HB2 : Hid (Below w0.heap.size w0 w2) := Lib.hid (HG2.out.below HM.out HB0.out)
  clear hb2 HG1 HM1 HB1 HNw
  go_upto_region 9 with (go_at_call 36; refine (HHa.out _ HM2.out).mono ?_; rintro e w2' ⟨rfl, hw⟩; have hw2 := hw.symm; clear hw; subst hw2)
  go_upto_region 12 with (go_at_call 88; refine (HPl.out _ HB2.out HM2.out).mono ?_; rintro e w3 ⟨rfl, hb3⟩)
  have HG3 : Hid (Goes M M w w3) := Lib.hid (HG2.out.trans (Goes.of hb3))
  have HM3 := Lib.hid (HM2.out.below hb3)
  have HB3 : Hid (Below w0.heap.size w0 w3) := Lib.hid (HG3.out.below HM.out HB0.out)
  clear hb3 HG2 HM2 HB2 HPl HHa
  go_upto_region 14 with (go_at_call 89; refine (HMf.out _).mono ?_; rintro e w3' ⟨rfl, hw⟩; have hw2 := hw.symm; clear hw; subst hw2)
  have c16 : w3.cell? ⟨M.b, 16, none⟩ = some (.int .i64 0) := by have h := HM3.out.begunc; rw [HBg.out] at h; exact h
  have c17 : w3.cell? ⟨M.b, 17, none⟩ = some (.slice none 0 0) := by have h := HM3.out.upsc; rw [HUp.out] at h; exact h
  have f16 : w3.frozen? ⟨M.b, 16, none⟩ = false := Lib.frozen_of_heap HM3.out.box 16
  go_upto_region 17 with fail
  have hm4 : MemAt (w3.setCell ⟨M.b, 16, none⟩ (.int .i64 1)) w0.heap.size A M { s with begun := 1 } := HM3.out.rebegun 1
  have hk4 : Kp (fun i => i = M.b) w3 (w3.setCell ⟨M.b, 16, none⟩ (.int .i64 1)) := (Kp.refl (fun i => i = M.b) w3).set (b := M.b) (.inl rfl) 16 _
  have HM4 := Lib.hid hm4
  have HG4 : Hid (Goes M M w _) := Lib.hid (HG3.out.trans (Goes.same hk4 (fun i e => .inl e)))
  have HB4 : Hid (Below w0.heap.size w0 _) := Lib.hid (HG4.out.below HM.out HB0.out)
  clear c16 c17 f16 hm4 hk4 HM3 HG3 HB3
  generalize w3.setCell ⟨M.b, 16, none⟩ (.int .i64 1) = w4 at *
  have c16 : w4.cell? ⟨M.b, 16, none⟩ = some (.int .i64 1) := HM4.out.begunc
  go_upto_region 18 with (first | (go_at_call 139; refine (HIt.out _ HB4.out).mono ?_; rintro e w5 ⟨rfl, hb5⟩) | (go_at_call 40; refine (HCl.out _).mono ?_; rintro e w5' ⟨rfl, hw⟩; have hw2 := hw.symm; clear hw; subst hw2))
  have hb6 : Below w5.heap.size w5 ((w5.alloc (.map #[] 0)).alloc (.cells #[.string (⟨#[117]⟩ ++ ns), .string A, .int .i64 t, .slice none 0 0, .map (some w5.heap.size)] 183)) := bAlloc (bAlloc (Below.refl _ _) _) _
  have hbx : BoxIs ((w5.alloc (.map #[] 0)).alloc (.cells #[.string (⟨#[117]⟩ ++ ns), .string A, .int .i64 t, .slice none 0 0, .map (some w5.heap.size)] 183)) (w5.heap.size + 1) (upArr (⟨#[117]⟩ ++ ns) A t w5.heap.size) 183 := by
    have h := BoxIs.new (w5.alloc (.map #[] 0)) (upArr (⟨#[117]⟩ ++ ns) A t w5.heap.size) 183
    rw [show (w5.alloc (.map #[] 0)).heap.size = w5.heap.size + 1 by simp] at h
    exact h
  have hmp : PartsIs ((w5.alloc (.map #[] 0)).alloc (.cells #[.string (⟨#[117]⟩ ++ ns), .string A, .int .i64 t, .slice none 0 0, .map (some w5.heap.size)] 183)) w5.heap.size [] := (PartsIs.new w5).kp (Kp.of (F := fun _ => False) (bAlloc (Below.refl _ _) _)) (fun e => e)
  have HG6 : Hid (Goes M M w _) := Lib.hid (HG4.out.trans (Goes.of (bTrans hb5 hb6)))
  have HM6 := Lib.hid ((HM4.out.below hb5).below hb6)
  have HB6 : Hid (Below w0.heap.size w0 _) := Lib.hid (HG6.out.below HM.out HB0.out)
  have hlo : w.heap.size ≤ w5.heap.size := Nat.le_trans HG4.out.kp.size hb5.size
  have HLo : Hid (w.heap.size ≤ w5.heap.size + 1 ∧ w.heap.size ≤ w5.heap.size) := Lib.hid ⟨by omega, hlo⟩
  have HBx := Lib.hid hbx
  have HMp := Lib.hid hmp
  clear hb5 hb6 hbx hmp hlo c16 HM4 HG4 HB4
  generalize (⟨#[117]⟩ ++ ns : ByteArray) = id at *
  generalize (w5.alloc (.map #[] 0)).alloc _ = w6 at *
  generalize w5.heap.size + 1 = u at *
  generalize w5.heap.size = mp at *
  have c17 : w6.cell? ⟨M.b, 17, none⟩ = some (.slice none 0 0) := by have h := HM6.out.upsc; rw [show ({ s with begun := 1 } : MSt).ups = s.ups from rfl, HUp.out] at h; exact h
  obtain ⟨iv, hiv, hz0, hz1, hz2⟩ := info_parts infoUp
  have HI := Lib.hid (And.intro hiv (And.intro hz0 (And.intro hz1 hz2)))
  have HR6 := Lib.hid (RowG.nil 180 1 w6 w.heap.size)
  clear hiv hz0 hz1 hz2
  have HNo : Hid (∀ i, ¬ rb none i) := Lib.hid (fun i e => by obtain ⟨_, q, _⟩ := e; cases q)
  go_upto_region 19 with (at_builtin; refine wpList_appG (w := w6) HR6.out Tryz.underlying85 HI.out.1 HI.out.2.1 HI.out.2.2.1 HI.out.2.2.2 rfl (by decide) (by decide) [ptr u] rfl (by simp [Value.oneCell']) (by decide) HG6.out.kp.size rfl (.tmp 67) (.tmp 69) rfl (by rfl) rfl (fun g7 cap7 w7 r1 r2 r3 => ?_); have HM7 := Lib.hid (HM6.out.kp r2 (fun i _ e => HNo.out i e)); have HBx7 := Lib.hid (HBx.out.kp r2 (HNo.out _)); have HMp7 := Lib.hid (HMp.out.kp r2 (HNo.out _)); have HG7 : Hid (Goes M M w w7) := Lib.hid (HG6.out.trans (Goes.same r2 (fun i e => absurd e (HNo.out i)))); have HR7 := Lib.hid r1; have f17 : w7.frozen? ⟨M.b, 17, none⟩ = false := Lib.frozen_of_heap HM7.out.box 17; clear c17; have c17 : w7.cell? ⟨M.b, 17, none⟩ = some s.ups := HM7.out.upsc; clear r1 r2 r3)
  have hk8 : Kp (fun i => i = M.b) w7 (w7.setCell ⟨M.b, 17, none⟩ (.slice (some ⟨g7, 0, none⟩) 1 cap7)) := (Kp.refl (fun i => i = M.b) w7).set (b := M.b) (.inl rfl) 17 _
  have HG8 : Hid (Goes M M w _) := Lib.hid (HG7.out.trans (Goes.same hk8 (fun i e => .inl e)))
  have HM8 := Lib.hid (HM7.out.reups (.slice (some ⟨g7, 0, none⟩) 1 cap7))
  have hbl : ∀ i, i = M.b → i < w.heap.size := fun i e => HMl.out i (.inl (.inl e))
  have HUp8 : Hid (UpAt _ w.heap.size (some ⟨g7, 0, none⟩) cap7 u mp id A t []) := Lib.hid ((UpAt.mk HR7.out HBx7.out HMp7.out HLo.out).kp hk8 hbl)
  clear c17 f17 hk8 hbl HM7 HBx7 HMp7 HG7 HR7 HM6 HG6 HB6 HR6 HBx HMp
  generalize w7.setCell ⟨M.b, 17, none⟩ (.slice (some ⟨g7, 0, none⟩) 1 cap7) = w8 at *
  have d0 : w8.cell? ⟨u, 0, none⟩ = some (.string id) := HUp8.out.box.cell (j := 0) rfl
  go_wp2_with fail
  go_ret2
  exact ⟨id, _, cap7, u, mp, rfl, ⟨HG8.out.below HM.out HB0.out, HM8.out, HUp8.out, rfl, HG8.out.nb hnb, HMl.out, HB0.out.size⟩, HG8.out⟩
end Go.Proofs.YtmafnjapailliaaGreatDoor
namespace Go.Proofs.YtmafnjapailliaaGreatDoor
open Go.RowKit

theorem RowG.one_cell {e : TypeId} {w : World} {B cap : Nat} {ra : Option Addr} {v : Value} (h : RowG e 1 w B ra cap [[v]]) : ∃ g, ra = some ⟨g, 0, none⟩ ∧ w.cell? ⟨g, 0, none⟩ = some v := by
  obtain ⟨g, rfl⟩ := h.some_of (Nat.succ_pos 0)
  exact ⟨g, rfl, by simpa using h.cell_at (by decide) (k := 0) (j := 0) rfl rfl⟩
set_option maxHeartbeats 1000000 in
set_option maxRecDepth 100000 in
theorem upload_any (w : World) (b B : Nat) (ra : Option Addr) (cap u mp : Nat) (id A : ByteArray) (t : Int) (ps : List ByteArray) (hc : w.cell? ⟨b, 17, none⟩ = some (.slice ra 1 cap)) (hu : UpAt w B ra cap u mp id A t ps) :
    Calls Tryz.prog 282 #[ptr b, .string id] w fun e w' => e = .returned (ptr u) ∧ w' = w := by
  obtain ⟨g, rfl, cg⟩ := hu.row.one_cell
  have d0 : w.cell? ⟨u, 0, none⟩ = some (.string id) := hu.box.cell (j := 0) rfl
  clear hu
  go_enter Tryz.func282, Tryz.ntmps282
  go_wp2_with fail
  go_loopg [12] 1 (fun gk i wx => i = .int .i64 0 ∧ wx = w)
  case atStart => exact ⟨rfl, rfl⟩
  case round =>
    obtain ⟨rfl, rfl⟩ := hrel
    go_wp2_with fail
    go_ret
    exact ⟨rfl, rfl⟩

section
variable {w0 : World} {A : ByteArray} {M : MB} {s : MSt} {B : Nat} {ra : Option Addr} {cap u mp : Nat} {id : ByteArray} {t : Int} {ps : List ByteArray} {W W' : World}
theorem Ups.upc (h : Ups w0 A M s B ra cap u mp id t ps W) : W.cell? ⟨M.b, 17, none⟩ = some (.slice ra 1 cap) := by
  have := h.mem.upsc
  rw [h.ups] at this
  exact this
theorem Ups.next (h : Ups w0 A M s B ra cap u mp id t ps W) {F : Nat → Prop} (hk : Kp F W W') (hF : ∀ i, F i → MF M i) (hm : MemAt W' w0.heap.size A M s) : Ups w0 A M s B ra cap u mp id t ps W' :=
  ⟨h.mem.from h.bel (hk.mono hF), hm, h.up.kp hk (fun i hi => h.ap i (.inl (hF i hi))), h.ups, Nat.lt_of_lt_of_le h.nb hk.size, h.ap, h.base⟩
theorem Ups.under (h : Ups w0 A M s B ra cap u mp id t ps W) (hb : Below W.heap.size W W') : Ups w0 A M s B ra cap u mp id t ps W' :=
  h.next (Kp.of (F := fun _ => False) hb) (fun _ e => e.elim) (h.mem.below hb)
theorem Ups.grown (h : Ups w0 A M s B ra cap u mp id t ps W) {ps' : List ByteArray} (hk : Kp (fun i => i = mp) W W') (hp : PartsIs W' mp ps') : Ups w0 A M s B ra cap u mp id t ps' W' := by
  have hmp : ∀ i, MF M i ∨ i = M.cb ∨ i = M.rb → ¬ i = mp := fun i hi e => by have h1 := h.ap i hi; have h2 := h.up.lo.2; omega
  obtain ⟨es, cl, hpb, _⟩ := h.up.map
  refine ⟨h.bel.trans (hk.below (fun i e => by have := h.up.lo.2; have := h.base; omega) h.bel.size), h.mem.kp hk hmp, ⟨h.up.row.kp hk (fun i hi e => ?_), h.up.box.kp hk (fun e => ?_), hp, h.up.lo⟩, h.ups, Nat.lt_of_lt_of_le h.nb hk.size, h.ap, h.base⟩
  · subst e
    obtain ⟨a, rfl, rfl⟩ := hi
    rcases h.up.row.2.2 with ⟨h1, _⟩ | ⟨g, cap', cur, h1, h2, h3, _⟩
    · cases h1
    · injection h1 with h1
      injection h1 with h1
      subst h1
      have h9 : W.heap[g]? = some (.cells cur 180) := h3
      have h8 := hpb
      rw [h9] at h8
      cases h8
  · have h9 : W.heap[u]? = some (.cells (upArr id A t mp) 183) := h.up.box
    rw [e] at h9
    rw [h9] at hpb
    cases hpb
end
def UpsPost (w0 : World) (A : ByteArray) (M : MB) (s : MSt) (B : Nat) (ra : Option Addr) (cap u mp : Nat) (id : ByteArray) (t : Int) (ps : List ByteArray) (w : World) (e : Ending) (w' : World) : Prop := e = .returned (.int .i64 0) ∧ Ups w0 A M s B ra cap u mp id t ps w' ∧ Kp (fun i => MF M i ∨ i = mp) w w'
set_option maxHeartbeats 2000000 in
set_option maxRecDepth 100000 in
theorem part_any (w0 : World) (A : ByteArray) (M : MB) (s : MSt) (B : Nat) (ra : Option Addr) (cap u mp : Nat) (id : ByteArray) (t : Int) (ps : List ByteArray) (p : ByteArray) (n : Nat) (w : World) (hU : Ups w0 A M s B ra cap u mp id t ps w) (hn : n = ps.length + 1) (hl : n ≤ 1000) (hp : (p.size : Int) ≤ s.f.maxSize) :
    Calls Tryz.prog 281 #[ptr M.b, .string id, .int .i64 n, .string p] w (UpsPost w0 A M s B ra cap u mp id t (ps ++ [p]) w) := by
  have HBe := Lib.hid (begin_any 11 (by decide) w w0.heap.size A M s hU.mem)
  have HUp := Lib.hid (fun W (h : Ups w0 A M s B ra cap u mp id t ps W) => upload_any W M.b B ra cap u mp id A t ps h.upc h.up)
  have HU := Lib.hid hU
  have HNn := Lib.hid hn
  have hn1 : ¬ ((n : Int) < 1) := by omega
  have hn2 : ¬ ((1000 : Int) < (n : Int)) := by omega
  have hp2 : ¬ (s.f.maxSize < (p.size : Int)) := by omega
  clear hU hn hp
  go_enter Tryz.func281, Tryz.ntmps281
  go_upto_region 4 with (go_at_call 28; refine HBe.out.mono ?_; rintro e w1 ⟨rfl, hm1, hk1, hz1⟩)
  have HU1 := Lib.hid (HU.out.next hk1 (fun i e => e.elim (fun e => .inr (.inr (.inl e))) (fun e => .inr (.inr (.inr (.inl e))))) hm1)
  have HK1 : Hid (Kp (fun i => MF M i ∨ i = mp) w w1) := Lib.hid (hk1.mono (fun i e => .inl (e.elim (fun e => .inr (.inr (.inl e))) (fun e => .inr (.inr (.inr (.inl e)))))))
  clear hm1 hk1 hz1 HBe HU
  go_upto_region 5 with (go_at_call 282; refine (HUp.out _ HU1.out).mono ?_; rintro e w2 ⟨rfl, hw⟩; have hw2 := hw.symm; clear hw; subst hw2)
  have c5 := HU1.out.mem.msize
  have d4 : w1.cell? ⟨u, 4, none⟩ = some (.map (some mp)) := HU1.out.up.box.cell (j := 4) rfl
  go_wp2_with (at_mapUpdate; refine wpList_mapGrow w1 HU1.out.up.map rfl _ _ _ _ rfl Tryz.underlying3 (by have := HNn.out; omega) Tryz.underlying181 p HNn.out rfl rfl rfl (fun w2 hw2a hw2b => ?_))
  go_ret
  exact ⟨rfl, HU1.out.grown hw2b hw2a, HK1.out.trans (hw2b.mono (fun i e => .inr e))⟩
end Go.Proofs.YtmafnjapailliaaGreatDoor
namespace Go.Proofs.YtmafnjapailliaaGreatDoor
open Go.RowKit

theorem stringK2 {B b : Nat} {out : List UInt8} {w : World} (h : BldK B b out w) :
    Calls Tryz.prog 43 #[.pointer (some ⟨b, 0, none⟩)] w fun e w' => e = .returned (.string ⟨out.toArray⟩) ∧ BldK B b out w' ∧ Below B w w' := by
  refine (Any.Builder_String_any_k { Tryz.lays156 with } Tryz.Builder_Extra_156 B b out w h.1 h.2).mono ?_
  rintro e w' ⟨rfl, h1, h2, _⟩
  exact ⟨rfl, ⟨h1, Nat.le_trans h.2 h2.size⟩, h2⟩
theorem BldK.drewn {B b : Nat} {out : List UInt8} {w : World} (h : BldK B b out w) : BldK B b out w.drew := h.kp ((Kp.refl (fun _ => False) w).drew 1) (fun _ e => e.elim)
def catP (ps : List ByteArray) : List UInt8 := ps.flatMap (fun p => p.data.toList)
theorem catP_take {ps : List ByteArray} {i : Nat} {p : ByteArray} (h : ps[i]? = some p) : catP (ps.take (i + 1)) = catP (ps.take i) ++ p.data.toList := by
  unfold catP
  rw [List.take_add_one, h, List.flatMap_append]
  simp
theorem catP_le (ps : List ByteArray) (i : Nat) : (catP (ps.take i)).length ≤ (catP ps).length := by
  have h : catP ps = catP (ps.take i) ++ catP (ps.drop i) := by
    unfold catP
    rw [← List.flatMap_append, List.take_append_drop]
  rw [h, List.length_append]
  exact Nat.le_add_right _ _
theorem Ups.partc {w0 : World} {A : ByteArray} {M : MB} {s : MSt} {B : Nat} {ra : Option Addr} {cap u mp : Nat} {id : ByteArray} {t : Int} {ps : List ByteArray} {W : World} (h : Ups w0 A M s B ra cap u mp id t ps W) : W.cell? ⟨M.b, 7, none⟩ = some (.int .i64 s.f.partSize) := h.mem.box.cell (j := 7) rfl

def JoinPost (d : List UInt8) (w : World) (e : Ending) (w' : World) : Prop := e = .returned (.tuple #[.string ⟨d.toArray⟩, .int .i64 0]) ∧ Below w.heap.size w w'
set_option maxHeartbeats 4000000 in
set_option maxRecDepth 100000 in
theorem joined_any (w0 : World) (T : Tabs) (A : ByteArray) (M : MB) (s : MSt) (B0 : Nat) (ra : Option Addr) (cap u mp : Nat) (id : ByteArray) (t : Int) (ps : List ByteArray) (n : Nat) (w : World) (hG : Gr w0 T) (hA : PathA A) (hU : Ups w0 A M s B0 ra cap u mp id t ps w) (hn : n = ps.length) (hl : n ≤ 1000)
    (hp : ∀ (i : Nat) p, i + 1 < n → ps[i]? = some p → s.f.partSize ≤ (p.size : Int)) (hz : ((catP ps).length : Int) ≤ s.f.maxSize) (hs : s.f.maxSize ≤ 1048576) :
    Calls Tryz.prog 284 #[ptr M.b, ptr u, .int .i64 n] w (JoinPost (catP ps) w) := by
  have HU := Lib.hid (fun W (hb : Below w.heap.size w W) => hU.under hb)
  have HPf := Lib.hid (fun (m : Nat) (hm : (m : Int) ≤ s.f.maxSize) W (hb : Below w.heap.size w W) => putFault_any m W w0.heap.size A M s hm (hU.under hb).mem hA (hG.env.below (hU.under hb).bel (Nat.le_refl _)))
  have HP := Lib.hid hp
  have HN := Lib.hid hn
  have HZ := Lib.hid hz
  have hBl := BldK.fresh w
  have hb1 : Below w.heap.size w (w.alloc (.cells #[.pointer none, .slice none 0 0] 99)) := bAlloc (Below.refl _ _) _
  have hn1 : ¬ ((n : Int) < 0) := by omega
  have hn2 : ¬ ((1000 : Int) < (n : Int)) := by omega
  have hcl : (catP ps).length ≤ 1048576 := by omega
  have HCl := Lib.hid hcl
  clear hU hp hn hz hG hA hcl
  go_enter Tryz.func284, Tryz.ntmps284
  go_upto_region 7 with fail
  obtain ⟨B, hB⟩ : ∃ B, w.heap.size = B := ⟨_, rfl⟩
  rw [hB] at hBl hb1 HU HPf ⊢
  have HBz := Lib.hid hB
  have HBl := Lib.hid hBl
  have HB1 := Lib.hid hb1
  clear hB hBl hb1
  generalize w.alloc _ = w1 at *
  go_loopg [9] n (fun gk s9 wx => ∃ i k : Nat, i + gk = n ∧ k = i + 1 ∧ s9 = .int .i64 k ∧ Hid (BldK B B (catP (ps.take i)) wx) ∧ Hid (Below B w wx))
  case atStart => exact ⟨0, 1, by omega, rfl, rfl, HBl, HB1⟩
  case round =>
    clear HBl HB1
    obtain ⟨i, k, hi, hk, rfl, HBx, HSx⟩ := hrel
    by_cases hlt : i < n
    case pos =>
      obtain ⟨g, rfl⟩ : ∃ g, gk = g + 1 := ⟨gk - 1, by omega⟩
      obtain ⟨p, hpi⟩ : ∃ p, ps[i]? = some p := ⟨_, List.getElem?_eq_getElem (by rw [← HN.out]; exact hlt)⟩
      have HPi := Lib.hid hpi
      have hUx := HU.out wr HSx.out
      have d4 : wr.cell? ⟨u, 4, none⟩ = some (.map (some mp)) := hUx.up.box.cell (j := 4) rfl
      have c7 := hUx.partc
      have hlk := hUx.up.map.look (P := Tryz.prog) Tryz.underlying3 Tryz.underlying181 (by have := HN.out; omega) hpi hk
      have hkn : (k : Int) ≤ (n : Int) := by omega
      have hwl := catP_le ps (i + 1)
      rw [catP_take hpi, List.length_append, ← Lib.size_eq] at hwl
      have HWl := Lib.hid hwl
      have HBd : Hid (BldK B B (catP (ps.take i)) wr.drew) := Lib.hid HBx.out.drewn
      have HSd : Hid (Below B w wr.drew) := Lib.hid (below_drewn HSx.out)
      have HKk := Lib.hid hk
      obtain ⟨cl, hcl⟩ : ∃ cl, (catP (ps.take i)).length = cl := ⟨_, rfl⟩
      have hcm : (cl : Int) ≤ s.f.maxSize := by have := HZ.out; omega
      have HCl2 := Lib.hid hcl
      have hwr := HBx.out.2
      clear hUx hpi hwl hk hcl
      by_cases hkl : k < n
      case pos =>
        have hkl' : (k : Int) < (n : Int) := by omega
        have hps : ¬ ((p.size : Int) < s.f.partSize) := by have := HP.out i p (by have := HKk.out; omega) HPi.out; omega
        go_upto_region 14 with fail
        clear d4 c7 hlk
        refine wp_region_seqQ (fun W => BldK B B (catP (ps.take i)) W ∧ Below B w W) 1000 [(1, true), (2, true), (3, true), (4, true), (5, true), (0, true), (6, true), (7, true)] (by as_aux_lemma => kernel_rfl) (by as_aux_lemma => kernel_rfl) (by as_aux_lemma => kernel_rfl) (by decide) (by as_aux_lemma => kernel_rfl) (by decide) (And.intro HBd.out HSd.out) ?_
        intro OPS HO
        refine seqQ_take (o := ⟨_, _, _, _, _, _⟩) (v := ?_) (by rw [HO.out]; rfl) (by rfl) ?_ ?_
        rotate_left 1
        · first | ((intro W _; go_simp) <;> with_reducible rfl) | (intro W hW; have q1 := (HU.out W hW.2).mem.msize; (go_simp <;> with_reducible rfl))
        try simp only [Act.put, List.setIfInBounds_toArray, List.set_cons_zero, List.set_cons_succ]
        refine seqQ_take (o := ⟨_, _, _, _, _, _⟩) (v := ?_) (by rw [HO.out]; rfl) (by rfl) ?_ ?_
        rotate_left 1
        · first | ((intro W _; go_simp) <;> with_reducible rfl) | (intro W hW; have q1 := (HU.out W hW.2).mem.msize; (go_simp <;> with_reducible rfl))
        try simp only [Act.put, List.setIfInBounds_toArray, List.set_cons_zero, List.set_cons_succ]
        refine seqQ_take (o := ⟨_, _, _, _, _, _⟩) (v := ?_) (by rw [HO.out]; rfl) (by rfl) ?_ ?_
        rotate_left 1
        · first | ((intro W _; go_simp) <;> with_reducible rfl) | (intro W hW; have q1 := (HU.out W hW.2).mem.msize; (go_simp <;> with_reducible rfl))
        try simp only [Act.put, List.setIfInBounds_toArray, List.set_cons_zero, List.set_cons_succ]
        refine seqQ_take (o := ⟨_, _, _, _, _, _⟩) (v := ?_) (by rw [HO.out]; rfl) (by rfl) ?_ ?_
        rotate_left 1
        · first | ((intro W _; go_simp) <;> with_reducible rfl) | (intro W hW; have q1 := (HU.out W hW.2).mem.msize; (go_simp <;> with_reducible rfl))
        try simp only [Act.put, List.setIfInBounds_toArray, List.set_cons_zero, List.set_cons_succ]
        refine seqQ_take (o := ⟨_, _, _, _, _, _⟩) (v := ?_) (by rw [HO.out]; rfl) (by rfl) ?_ ?_
        rotate_left 1
        · first | ((intro W _; go_simp) <;> with_reducible rfl) | (intro W hW; have q1 := (HU.out W hW.2).mem.msize; (go_simp <;> with_reducible rfl))
        try simp only [Act.put, List.setIfInBounds_toArray, List.set_cons_zero, List.set_cons_succ]
        refine seqQ_quiet (o := ⟨_, _, _, _, _, _⟩) (by rw [HO.out]; rfl) (by rfl) 41 _ (fun W hW => ?_) _ (fun W hW => lenK hW.1 cl HCl2.out) ?_
        · have q1 := (HU.out W hW.2).mem.msize; (go_simp <;> with_reducible rfl)
        try simp only [Act.put, List.setIfInBounds_toArray, List.set_cons_zero, List.set_cons_succ]
        refine seqQ_take (o := ⟨_, _, _, _, _, _⟩) (v := ?_) (by rw [HO.out]; rfl) (by rfl) ?_ ?_
        rotate_left 1
        · first | ((intro W _; go_simp) <;> with_reducible rfl) | (intro W hW; have q1 := (HU.out W hW.2).mem.msize; (go_simp <;> with_reducible rfl))
        try simp only [Act.put, List.setIfInBounds_toArray, List.set_cons_zero, List.set_cons_succ]
        refine seqQ_take (o := ⟨_, _, _, _, _, _⟩) (v := ?_) (by rw [HO.out]; rfl) (by rfl) ?_ ?_
        rotate_left 1
        · first | ((intro W _; go_simp) <;> with_reducible rfl) | (intro W hW; have q1 := (HU.out W hW.2).mem.msize; (go_simp <;> with_reducible rfl))
        try simp only [Act.put, List.setIfInBounds_toArray, List.set_cons_zero, List.set_cons_succ]
        refine seqQ_done ?_
        go_wp2_with (go_at_call 42; refine (writeK HBd.out p (by have := HWl.out; have := HCl.out; omega)).mono ?_; rintro e w2 ⟨rfl, hb2, hl2⟩; have HB2 := Lib.hid hb2; have HL2 := Lib.hid hl2; clear hb2 hl2)
        go_roundg g
        case measure => omega
        case rel => exact ⟨i + 1, k + 1, by omega, by have := HKk.out; omega, by go_num, Lib.hid (by rw [catP_take HPi.out]; exact HB2.out), Lib.hid (HSd.out.trans HL2.out)⟩
      case neg =>
        have hkl' : ¬ ((k : Int) < (n : Int)) := by omega
        go_upto_region 14 with fail
        clear d4 c7 hlk
        refine wp_region_seqQ (fun W => BldK B B (catP (ps.take i)) W ∧ Below B w W) 1000 [(1, true), (2, true), (3, true), (4, true), (5, true), (0, true), (6, true), (7, true)] (by as_aux_lemma => kernel_rfl) (by as_aux_lemma => kernel_rfl) (by as_aux_lemma => kernel_rfl) (by decide) (by as_aux_lemma => kernel_rfl) (by decide) (And.intro HBd.out HSd.out) ?_
        intro OPS HO
        refine seqQ_take (o := ⟨_, _, _, _, _, _⟩) (v := ?_) (by rw [HO.out]; rfl) (by rfl) ?_ ?_
        rotate_left 1
        · first | ((intro W _; go_simp) <;> with_reducible rfl) | (intro W hW; have q1 := (HU.out W hW.2).mem.msize; (go_simp <;> with_reducible rfl))
        try simp only [Act.put, List.setIfInBounds_toArray, List.set_cons_zero, List.set_cons_succ]
        refine seqQ_take (o := ⟨_, _, _, _, _, _⟩) (v := ?_) (by rw [HO.out]; rfl) (by rfl) ?_ ?_
        rotate_left 1
        · first | ((intro W _; go_simp) <;> with_reducible rfl) | (intro W hW; have q1 := (HU.out W hW.2).mem.msize; (go_simp <;> with_reducible rfl))
        try simp only [Act.put, List.setIfInBounds_toArray, List.set_cons_zero, List.set_cons_succ]
        refine seqQ_take (o := ⟨_, _, _, _, _, _⟩) (v := ?_) (by rw [HO.out]; rfl) (by rfl) ?_ ?_
        rotate_left 1
        · first | ((intro W _; go_simp) <;> with_reducible rfl) | (intro W hW; have q1 := (HU.out W hW.2).mem.msize; (go_simp <;> with_reducible rfl))
        try simp only [Act.put, List.setIfInBounds_toArray, List.set_cons_zero, List.set_cons_succ]
        refine seqQ_take (o := ⟨_, _, _, _, _, _⟩) (v := ?_) (by rw [HO.out]; rfl) (by rfl) ?_ ?_
        rotate_left 1
        · first | ((intro W _; go_simp) <;> with_reducible rfl) | (intro W hW; have q1 := (HU.out W hW.2).mem.msize; (go_simp <;> with_reducible rfl))
        try simp only [Act.put, List.setIfInBounds_toArray, List.set_cons_zero, List.set_cons_succ]
        refine seqQ_take (o := ⟨_, _, _, _, _, _⟩) (v := ?_) (by rw [HO.out]; rfl) (by rfl) ?_ ?_
        rotate_left 1
        · first | ((intro W _; go_simp) <;> with_reducible rfl) | (intro W hW; have q1 := (HU.out W hW.2).mem.msize; (go_simp <;> with_reducible rfl))
        try simp only [Act.put, List.setIfInBounds_toArray, List.set_cons_zero, List.set_cons_succ]
        refine seqQ_quiet (o := ⟨_, _, _, _, _, _⟩) (by rw [HO.out]; rfl) (by rfl) 41 _ (fun W hW => ?_) _ (fun W hW => lenK hW.1 cl HCl2.out) ?_
        · have q1 := (HU.out W hW.2).mem.msize; (go_simp <;> with_reducible rfl)
        try simp only [Act.put, List.setIfInBounds_toArray, List.set_cons_zero, List.set_cons_succ]
        refine seqQ_take (o := ⟨_, _, _, _, _, _⟩) (v := ?_) (by rw [HO.out]; rfl) (by rfl) ?_ ?_
        rotate_left 1
        · first | ((intro W _; go_simp) <;> with_reducible rfl) | (intro W hW; have q1 := (HU.out W hW.2).mem.msize; (go_simp <;> with_reducible rfl))
        try simp only [Act.put, List.setIfInBounds_toArray, List.set_cons_zero, List.set_cons_succ]
        refine seqQ_take (o := ⟨_, _, _, _, _, _⟩) (v := ?_) (by rw [HO.out]; rfl) (by rfl) ?_ ?_
        rotate_left 1
        · first | ((intro W _; go_simp) <;> with_reducible rfl) | (intro W hW; have q1 := (HU.out W hW.2).mem.msize; (go_simp <;> with_reducible rfl))
        try simp only [Act.put, List.setIfInBounds_toArray, List.set_cons_zero, List.set_cons_succ]
        refine seqQ_done ?_
        go_wp2_with (go_at_call 42; refine (writeK HBd.out p (by have := HWl.out; have := HCl.out; omega)).mono ?_; rintro e w2 ⟨rfl, hb2, hl2⟩; have HB2 := Lib.hid hb2; have HL2 := Lib.hid hl2; clear hb2 hl2)
        go_roundg g
        case measure => omega
        case rel => exact ⟨i + 1, k + 1, by omega, by have := HKk.out; omega, by go_num, Lib.hid (by rw [catP_take HPi.out]; exact HB2.out), Lib.hid (HSd.out.trans HL2.out)⟩
    case neg =>
      have hkn : ¬ ((k : Int) ≤ (n : Int)) := by omega
      have hti : ps.take i = ps := List.take_of_length_le (by have := HN.out; omega)
      rw [hti] at HBx
      obtain ⟨cl, hcl⟩ : ∃ cl, (catP ps).length = cl := ⟨_, rfl⟩
      have HCl2 := Lib.hid hcl
      have HS0 : Hid (BldK B B (catP ps) wr.drew ∧ Below B w wr.drew) := Lib.hid ⟨HBx.out.drewn, below_drewn HSx.out⟩
      have HUf := Lib.hid (fun W (hb : Below B w W) => And.intro (show W.cell? ⟨u, 1, none⟩ = some (.string A) from (HU.out W hb).up.box.cell (j := 1) rfl) (show W.cell? ⟨u, 3, none⟩ = some (.slice none 0 0) from (HU.out W hb).up.box.cell (j := 3) rfl))
      clear hti hcl HBx HSx
      go_upto_region 16 with fail
      refine wp_region_seqQ (fun W => BldK B B (catP ps) W ∧ Below B w W) 1000 [(1, true), (2, true), (3, true), (4, true), (5, true), (7, true), (8, true), (9, true), (10, true), (0, false), (6, true), (11, false), (12, true), (13, true)] (by as_aux_lemma => kernel_rfl) (by as_aux_lemma => kernel_rfl) (by as_aux_lemma => kernel_rfl) (by decide) (by as_aux_lemma => kernel_rfl) (by decide) HS0.out ?_
      intro OPS HO
      refine seqQ_take (o := ⟨_, _, _, _, _, _⟩) (v := ?_) (by rw [HO.out]; rfl) (by rfl) ?_ ?_
      rotate_left 1
      · first | ((intro W _; go_simp) <;> with_reducible rfl) | (intro W hW; obtain ⟨q1, q2⟩ := HUf.out W hW.2; (go_simp <;> with_reducible rfl))
      try simp only [Act.put, List.setIfInBounds_toArray, List.set_cons_zero, List.set_cons_succ]
      refine seqQ_take (o := ⟨_, _, _, _, _, _⟩) (v := ?_) (by rw [HO.out]; rfl) (by rfl) ?_ ?_
      rotate_left 1
      · first | ((intro W _; go_simp) <;> with_reducible rfl) | (intro W hW; obtain ⟨q1, q2⟩ := HUf.out W hW.2; (go_simp <;> with_reducible rfl))
      try simp only [Act.put, List.setIfInBounds_toArray, List.set_cons_zero, List.set_cons_succ]
      refine seqQ_take (o := ⟨_, _, _, _, _, _⟩) (v := ?_) (by rw [HO.out]; rfl) (by rfl) ?_ ?_
      rotate_left 1
      · first | ((intro W _; go_simp) <;> with_reducible rfl) | (intro W hW; obtain ⟨q1, q2⟩ := HUf.out W hW.2; (go_simp <;> with_reducible rfl))
      try simp only [Act.put, List.setIfInBounds_toArray, List.set_cons_zero, List.set_cons_succ]
      refine seqQ_take (o := ⟨_, _, _, _, _, _⟩) (v := ?_) (by rw [HO.out]; rfl) (by rfl) ?_ ?_
      rotate_left 1
      · first | ((intro W _; go_simp) <;> with_reducible rfl) | (intro W hW; obtain ⟨q1, q2⟩ := HUf.out W hW.2; (go_simp <;> with_reducible rfl))
      try simp only [Act.put, List.setIfInBounds_toArray, List.set_cons_zero, List.set_cons_succ]
      refine seqQ_take (o := ⟨_, _, _, _, _, _⟩) (v := ?_) (by rw [HO.out]; rfl) (by rfl) ?_ ?_
      rotate_left 1
      · first | ((intro W _; go_simp) <;> with_reducible rfl) | (intro W hW; obtain ⟨q1, q2⟩ := HUf.out W hW.2; (go_simp <;> with_reducible rfl))
      try simp only [Act.put, List.setIfInBounds_toArray, List.set_cons_zero, List.set_cons_succ]
      refine seqQ_take (o := ⟨_, _, _, _, _, _⟩) (v := ?_) (by rw [HO.out]; rfl) (by rfl) ?_ ?_
      rotate_left 1
      · first | ((intro W _; go_simp) <;> with_reducible rfl) | (intro W hW; obtain ⟨q1, q2⟩ := HUf.out W hW.2; (go_simp <;> with_reducible rfl))
      try simp only [Act.put, List.setIfInBounds_toArray, List.set_cons_zero, List.set_cons_succ]
      refine seqQ_take (o := ⟨_, _, _, _, _, _⟩) (v := ?_) (by rw [HO.out]; rfl) (by rfl) ?_ ?_
      rotate_left 1
      · first | ((intro W _; go_simp) <;> with_reducible rfl) | (intro W hW; obtain ⟨q1, q2⟩ := HUf.out W hW.2; (go_simp <;> with_reducible rfl))
      try simp only [Act.put, List.setIfInBounds_toArray, List.set_cons_zero, List.set_cons_succ]
      refine seqQ_take (o := ⟨_, _, _, _, _, _⟩) (v := ?_) (by rw [HO.out]; rfl) (by rfl) ?_ ?_
      rotate_left 1
      · first | ((intro W _; go_simp) <;> with_reducible rfl) | (intro W hW; obtain ⟨q1, q2⟩ := HUf.out W hW.2; (go_simp <;> with_reducible rfl))
      try simp only [Act.put, List.setIfInBounds_toArray, List.set_cons_zero, List.set_cons_succ]
      refine seqQ_take (o := ⟨_, _, _, _, _, _⟩) (v := ?_) (by rw [HO.out]; rfl) (by rfl) ?_ ?_
      rotate_left 1
      · first | ((intro W _; go_simp) <;> with_reducible rfl) | (intro W hW; obtain ⟨q1, q2⟩ := HUf.out W hW.2; (go_simp <;> with_reducible rfl))
      try simp only [Act.put, List.setIfInBounds_toArray, List.set_cons_zero, List.set_cons_succ]
      refine seqQ_do (o := ⟨_, _, _, _, _, _⟩) (by rw [HO.out]; rfl) (by rfl) (fun K hK => ?_)
      have hS : BldK B B (catP ps) wr.drew ∧ Below B w wr.drew := HS0.out
      go_wp2_with (go_at_call 43; refine (stringK2 hS.1).mono ?_; rintro e w2 ⟨rfl, hb2, hl2⟩; replace hS : BldK B B (catP ps) w2 ∧ Below B w w2 := ⟨hb2, hS.2.trans hl2⟩; clear hb2 hl2)
      refine hK.out _ _ (fun _ => hS) ?_
      clear hK K
      try simp only [Act.put, List.setIfInBounds_toArray, List.set_cons_zero, List.set_cons_succ]
      refine seqQ_quiet (o := ⟨_, _, _, _, _, _⟩) (by rw [HO.out]; rfl) (by rfl) 41 _ (fun W hW => ?_) _ (fun W hW => lenK hW.1 cl HCl2.out) ?_
      · obtain ⟨q1, q2⟩ := HUf.out W hW.2; (go_simp <;> with_reducible rfl)
      try simp only [Act.put, List.setIfInBounds_toArray, List.set_cons_zero, List.set_cons_succ]
      refine seqQ_do (o := ⟨_, _, _, _, _, _⟩) (by rw [HO.out]; rfl) (by rfl) (fun K hK => ?_)
      go_wp2_with (go_at_call 37; refine (HPf.out cl (by have := HZ.out; have := HCl2.out; omega) _ hS.2).mono ?_; rintro e w3 ⟨rfl, hb3⟩; replace hS : BldK B B (catP ps) w3 ∧ Below B w w3 := ⟨hS.1.kp (Kp.of (F := fun _ => False) hb3) (fun _ e => e.elim), hS.2.trans (Below.mono hb3 hS.1.2)⟩; clear hb3)
      refine hK.out _ _ (fun _ => hS) ?_
      clear hK K
      try simp only [Act.put, List.setIfInBounds_toArray, List.set_cons_zero, List.set_cons_succ]
      refine seqQ_take (o := ⟨_, _, _, _, _, _⟩) (v := ?_) (by rw [HO.out]; rfl) (by rfl) ?_ ?_
      rotate_left 1
      · first | ((intro W _; go_simp) <;> with_reducible rfl) | (intro W hW; obtain ⟨q1, q2⟩ := HUf.out W hW.2; (go_simp <;> with_reducible rfl))
      try simp only [Act.put, List.setIfInBounds_toArray, List.set_cons_zero, List.set_cons_succ]
      refine seqQ_take (o := ⟨_, _, _, _, _, _⟩) (v := ?_) (by rw [HO.out]; rfl) (by rfl) ?_ ?_
      rotate_left 1
      · first | ((intro W _; go_simp) <;> with_reducible rfl) | (intro W hW; obtain ⟨q1, q2⟩ := HUf.out W hW.2; (go_simp <;> with_reducible rfl))
      try simp only [Act.put, List.setIfInBounds_toArray, List.set_cons_zero, List.set_cons_succ]
      refine seqQ_done ?_
      go_wp2_with fail
      go_ret2
      exact ⟨rfl, by rw [HBz.out]; exact hS.2⟩
end Go.Proofs.YtmafnjapailliaaGreatDoor
namespace Go.Proofs.YtmafnjapailliaaGreatDoor
open Go.RowKit

theorem enters_end1 : ∀ args w, (callFunc 286 args).run Tryz.prog w = .ok (.enter 286 args) w := enters_of Tryz.func286 (by kernel_rfl) rfl
set_option maxHeartbeats 1000000 in
set_option maxRecDepth 100000 in
theorem end1_any (u b : Nat) (w : World) (hb : w.cell? ⟨b, 0, none⟩ = some (ptr u)) : Calls Tryz.prog 286 #[ptr u, .pointer (some ⟨b, 0, none⟩)] w fun e w' => e = .returned (.bool true) ∧ w' = w := by
  have hj : (Tryz.prog.info? 183).isSome = true := by kernel_rfl
  obtain ⟨j, hj⟩ := Option.isSome_iff_exists.1 hj
  have hE := run_eql_ptr_same (P := Tryz.prog) w (tp := 180) ⟨u, 0, none⟩ Tryz.underlying180 hj
  clear hj
  go_enter Tryz.func286, Tryz.ntmps286
  go_wp2_with fail
  go_ret
  exact ⟨rfl, rfl⟩
set_option maxHeartbeats 1000000 in
set_option maxRecDepth 100000 in
theorem indexUp_any (g u b cap : Nat) (w : World) (hg : w.cell? ⟨g, 0, none⟩ = some (ptr u)) (hb : w.cell? ⟨b, 0, none⟩ = some (ptr u)) :
    Calls Tryz.prog 287 #[.slice (some ⟨g, 0, none⟩) 1 cap, .func (.func 286) #[] #[.pointer (some ⟨b, 0, none⟩)]] w fun e w' => e = .returned (.int .i64 0) ∧ w' = w := by
  have H1 := Lib.hid (end1_any u b w hb)
  have hen := enters_end1
  clear hb
  go_enter Tryz.func287, Tryz.ntmps287
  go_wp2_with fail
  go_loopg [8] 1 (fun gk i wx => i = .int .i64 0 ∧ wx = w)
  case atStart => exact ⟨rfl, rfl⟩
  case round =>
    obtain ⟨rfl, rfl⟩ := hrel
    go_wp2_with (go_at_call 286; refine H1.out.mono ?_; rintro e w2 ⟨rfl, hw⟩; have hw2 := hw.symm; clear hw; subst hw2)
    go_ret
    exact ⟨rfl, rfl⟩
set_option maxHeartbeats 1000000 in
set_option maxRecDepth 100000 in
theorem deleteUp_any (g u b cap : Nat) (w : World) (hg : w.cell? ⟨g, 0, none⟩ = some (ptr u)) (hf : w.frozen? ⟨g, 0, none⟩ = false) (hc : 1 ≤ cap) (hb : w.cell? ⟨b, 0, none⟩ = some (ptr u)) :
    Calls Tryz.prog 285 #[.slice (some ⟨g, 0, none⟩) 1 cap, .func (.func 286) #[] #[.pointer (some ⟨b, 0, none⟩)]] w fun e w' => e = .returned (.slice (some ⟨g, 0, none⟩) 0 cap) ∧ w' = w.setCell ⟨g, 0, none⟩ (.pointer none) := by
  have HI := Lib.hid (indexUp_any g u b cap w hg hb)
  have hc9 : ∀ j, j < 1 → (w.cell? ⟨g, 0 + j, none⟩).isSome = true := fun j hj => by
    obtain rfl : j = 0 := by omega
    rw [hg]
    rfl
  have hf9 : ∀ j, j < 1 → w.frozen? ⟨g, 0 + j, none⟩ = false := fun j hj => by
    obtain rfl : j = 0 := by omega
    exact hf
  have hC : ∀ ty, (Builtin.clear_ #[85] ty #[.slice (some ⟨g, 0, none⟩) 1 cap]).run Tryz.prog w = .ok (.tuple #[]) (w.setCell ⟨g, 0, none⟩ (.pointer none)) := fun ty =>
    Lib.run_clear_slice (P := Tryz.prog) w 85 180 ty (.pointer none) Tryz.underlying85 (fun _ => by kernel_rfl) rfl rfl g 0 1 cap (by decide) hc9 hf9
  clear hc9 hf9
  clear hb
  go_enter Tryz.func285, Tryz.ntmps285
  go_upto_region 5 with (go_at_call 287; refine HI.out.mono ?_; rintro e w2 ⟨rfl, hw⟩; have hw2 := hw.symm; clear hw; subst hw2)
  go_loopg [5, 6] 0 (fun gk s5 i wx => s5 = .int .i64 0 ∧ i = .int .i64 1 ∧ wx = w)
  case atStart => exact ⟨rfl, rfl, rfl⟩
  case round =>
    obtain ⟨rfl, rfl, rfl⟩ := hrel
    go_wp2_with fail
    go_ret
    exact ⟨rfl, rfl⟩

def EndPost (w0 : World) (A : ByteArray) (M : MB) (s : MSt) (ra : Option Addr) (cap : Nat) (w : World) (e : Ending) (w' : World) : Prop :=
  e = .returned (.tuple #[]) ∧ MemAt w' w0.heap.size A M { s with ups := .slice ra 0 cap } ∧ Kp (fun i => i = M.b ∨ rb ra i) w w'
set_option maxHeartbeats 2000000 in
set_option maxRecDepth 100000 in
theorem endUp_any (w0 : World) (A : ByteArray) (M : MB) (s : MSt) (B : Nat) (ra : Option Addr) (cap u mp : Nat) (id : ByteArray) (t : Int) (ps : List ByteArray) (w : World) (hU : Ups w0 A M s B ra cap u mp id t ps w) :
    Calls Tryz.prog 283 #[ptr M.b, ptr u] w (EndPost w0 A M s ra cap w) := by
  have hcap : 1 ≤ cap := hU.up.row.le_cap
  obtain ⟨g, rfl, cg⟩ := hU.up.row.one_cell
  have hb1 : Below w.heap.size w (w.alloc (.cells #[ptr u] 180)) := bAlloc (Below.refl _ _) _
  have HU1 := Lib.hid (hU.under hb1)
  have HX1 := Lib.hid (BoxIs.new w #[ptr u] 180)
  clear cg hU
  go_enter Tryz.func283, Tryz.ntmps283
  go_upto_region 1 with fail
  obtain ⟨b, hb⟩ : ∃ b, b = w.heap.size := ⟨_, rfl⟩
  have HB1 := Lib.hid hb1
  rw [← hb] at HX1 ⊢
  clear hb hb1
  generalize w.alloc _ = w1 at *
  have c17 := HU1.out.upc
  obtain ⟨g', hg', cg⟩ := HU1.out.up.row.one_cell
  obtain rfl : g = g' := by injection hg' with h; injection h
  have fg : w1.frozen? ⟨g, 0, none⟩ = false := HU1.out.up.row.frozen_at 0
  have HD := Lib.hid (deleteUp_any g u b cap w1 cg fg hcap (HX1.out.cell (j := 0) rfl))
  have hgb : ∀ i, MF M i ∨ i = M.cb ∨ i = M.rb → i ≠ g := fun i hi e => by
    have h1 := HU1.out.ap i hi
    have h2 := (HU1.out.up.row.base g ⟨_, rfl, rfl⟩).1
    omega
  have hk2 : Kp (fun i => i = g) w1 (w1.setCell ⟨g, 0, none⟩ (.pointer none)) := (Kp.refl (fun i => i = g) w1).set (b := g) (.inl rfl) 0 _
  have HM2 := Lib.hid (HU1.out.mem.kp hk2 hgb)
  have HK2 := Lib.hid hk2
  have c17' : (w1.setCell ⟨g, 0, none⟩ (.pointer none)).cell? ⟨M.b, 17, none⟩ = some s.ups := HM2.out.upsc
  have f17 : (w1.setCell ⟨g, 0, none⟩ (.pointer none)).frozen? ⟨M.b, 17, none⟩ = false := Lib.frozen_of_heap HM2.out.box 17
  have HC := Lib.hid (And.intro c17' f17)
  clear hg' cg fg hgb hk2 c17' f17
  go_wp2_with (go_at_call 285; refine HD.out.mono ?_; rintro e w2 ⟨rfl, hw⟩; rw [← hw] at HM2 HK2 HC; clear hw; obtain ⟨c17', f17⟩ := HC.out)
  first | go_end0 | refine bodyPost_ret (results_none rfl _ _ _) rfl ?_
  refine ⟨rfl, HM2.out.reups _, ?_⟩
  exact ((Kp.of (F := fun i => i = M.b ∨ rb (some ⟨g, 0, none⟩) i) HB1.out).trans (HK2.out.mono (fun i e => .inr ⟨_, rfl, e⟩))).set (b := M.b) (.inl (.inl rfl)) 17 _
end Go.Proofs.YtmafnjapailliaaGreatDoor
namespace Go.Proofs.YtmafnjapailliaaGreatDoor
open Go.RowKit

/-- From one state of the store's blocks to another one; the row of uploads is changed too. -/
structure GoesR (ra : Option Addr) (M M' : MB) (w w' : World) : Prop where
  b : M'.b = M.b
  cb : M'.cb = M.cb
  rb : M'.rb = M.rb
  kp : Kp (fun i => MF M i ∨ Go.Proofs.YtmafnjapailliaaGreatDoor.rb ra i) w w'
  mf : ∀ i, MF M' i → MF M i ∨ w.heap.size ≤ i
  nb : M'.nb < w'.heap.size
def idOf (s : MSt) (d : ByteArray) (t : Int) : ByteArray := if hasB s.f 512 then ((s.put d (tOf s t)).cur.map FileSt.id).getD ⟨#[]⟩ else ⟨#[]⟩
/-- What Finish returns: the file's text d. -/
def FinPost (w0 : World) (T : Tabs) (A : ByteArray) (M : MB) (s : MSt) (ra : Option Addr) (d : ByteArray) (t : Int) (w : World) (e : Ending) (w' : World) : Prop :=
  ∃ M' sa n sc, e = .returned (.tuple #[.agg (infoArr A false d.size (tOf s t) (.slice sa n sc) (idOf s d t)), .int .i64 0]) ∧ (sumRows T s.f.sums d.data.toList 5).length = n ∧ RowG 256 2 w' w.heap.size sa sc (sumRows T s.f.sums d.data.toList 5) ∧ MemAt w' w0.heap.size A M' (s.put d (tOf s t)) ∧ GoesR ra M M' w w'
theorem RowG.not_rb {e : TypeId} {m : Nat} {w : World} {B cap : Nat} {ra : Option Addr} {xs : List (List Value)} (h : RowG e m w B ra cap xs) {b : Nat} {vs : Array Value} {t : TypeId} (k : BoxIs w b vs t) (hn : t ≠ e) : ¬ rb ra b := h.ne k hn

set_option maxHeartbeats 4000000 in
set_option maxRecDepth 100000 in
theorem finish_any (w0 : World) (T : Tabs) (A : ByteArray) (M : MB) (s : MSt) (B : Nat) (ra : Option Addr) (cap u mp : Nat) (id : ByteArray) (t : Int) (ps : List ByteArray) (n : Nat) (d : ByteArray) (w : World) (hG : Gr w0 T) (hA : PathA A) (hU : Ups w0 A M s B ra cap u mp id t ps w) (hn : n = ps.length) (hl : n ≤ 1000)
    (hp : ∀ (i : Nat) p, i + 1 < n → ps[i]? = some p → s.f.partSize ≤ (p.size : Int)) (hd : catP ps = d.data.toList) (hz : (d.size : Int) ≤ s.f.maxSize) (hs : StOk s) (hf : FOk s.f A) (ht : -9223372036854775808 ≤ t ∧ t ≤ 9223372036854775807) (hnow : -9223372036854775808 ≤ s.now ∧ s.now ≤ 9223372036854775807) :
    Calls Tryz.prog 279 #[ptr M.b, .string id, .int .i64 n] w (FinPost w0 T A M { s with ups := .slice ra 0 cap } ra d t w) := by
  obtain ⟨s2, hs2⟩ : ∃ s2 : MSt, { s with ups := .slice ra 0 cap } = s2 := ⟨_, rfl⟩
  have hs2f : s2.f = s.f := by rw [← hs2]
  have hs2n : s2.now = s.now := by rw [← hs2]
  have hso : StOk s2 := by rw [← hs2]; exact ⟨hs.made, hs.num, hs.vers, hs.has⟩
  rw [hs2]
  have hzc : ((catP ps).length : Int) ≤ s.f.maxSize := by rw [hd, ← Lib.size_eq]; exact hz
  have HCa := Lib.hid (fun W (h : Ups w0 A M s B ra cap u mp id t ps W) => call_any 12 (by decide) W w0.heap.size A M s h.mem)
  have HUl := Lib.hid (fun W (h : Ups w0 A M s B ra cap u mp id t ps W) => upload_any W M.b B ra cap u mp id A t ps h.upc h.up)
  have HJo := Lib.hid (fun W (h : Ups w0 A M s B ra cap u mp id t ps W) => joined_any w0 T A M s B ra cap u mp id t ps n W hG hA h hn hl hp hzc hf.size)
  rw [hd] at HJo
  unfold JoinPost at HJo
  have HEn := Lib.hid (fun W (h : Ups w0 A M s B ra cap u mp id t ps W) => endUp_any w0 A M s B ra cap u mp id t ps W h)
  unfold EndPost at HEn
  rw [hs2] at HEn
  have HPu := Lib.hid (fun W (hb : Below w0.heap.size w0 W) (h : MemAt W w0.heap.size A M s2) (hnb : M.nb < W.heap.size) => put_any w0 T A M s2 d t W hG hb h hnb hA hso (by rw [hs2f]; exact hf) (by rw [hs2f]; exact hz) ht (by rw [hs2n]; exact hnow))
  unfold PutPost at HPu
  obtain ⟨idv, hidv⟩ : ∃ idv, idOf s2 d t = idv := ⟨_, rfl⟩
  have hidv2 : (if hasB s2.f 512 then ((s2.put d (tOf s2 t)).cur.map FileSt.id).getD ⟨#[]⟩ else (⟨#[]⟩ : ByteArray)) = idv := hidv
  simp only [hidv2] at HPu
  have HId := Lib.hid hidv
  have HU := Lib.hid hU
  have hb1 : Below w.heap.size w (w.alloc (.cells (infoArr ⟨#[]⟩ false 0 0 (.slice none 0 0) ⟨#[]⟩) 42)) := bAlloc (Below.refl _ _) _
  have HU1 := Lib.hid (hU.under hb1)
  have HX1 := Lib.hid (BoxIs.new w (infoArr ⟨#[]⟩ false 0 0 (.slice none 0 0) ⟨#[]⟩) 42)
  have hBw : B ≤ w.heap.size := Nat.le_of_lt (Nat.lt_of_le_of_lt hU.up.lo.1 hU.up.box.lt)
  have hurz0 := hU.up.box.lt
  clear hidv hidv2 hU hn hl hp hz hs hf hG hA hd hzc hso hs2f hs2n hs2
  go_enter Tryz.func279, Tryz.ntmps279
  go_upto_region 1 with fail
  obtain ⟨rz, hrz⟩ : ∃ rz, rz = w.heap.size := ⟨_, rfl⟩
  have HRz := Lib.hid hrz
  have HB1 := Lib.hid hb1
  rw [← hrz] at HX1 ⊢
  have hBz : B ≤ rz := by rw [hrz]; exact hBw
  have HUrz : Hid (u ≠ rz) := Lib.hid (by omega)
  clear hurz0
  have hrz1 : rz < (w.alloc (.cells (infoArr ⟨#[]⟩ false 0 0 (.slice none 0 0) ⟨#[]⟩) 42)).heap.size := by rw [hrz]; simp
  clear hrz hb1 hBw
  unfold infoArr at *
  generalize w.alloc _ = w1 at *
  go_upto_region 2 with (go_at_call 33; refine (HCa.out _ HU1.out).mono ?_; rintro e w2 ⟨rfl, hm2, hk2, hz2⟩)
  have HK2 : Hid (Kp (MF M) w1 w2) := Lib.hid (hk2.mono (fun i e => e.elim (fun e => .inr (.inr (.inl e))) (fun e => .inr (.inr (.inr (.inl e))))))
  have HU2 := Lib.hid (HU1.out.next HK2.out (fun i e => e) hm2)
  have hnz : ¬ MF M rz := fun e => by have := HU1.out.ap rz (.inl e); omega
  have HX2 := Lib.hid (HX1.out.kp HK2.out hnz)
  clear hm2 hk2 hz2 HCa HX1
  go_upto_region 3 with (go_at_call 282; refine (HUl.out _ HU2.out).mono ?_; rintro e w2' ⟨rfl, hw⟩; have hw2 := hw.symm; clear hw; subst hw2)
  go_upto_region 4 with (go_at_call 284; refine (HJo.out _ HU2.out).mono ?_; rintro e w3 ⟨rfl, hb3⟩)
  have HU3 := Lib.hid (HU2.out.under hb3)
  have HX3 := Lib.hid (HX2.out.under hb3)
  have HK3 : Hid (Kp (MF M) w1 w3) := Lib.hid (HK2.out.trans (Kp.of hb3))
  clear hb3 HU2 HX2 HK2 HUl HJo
  have hnr : ¬ rb ra rz := HU3.out.up.row.ne HX3.out (by decide)
  have hnu : ¬ rb ra u := HU3.out.up.row.ne HU3.out.up.box (by decide)
  have hub : ¬ u = M.b := fun e => by have h1 := HU3.out.ap M.b (.inl (.inl rfl)); have h2 := HU3.out.up.lo.1; omega
  have hzb : ¬ rz = M.b := fun e => hnz (by rw [e]; exact .inl rfl)
  go_upto_region 11 with (go_at_call 283; refine (HEn.out _ HU3.out).mono ?_; rintro e w4 ⟨rfl, hm4, hk4⟩)
  have HX4 := Lib.hid (HX3.out.kp hk4 (fun e => e.elim hzb hnr))
  have HBu4 : Hid (BoxIs w4 u (upArr id A t mp) 183) := Lib.hid (HU3.out.up.box.kp hk4 (fun e => e.elim hub hnu))
  have hrB : ∀ i, rb ra i → B ≤ i := fun i e => (HU3.out.up.row.base i e).1
  have HK4 : Hid (Kp (fun i => MF M i ∨ rb ra i) w1 w4) := Lib.hid ((HK3.out.mono (fun i e => .inl e)).trans (hk4.mono (fun i e => e.elim (fun e => .inl (.inl e)) (fun e => .inr e))))
  have HM4 := Lib.hid hm4
  have hb04 : Below w0.heap.size w0 w4 := HU3.out.bel.trans (hk4.below (fun i e => e.elim (fun e => by rw [e]; exact HU3.out.mem.mf (.inl rfl)) (fun e => Nat.le_trans HU3.out.base (hrB i e))) HU3.out.bel.size)
  have hn4 : M.nb < w4.heap.size := Nat.lt_of_lt_of_le HU3.out.nb hk4.size
  have hB04 : Below w0.heap.size w0 w4.drew := below_drewn hb04
  have HPu4 := Lib.hid (HPu.out w4.drew hB04 hm4.drew hn4)
  have HAp := Lib.hid HU3.out.ap
  have HLoU := Lib.hid HU3.out.up.lo.1
  have hSz := Nat.le_trans HB1.out.size HK4.out.size
  clear hm4 hk4 hb04 hB04 HEn HPu HU3 HX3 HK3 HU1
  refine wp_region_seqQ (fun W => BoxIs W u (upArr id A t mp) 183) 1000 [(0, true), (1, true), (2, true), (3, true), (4, true), (5, true), (6, true), (7, true), (8, true), (9, true), (10, true), (11, true), (12, true), (13, true), (14, false), (15, true), (16, true), (17, false), (18, true)] (by as_aux_lemma => kernel_rfl) (by as_aux_lemma => kernel_rfl) (by as_aux_lemma => kernel_rfl) (by decide) (by as_aux_lemma => kernel_rfl) (by decide) HBu4.out ?_
  intro OPS HO
  refine seqQ_take (o := ⟨_, _, _, _, _, _⟩) (v := ?_) (by rw [HO.out]; rfl) (by rfl) ?_ ?_
  rotate_left 1
  · first | ((intro W _; go_simp) <;> with_reducible rfl) | (intro W hW; have q1 : W.cell? ⟨u, 1, none⟩ = some (.string A) := hW.cell (j := 1) rfl; have q2 : W.cell? ⟨u, 2, none⟩ = some (.int .i64 t) := hW.cell (j := 2) rfl; have q3 : W.cell? ⟨u, 3, none⟩ = some (.slice none 0 0) := hW.cell (j := 3) rfl; (go_simp <;> with_reducible rfl))
  try simp only [Act.put, List.setIfInBounds_toArray, List.set_cons_zero, List.set_cons_succ]
  refine seqQ_take (o := ⟨_, _, _, _, _, _⟩) (v := ?_) (by rw [HO.out]; rfl) (by rfl) ?_ ?_
  rotate_left 1
  · first | ((intro W _; go_simp) <;> with_reducible rfl) | (intro W hW; have q1 : W.cell? ⟨u, 1, none⟩ = some (.string A) := hW.cell (j := 1) rfl; have q2 : W.cell? ⟨u, 2, none⟩ = some (.int .i64 t) := hW.cell (j := 2) rfl; have q3 : W.cell? ⟨u, 3, none⟩ = some (.slice none 0 0) := hW.cell (j := 3) rfl; (go_simp <;> with_reducible rfl))
  try simp only [Act.put, List.setIfInBounds_toArray, List.set_cons_zero, List.set_cons_succ]
  refine seqQ_take (o := ⟨_, _, _, _, _, _⟩) (v := ?_) (by rw [HO.out]; rfl) (by rfl) ?_ ?_
  rotate_left 1
  · first | ((intro W _; go_simp) <;> with_reducible rfl) | (intro W hW; have q1 : W.cell? ⟨u, 1, none⟩ = some (.string A) := hW.cell (j := 1) rfl; have q2 : W.cell? ⟨u, 2, none⟩ = some (.int .i64 t) := hW.cell (j := 2) rfl; have q3 : W.cell? ⟨u, 3, none⟩ = some (.slice none 0 0) := hW.cell (j := 3) rfl; (go_simp <;> with_reducible rfl))
  try simp only [Act.put, List.setIfInBounds_toArray, List.set_cons_zero, List.set_cons_succ]
  refine seqQ_take (o := ⟨_, _, _, _, _, _⟩) (v := ?_) (by rw [HO.out]; rfl) (by rfl) ?_ ?_
  rotate_left 1
  · first | ((intro W _; go_simp) <;> with_reducible rfl) | (intro W hW; have q1 : W.cell? ⟨u, 1, none⟩ = some (.string A) := hW.cell (j := 1) rfl; have q2 : W.cell? ⟨u, 2, none⟩ = some (.int .i64 t) := hW.cell (j := 2) rfl; have q3 : W.cell? ⟨u, 3, none⟩ = some (.slice none 0 0) := hW.cell (j := 3) rfl; (go_simp <;> with_reducible rfl))
  try simp only [Act.put, List.setIfInBounds_toArray, List.set_cons_zero, List.set_cons_succ]
  refine seqQ_take (o := ⟨_, _, _, _, _, _⟩) (v := ?_) (by rw [HO.out]; rfl) (by rfl) ?_ ?_
  rotate_left 1
  · first | ((intro W _; go_simp) <;> with_reducible rfl) | (intro W hW; have q1 : W.cell? ⟨u, 1, none⟩ = some (.string A) := hW.cell (j := 1) rfl; have q2 : W.cell? ⟨u, 2, none⟩ = some (.int .i64 t) := hW.cell (j := 2) rfl; have q3 : W.cell? ⟨u, 3, none⟩ = some (.slice none 0 0) := hW.cell (j := 3) rfl; (go_simp <;> with_reducible rfl))
  try simp only [Act.put, List.setIfInBounds_toArray, List.set_cons_zero, List.set_cons_succ]
  refine seqQ_take (o := ⟨_, _, _, _, _, _⟩) (v := ?_) (by rw [HO.out]; rfl) (by rfl) ?_ ?_
  rotate_left 1
  · first | ((intro W _; go_simp) <;> with_reducible rfl) | (intro W hW; have q1 : W.cell? ⟨u, 1, none⟩ = some (.string A) := hW.cell (j := 1) rfl; have q2 : W.cell? ⟨u, 2, none⟩ = some (.int .i64 t) := hW.cell (j := 2) rfl; have q3 : W.cell? ⟨u, 3, none⟩ = some (.slice none 0 0) := hW.cell (j := 3) rfl; (go_simp <;> with_reducible rfl))
  try simp only [Act.put, List.setIfInBounds_toArray, List.set_cons_zero, List.set_cons_succ]
  refine seqQ_take (o := ⟨_, _, _, _, _, _⟩) (v := ?_) (by rw [HO.out]; rfl) (by rfl) ?_ ?_
  rotate_left 1
  · first | ((intro W _; go_simp) <;> with_reducible rfl) | (intro W hW; have q1 : W.cell? ⟨u, 1, none⟩ = some (.string A) := hW.cell (j := 1) rfl; have q2 : W.cell? ⟨u, 2, none⟩ = some (.int .i64 t) := hW.cell (j := 2) rfl; have q3 : W.cell? ⟨u, 3, none⟩ = some (.slice none 0 0) := hW.cell (j := 3) rfl; (go_simp <;> with_reducible rfl))
  try simp only [Act.put, List.setIfInBounds_toArray, List.set_cons_zero, List.set_cons_succ]
  refine seqQ_take (o := ⟨_, _, _, _, _, _⟩) (v := ?_) (by rw [HO.out]; rfl) (by rfl) ?_ ?_
  rotate_left 1
  · first | ((intro W _; go_simp) <;> with_reducible rfl) | (intro W hW; have q1 : W.cell? ⟨u, 1, none⟩ = some (.string A) := hW.cell (j := 1) rfl; have q2 : W.cell? ⟨u, 2, none⟩ = some (.int .i64 t) := hW.cell (j := 2) rfl; have q3 : W.cell? ⟨u, 3, none⟩ = some (.slice none 0 0) := hW.cell (j := 3) rfl; (go_simp <;> with_reducible rfl))
  try simp only [Act.put, List.setIfInBounds_toArray, List.set_cons_zero, List.set_cons_succ]
  refine seqQ_take (o := ⟨_, _, _, _, _, _⟩) (v := ?_) (by rw [HO.out]; rfl) (by rfl) ?_ ?_
  rotate_left 1
  · first | ((intro W _; go_simp) <;> with_reducible rfl) | (intro W hW; have q1 : W.cell? ⟨u, 1, none⟩ = some (.string A) := hW.cell (j := 1) rfl; have q2 : W.cell? ⟨u, 2, none⟩ = some (.int .i64 t) := hW.cell (j := 2) rfl; have q3 : W.cell? ⟨u, 3, none⟩ = some (.slice none 0 0) := hW.cell (j := 3) rfl; (go_simp <;> with_reducible rfl))
  try simp only [Act.put, List.setIfInBounds_toArray, List.set_cons_zero, List.set_cons_succ]
  refine seqQ_take (o := ⟨_, _, _, _, _, _⟩) (v := ?_) (by rw [HO.out]; rfl) (by rfl) ?_ ?_
  rotate_left 1
  · first | ((intro W _; go_simp) <;> with_reducible rfl) | (intro W hW; have q1 : W.cell? ⟨u, 1, none⟩ = some (.string A) := hW.cell (j := 1) rfl; have q2 : W.cell? ⟨u, 2, none⟩ = some (.int .i64 t) := hW.cell (j := 2) rfl; have q3 : W.cell? ⟨u, 3, none⟩ = some (.slice none 0 0) := hW.cell (j := 3) rfl; (go_simp <;> with_reducible rfl))
  try simp only [Act.put, List.setIfInBounds_toArray, List.set_cons_zero, List.set_cons_succ]
  refine seqQ_take (o := ⟨_, _, _, _, _, _⟩) (v := ?_) (by rw [HO.out]; rfl) (by rfl) ?_ ?_
  rotate_left 1
  · first | ((intro W _; go_simp) <;> with_reducible rfl) | (intro W hW; have q1 : W.cell? ⟨u, 1, none⟩ = some (.string A) := hW.cell (j := 1) rfl; have q2 : W.cell? ⟨u, 2, none⟩ = some (.int .i64 t) := hW.cell (j := 2) rfl; have q3 : W.cell? ⟨u, 3, none⟩ = some (.slice none 0 0) := hW.cell (j := 3) rfl; (go_simp <;> with_reducible rfl))
  try simp only [Act.put, List.setIfInBounds_toArray, List.set_cons_zero, List.set_cons_succ]
  refine seqQ_take (o := ⟨_, _, _, _, _, _⟩) (v := ?_) (by rw [HO.out]; rfl) (by rfl) ?_ ?_
  rotate_left 1
  · first | ((intro W _; go_simp) <;> with_reducible rfl) | (intro W hW; have q1 : W.cell? ⟨u, 1, none⟩ = some (.string A) := hW.cell (j := 1) rfl; have q2 : W.cell? ⟨u, 2, none⟩ = some (.int .i64 t) := hW.cell (j := 2) rfl; have q3 : W.cell? ⟨u, 3, none⟩ = some (.slice none 0 0) := hW.cell (j := 3) rfl; (go_simp <;> with_reducible rfl))
  try simp only [Act.put, List.setIfInBounds_toArray, List.set_cons_zero, List.set_cons_succ]
  refine seqQ_take (o := ⟨_, _, _, _, _, _⟩) (v := ?_) (by rw [HO.out]; rfl) (by rfl) ?_ ?_
  rotate_left 1
  · first | ((intro W _; go_simp) <;> with_reducible rfl) | (intro W hW; have q1 : W.cell? ⟨u, 1, none⟩ = some (.string A) := hW.cell (j := 1) rfl; have q2 : W.cell? ⟨u, 2, none⟩ = some (.int .i64 t) := hW.cell (j := 2) rfl; have q3 : W.cell? ⟨u, 3, none⟩ = some (.slice none 0 0) := hW.cell (j := 3) rfl; (go_simp <;> with_reducible rfl))
  try simp only [Act.put, List.setIfInBounds_toArray, List.set_cons_zero, List.set_cons_succ]
  refine seqQ_take (o := ⟨_, _, _, _, _, _⟩) (v := ?_) (by rw [HO.out]; rfl) (by rfl) ?_ ?_
  rotate_left 1
  · first | ((intro W _; go_simp) <;> with_reducible rfl) | (intro W hW; have q1 : W.cell? ⟨u, 1, none⟩ = some (.string A) := hW.cell (j := 1) rfl; have q2 : W.cell? ⟨u, 2, none⟩ = some (.int .i64 t) := hW.cell (j := 2) rfl; have q3 : W.cell? ⟨u, 3, none⟩ = some (.slice none 0 0) := hW.cell (j := 3) rfl; (go_simp <;> with_reducible rfl))
  try simp only [Act.put, List.setIfInBounds_toArray, List.set_cons_zero, List.set_cons_succ]
  refine seqQ_do (o := ⟨_, _, _, _, _, _⟩) (by rw [HO.out]; rfl) (by rfl) (fun K hK => ?_)
  go_wp2_with (go_at_call 35; refine HPu4.out.mono ?_; rintro e w5 ⟨M', sa, n5, sc, rfl, hl, hr, hm5, hg5⟩; have hX5 : BoxIs w5 rz _ _ := (show BoxIs w4.drew rz _ _ from HX4.out).kp hg5.kp hnz; have HX5 := Lib.hid hX5; have hS : BoxIs w5 u (upArr id A t mp) 183 := (show BoxIs w4.drew u _ _ from HBu4.out).kp hg5.kp (fun e => by have h1 := HAp.out u (.inl e); have h2 := HLoU.out; omega); have HLn := Lib.hid hl; have HR5 := Lib.hid hr; have HM5 := Lib.hid hm5; have HG5 := Lib.hid hg5; clear hl hr hm5 hg5 hX5)
  refine hK.out _ _ (fun _ => hS) ?_
  clear hK K
  try simp only [Act.put, List.setIfInBounds_toArray, List.set_cons_zero, List.set_cons_succ]
  refine seqQ_take (o := ⟨_, _, _, _, _, _⟩) (v := ?_) (by rw [HO.out]; rfl) (by rfl) ?_ ?_
  rotate_left 1
  · first | ((intro W _; go_simp) <;> with_reducible rfl) | (intro W hW; have q1 : W.cell? ⟨u, 1, none⟩ = some (.string A) := hW.cell (j := 1) rfl; have q2 : W.cell? ⟨u, 2, none⟩ = some (.int .i64 t) := hW.cell (j := 2) rfl; have q3 : W.cell? ⟨u, 3, none⟩ = some (.slice none 0 0) := hW.cell (j := 3) rfl; (go_simp <;> with_reducible rfl))
  try simp only [Act.put, List.setIfInBounds_toArray, List.set_cons_zero, List.set_cons_succ]
  refine seqQ_take (o := ⟨_, _, _, _, _, _⟩) (v := ?_) (by rw [HO.out]; rfl) (by rfl) ?_ ?_
  rotate_left 1
  · first | ((intro W _; go_simp) <;> with_reducible rfl) | (intro W hW; have q1 : W.cell? ⟨u, 1, none⟩ = some (.string A) := hW.cell (j := 1) rfl; have q2 : W.cell? ⟨u, 2, none⟩ = some (.int .i64 t) := hW.cell (j := 2) rfl; have q3 : W.cell? ⟨u, 3, none⟩ = some (.slice none 0 0) := hW.cell (j := 3) rfl; (go_simp <;> with_reducible rfl))
  try simp only [Act.put, List.setIfInBounds_toArray, List.set_cons_zero, List.set_cons_succ]
  refine seqQ_do (o := ⟨_, _, _, _, _, _⟩) (by rw [HO.out]; rfl) (by rfl) (fun K hK => ?_)
  obtain ⟨⟨p0, p1, p2, p3, p4, p5, p6⟩, f0, f1, f2, f3, f4, f5, f6⟩ := info_room HX5.out
  go_wp2_with fail
  clear p0 p1 p2 p3 p4 p5 p6 f0 f1 f2 f3 f4 f5 f6
  have hS7 : BoxIs (set7 w5 rz A false d.size (tOf s2 t) (.slice sa n5 sc) idv) u (upArr id A t mp) 183 := hS.kp (set7_kp (Kp.refl (fun i => i = rz) w5) (.inl rfl) _ _ _ _ _ _) (fun e => HUrz.out e)
  unfold set7 at hS7
  refine hK.out _ _ (fun _ => hS7) ?_
  clear hK K
  try simp only [Act.put, List.setIfInBounds_toArray, List.set_cons_zero, List.set_cons_succ]
  refine seqQ_take (o := ⟨_, _, _, _, _, _⟩) (v := ?_) (by rw [HO.out]; rfl) (by rfl) ?_ ?_
  rotate_left 1
  · first | ((intro W _; go_simp) <;> with_reducible rfl) | (intro W hW; have q1 : W.cell? ⟨u, 1, none⟩ = some (.string A) := hW.cell (j := 1) rfl; have q2 : W.cell? ⟨u, 2, none⟩ = some (.int .i64 t) := hW.cell (j := 2) rfl; have q3 : W.cell? ⟨u, 3, none⟩ = some (.slice none 0 0) := hW.cell (j := 3) rfl; (go_simp <;> with_reducible rfl))
  try simp only [Act.put, List.setIfInBounds_toArray, List.set_cons_zero, List.set_cons_succ]
  refine seqQ_done ?_
  have hend : FinPost w0 T A M s2 ra d t w (.returned (.tuple #[.agg (infoArr A false d.size (tOf s2 t) (.slice sa n5 sc) idv), .int .i64 0])) (set7 w5 rz A false d.size (tOf s2 t) (.slice sa n5 sc) idv) := by
    have hk7 := set7_kp (Kp.refl (fun i => i = rz) w5) (.inl rfl) A false d.size (tOf s2 t) (.slice sa n5 sc) idv
    have hw4 : w.heap.size ≤ w4.heap.size := hSz
    have hz7 : (set7 w5 rz A false d.size (tOf s2 t) (.slice sa n5 sc) idv).heap.size = w5.heap.size := by simp [set7, World.setCell]
    have hg5 : Goes M M' w4 w5 := ⟨HG5.out.b, HG5.out.cb, HG5.out.rb, ⟨HG5.out.kp.os, HG5.out.kp.tape, HG5.out.kp.output, HG5.out.kp.size, HG5.out.kp.block⟩, HG5.out.mf, HG5.out.nb⟩
    have hrzs := HRz.out
    refine ⟨M', sa, n5, sc, ?_, HLn.out, ?_, ?_, ?_⟩
    · rw [HId.out]
    · exact (HR5.out.lower hw4).kp hk7 (fun i hi e => HR5.out.ne HX5.out (by decide) (e ▸ hi))
    · refine HM5.out.kp hk7 (fun i hi e => ?_)
      have hlo : ∀ j, MF M j ∨ j = M.cb ∨ j = M.rb → j < B := HAp.out
      have hz4 : rz < w4.heap.size := HX4.out.lt
      rcases hi with hi | hi | hi
      · rcases hg5.mf i hi with h | h
        · have := hlo i (.inl h)
          omega
        · omega
      · rw [hg5.cb] at hi
        have := hlo _ (.inr (.inl rfl))
        omega
      · rw [hg5.rb] at hi
        have := hlo _ (.inr (.inr rfl))
        omega
    · refine ⟨hg5.b, hg5.cb, hg5.rb, ?_, fun i hi => ?_, ?_⟩
      · have h1 : Kp (fun i => MF M i ∨ rb ra i) w w5 := ((Kp.of HB1.out).trans HK4.out).trans (hg5.kp.mono (fun i e => .inl e))
        exact set7_kp h1 (b := rz) (.inr (by omega)) _ _ _ _ _ _
      · rcases hg5.mf i hi with h | h
        · exact .inl h
        · exact .inr (by omega)
      · rw [hz7]
        exact hg5.nb hn4
  unfold set7 at hend
  try simp only [Exit.then]
  go_wp2_with fail
  refine bodyPost_ret (v := .tuple #[.agg (infoArr A false d.size (tOf s2 t) (.slice sa n5 sc) idv), .int .i64 0]) ?_ rfl hend
  clear hend
  obtain ⟨⟨p0, p1, p2, p3, p4, p5, p6⟩, f0, f1, f2, f3, f4, f5, f6⟩ := info_room HX5.out
  simp [results, Tryz.f279]
  go_simp
end Go.Proofs.YtmafnjapailliaaGreatDoor
namespace Go.Proofs.YtmafnjapailliaaGreatDoor
open Go.RowKit

theorem memM_Begin (w : World) (n : Nat) (v : Value) (hn : 0 < n) : (method n 34 v "Begin").run Tryz.prog w = .ok (278, v) w := by
  obtain ⟨i, hi, hm⟩ := Option.map_eq_some_iff.1 (show (Tryz.prog.info? 34).map (fun i => (i.methods.find? (·.name == "Begin")).map (fun m => (m.path.toList, m.func))) = some (some ([], some (278, true))) by kernel_rfl)
  exact method_ptr hi hm Tryz.underlying34 hn v
theorem memA_Begin (w : World) (n : Nat) (v : Value) (hn : 0 < n) : (nilAhead n 34 v "Begin").run Tryz.prog w = .ok (some false) w := by
  obtain ⟨i, hi, hm⟩ := Option.map_eq_some_iff.1 (show (Tryz.prog.info? 34).map (fun i => (i.methods.find? (·.name == "Begin")).map (fun m => (m.path.toList, m.func))) = some (some ([], some (278, true))) by kernel_rfl)
  obtain ⟨k, rfl⟩ : ∃ k, n = k + 1 := ⟨n - 1, by omega⟩
  cases h : i.methods.find? (·.name == "Begin") with
  | none => rw [h] at hm; cases hm
  | some m =>
    rw [h] at hm
    simp only [Option.map_some, Option.some.injEq, Prod.mk.injEq] at hm
    unfold nilAhead
    simp [typeInfo, hi, h, followBlind, hm.1, hm.2]
theorem memM_Part (w : World) (n : Nat) (v : Value) (hn : 0 < n) : (method n 34 v "Part").run Tryz.prog w = .ok (281, v) w := by
  obtain ⟨i, hi, hm⟩ := Option.map_eq_some_iff.1 (show (Tryz.prog.info? 34).map (fun i => (i.methods.find? (·.name == "Part")).map (fun m => (m.path.toList, m.func))) = some (some ([], some (281, true))) by kernel_rfl)
  exact method_ptr hi hm Tryz.underlying34 hn v
theorem memA_Part (w : World) (n : Nat) (v : Value) (hn : 0 < n) : (nilAhead n 34 v "Part").run Tryz.prog w = .ok (some false) w := by
  obtain ⟨i, hi, hm⟩ := Option.map_eq_some_iff.1 (show (Tryz.prog.info? 34).map (fun i => (i.methods.find? (·.name == "Part")).map (fun m => (m.path.toList, m.func))) = some (some ([], some (281, true))) by kernel_rfl)
  obtain ⟨k, rfl⟩ : ∃ k, n = k + 1 := ⟨n - 1, by omega⟩
  cases h : i.methods.find? (·.name == "Part") with
  | none => rw [h] at hm; cases hm
  | some m =>
    rw [h] at hm
    simp only [Option.map_some, Option.some.injEq, Prod.mk.injEq] at hm
    unfold nilAhead
    simp [typeInfo, hi, h, followBlind, hm.1, hm.2]
theorem memM_Finish (w : World) (n : Nat) (v : Value) (hn : 0 < n) : (method n 34 v "Finish").run Tryz.prog w = .ok (279, v) w := by
  obtain ⟨i, hi, hm⟩ := Option.map_eq_some_iff.1 (show (Tryz.prog.info? 34).map (fun i => (i.methods.find? (·.name == "Finish")).map (fun m => (m.path.toList, m.func))) = some (some ([], some (279, true))) by kernel_rfl)
  exact method_ptr hi hm Tryz.underlying34 hn v
theorem memA_Finish (w : World) (n : Nat) (v : Value) (hn : 0 < n) : (nilAhead n 34 v "Finish").run Tryz.prog w = .ok (some false) w := by
  obtain ⟨i, hi, hm⟩ := Option.map_eq_some_iff.1 (show (Tryz.prog.info? 34).map (fun i => (i.methods.find? (·.name == "Finish")).map (fun m => (m.path.toList, m.func))) = some (some ([], some (279, true))) by kernel_rfl)
  obtain ⟨k, rfl⟩ : ∃ k, n = k + 1 := ⟨n - 1, by omega⟩
  cases h : i.methods.find? (·.name == "Finish") with
  | none => rw [h] at hm; cases hm
  | some m =>
    rw [h] at hm
    simp only [Option.map_some, Option.some.injEq, Prod.mk.injEq] at hm
    unfold nilAhead
    simp [typeInfo, hi, h, followBlind, hm.1, hm.2]

/-- How many parts of n bytes make z. -/
def partsOf (z n : Nat) : Nat := if max 1 (z / n) * n < z then max 1 (z / n) + 1 else max 1 (z / n)
theorem partsOf_facts {z n : Nat} (hn : 1 ≤ n) (h : z ≤ 1000 * n) : 1 ≤ partsOf z n ∧ partsOf z n ≤ 1000 ∧ z ≤ partsOf z n * n ∧ ∀ i, i + 1 < partsOf z n → (i + 1) * n ≤ z := by
  have hd : z / n * n ≤ z := Nat.div_mul_le_self z n
  have hd2 : z < (z / n + 1) * n := by
    have := Nat.lt_div_mul_add (a := z) (b := n) (by omega)
    rw [Nat.succ_mul]
    omega
  have hd3 : z / n ≤ 1000 := by
    have : z / n * n ≤ 1000 * n := Nat.le_trans hd h
    exact Nat.le_of_mul_le_mul_right this (by omega)
  unfold partsOf
  rcases Nat.eq_zero_or_pos (z / n) with h0 | h0
  · rw [h0] at hd2 ⊢
    rw [show max 1 0 = 1 from rfl]
    rw [Nat.zero_add, Nat.one_mul] at hd2
    rw [if_neg (by omega)]
    exact ⟨by omega, by omega, by omega, fun i hi => by omega⟩
  · have hm : max 1 (z / n) = z / n := by omega
    rw [hm]
    split
    · rename_i hlt
      refine ⟨by omega, ?_, by omega, fun i hi => ?_⟩
      · rcases Nat.lt_or_ge (z / n) 1000 with h9 | h9
        · omega
        · have : z / n = 1000 := by omega
          rw [this] at hlt
          omega
      · exact Nat.le_trans (Nat.mul_le_mul_right n (by omega)) hd
    · rename_i hge
      refine ⟨by omega, hd3, by omega, fun i hi => ?_⟩
      exact Nat.le_trans (Nat.mul_le_mul_right n (by omega)) hd
theorem idOf_ups (s : MSt) (d : ByteArray) (t bg : Int) (v : Value) : idOf { s with begun := bg, ups := v } d t = idOf s d t := by
  unfold idOf MSt.put
  cases s.cur <;> rfl
abbrev sP (s : MSt) (ra : Option Addr) (n cap : Nat) : MSt := { s with begun := 1, ups := .slice ra n cap }
def Fin2 (w0 : World) (T : Tabs) (A : ByteArray) (M : MB) (s : MSt) (ra : Option Addr) (cap : Nat) (d : ByteArray) (t : Int) (w : World) (e : Ending) (w' : World) : Prop :=
  ∃ M' sa n sc, e = .returned (.tuple #[.agg (infoArr A false d.size (tOf s t) (.slice sa n sc) (idOf s d t)), .int .i64 0]) ∧ (sumRows T s.f.sums d.data.toList 5).length = n ∧ RowG 256 2 w' w.heap.size sa sc (sumRows T s.f.sums d.data.toList 5) ∧ MemAt w' w0.heap.size A M' ((sP s ra 0 cap).put d (tOf s t)) ∧ GoesR ra M M' w w'
theorem fin2_any (w0 : World) (T : Tabs) (A : ByteArray) (M : MB) (s : MSt) (B : Nat) (ra : Option Addr) (cap u mp : Nat) (id : ByteArray) (t : Int) (ps : List ByteArray) (n : Nat) (d : ByteArray) (w : World) (hG : Gr w0 T) (hA : PathA A) (hU : Ups w0 A M (sP s ra 1 cap) B ra cap u mp id t ps w) (hn : n = ps.length) (hl : n ≤ 1000)
    (hp : ∀ (i : Nat) p, i + 1 < n → ps[i]? = some p → s.f.partSize ≤ (p.size : Int)) (hd : catP ps = d.data.toList) (hz : (d.size : Int) ≤ s.f.maxSize) (hs : StOk s) (hf : FOk s.f A) (ht : -9223372036854775808 ≤ t ∧ t ≤ 9223372036854775807) (hnow : -9223372036854775808 ≤ s.now ∧ s.now ≤ 9223372036854775807) :
    Calls Tryz.prog 279 #[ptr M.b, .string id, .int .i64 n] w (Fin2 w0 T A M s ra cap d t w) := by
  refine (finish_any w0 T A M (sP s ra 1 cap) B ra cap u mp id t ps n d w hG hA hU hn hl hp hd hz ⟨hs.made, hs.num, hs.vers, hs.has⟩ hf ht hnow).mono ?_
  rintro e w' ⟨M', sa, m, sc, h1, h2, h3, h4, h5⟩
  refine ⟨M', sa, m, sc, ?_, h2, h3, h4, h5⟩
  rw [h1]
  have h9 : idOf { (sP s ra 1 cap) with ups := .slice ra 0 cap } d t = idOf s d t := idOf_ups s d t 1 (.slice ra 0 cap)
  rw [h9]
  rfl
/-- The pieces so far. -/
structure PI (d : ByteArray) (z cnt i : Nat) (ps : List ByteArray) (rest : ByteArray) : Prop where
  len : ps.length = i
  cat : catP ps ++ rest.data.toList = d.data.toList
  size : rest.size = d.size - i * z
  each : ∀ (j : Nat) p, ps[j]? = some p → p.size ≤ d.size ∧ (j + 1 < cnt → p.size = z)
theorem PI.first (d : ByteArray) (z cnt : Nat) : PI d z cnt 0 [] d := ⟨rfl, rfl, by rw [Nat.zero_mul, Nat.sub_zero], fun j p h => by simp at h⟩
theorem PI.next {d : ByteArray} {z cnt i : Nat} {ps : List ByteArray} {rest : ByteArray} (h : PI d z cnt i ps rest) (hc : ∀ i, i + 1 < cnt → (i + 1) * z ≤ d.size) {m : Nat} (hm : m = min z rest.size) :
    PI d z cnt (i + 1) (ps ++ [rest.extract 0 m]) (rest.extract m rest.size) := by
  have hr := h.size
  have e1 : (rest.extract 0 m).size = m := by rw [ByteArray.size_extract]; omega
  have e2 : (rest.extract m rest.size).size = rest.size - m := by rw [ByteArray.size_extract]; omega
  have hsm : (i + 1) * z = i * z + z := Nat.succ_mul i z
  have hl := h.len
  refine ⟨by rw [List.length_append, hl]; rfl, ?_, by rw [e2]; omega, fun j p hj => ?_⟩
  · rw [← h.cat]
    unfold catP
    rw [List.flatMap_append, List.append_assoc]
    congr 1
    simp only [List.flatMap_cons, List.flatMap_nil, List.append_nil, ByteArray.data_extract, Array.toList_extract, List.extract_eq_take_drop, List.drop_zero, Nat.sub_zero]
    rw [List.take_of_length_le (l := rest.data.toList.drop m) (by rw [List.length_drop, ← Lib.size_eq]; exact Nat.le_refl _)]
    exact List.take_append_drop m _
  · rcases Nat.lt_or_ge j i with h1 | h1
    · rw [List.getElem?_append_left (by omega)] at hj
      exact h.each j p hj
    · rw [List.getElem?_append_right (by omega)] at hj
      have : j = i := by
        have := (List.getElem?_eq_some_iff.1 hj).1
        simp at this
        omega
      subst this
      rw [hl, Nat.sub_self] at hj
      injection hj with hj
      subst hj
      refine ⟨by rw [e1]; omega, fun hlt => ?_⟩
      have := hc j hlt
      rw [e1]
      omega
theorem PI.done {d : ByteArray} {z cnt : Nat} {ps : List ByteArray} {rest : ByteArray} (h : PI d z cnt cnt ps rest) (hc : d.size ≤ cnt * z) : catP ps = d.data.toList := by
  have hr := h.size
  have h0 : rest.data.toList = [] := List.eq_nil_of_length_eq_zero (by rw [← Lib.size_eq]; omega)
  have := h.cat
  rw [h0, List.append_nil] at this
  exact this
/-- What PutParts returns. -/
def PPost (w0 : World) (T : Tabs) (A : ByteArray) (M : MB) (s : MSt) (d : ByteArray) (t : Int) (w : World) (e : Ending) (w' : World) : Prop :=
  ∃ M' ra cap sa n sc, e = .returned (.tuple #[.agg (infoArr A false d.size (tOf s t) (.slice sa n sc) (idOf s d t)), .int .i64 0]) ∧ (sumRows T s.f.sums d.data.toList 5).length = n ∧ RowG 256 2 w' w.heap.size sa sc (sumRows T s.f.sums d.data.toList 5) ∧ MemAt w' w0.heap.size A M' (({ s with begun := 1, ups := .slice ra 0 cap } : MSt).put d (tOf s t)) ∧ Goes M M' w w'

set_option maxHeartbeats 8000000 in
set_option maxRecDepth 100000 in
theorem putParts_any (w0 : World) (T : Tabs) (A : ByteArray) (M : MB) (s : MSt) (d : ByteArray) (t : Int) (z : Nat) (w : World) (hG : Gr w0 T) (hb0 : Below w0.heap.size w0 w) (hM : MemAt w w0.heap.size A M s) (hnb : M.nb < w.heap.size) (hA : PathA A) (hs : StOk s) (hf : FOk s.f A) (hd : (d.size : Int) ≤ s.f.maxSize)
    (ht : -9223372036854775808 ≤ t ∧ t ≤ 9223372036854775807) (hnow : -9223372036854775808 ≤ s.now ∧ s.now ≤ 9223372036854775807) (hpa : hasB s.f 128 = true) (hbg : s.begun = 0) (hup : s.ups = .slice none 0 0) (hz1 : 1 ≤ z) (hz2 : (z : Int) ≤ 9223372036854775807) (hz3 : s.f.partSize ≤ (z : Int)) (hz4 : d.size ≤ 1000 * z) :
    Calls Tryz.prog 16 #[.iface 34 (ptr M.b), .string A, .string d, .int .i64 t, .slice none 0 0, .int .i64 z] w (PPost w0 T A M s d t w) := by
  have hds : d.size ≤ 1048576 := by have := hf.size; omega
  obtain ⟨c1, c2, c3, c4⟩ := partsOf_facts hz1 hz4
  have HBe := Lib.hid (fun W (hb : Below w0.heap.size w0 W) (h : MemAt W w0.heap.size A M s) (hn : M.nb < W.heap.size) => beginUp_any w0 T A M s t W hG hb h hn hA hf hpa hbg hup)
  unfold BegPost at HBe
  have HPa := Lib.hid (fun ra cap B u mp id ps p n W (hU : Ups w0 A M (sP s ra 1 cap) B ra cap u mp id t ps W) (hn : n = ps.length + 1) (hl : n ≤ 1000) (hp : (p.size : Int) ≤ s.f.maxSize) => part_any w0 A M (sP s ra 1 cap) B ra cap u mp id t ps p n W hU hn hl hp)
  unfold UpsPost at HPa
  have HFi := Lib.hid (fun ra cap B u mp id ps n W (hU : Ups w0 A M (sP s ra 1 cap) B ra cap u mp id t ps W) (hn : n = ps.length) (hl : n ≤ 1000) (hp : ∀ (i : Nat) p, i + 1 < n → ps[i]? = some p → s.f.partSize ≤ (p.size : Int)) (hdd : catP ps = d.data.toList) => fin2_any w0 T A M s B ra cap u mp id t ps n d W hG hA hU hn hl hp hdd hd hs hf ht hnow)
  unfold Fin2 at HFi
  have HM := Lib.hid hM
  have HB0 := Lib.hid hb0
  have HMl := Lib.hid (fun i (hi : MF M i ∨ i = M.cb ∨ i = M.rb) => hM.mfl hnb hi)
  have HC4 := Lib.hid c4
  have HZ3 := Lib.hid hz3
  obtain ⟨q, hq⟩ : ∃ q, d.size / z = q := ⟨_, rfl⟩
  have hq1 : (d.size : Int).tdiv (z : Int) = (q : Int) := by rw [Int.tdiv_eq_ediv_of_nonneg (by omega), ← Int.natCast_ediv, hq]
  obtain ⟨c0, hc0⟩ : ∃ c0, max 1 q = c0 := ⟨_, rfl⟩
  have hc01 : max (1 : Int) (q : Int) = (c0 : Int) := by omega
  have hq9 : q ≤ d.size := by rw [← hq]; exact Nat.div_le_self _ _
  have hwq : wrap64 (q : Int) = (q : Int) := IntWalk.wrap64_in _ ⟨by omega, by omega⟩
  obtain ⟨pz, hpz⟩ : ∃ pz, c0 * z = pz := ⟨_, rfl⟩
  have hpz1 : (c0 : Int) * (z : Int) = (pz : Int) := by rw [← hpz]; exact (Int.natCast_mul c0 z).symm
  have hpz2 : (pz : Int) ≤ 9223372036854775807 := by
    rcases Nat.eq_zero_or_pos q with h0 | h0
    · have : c0 = 1 := by rw [← hc0, h0]; rfl
      rw [this, Nat.one_mul] at hpz
      rw [← hpz]
      exact hz2
    · have h1 : c0 = q := by rw [← hc0]; exact Nat.max_eq_right h0
      have h2 := Nat.div_mul_le_self d.size z
      rw [hq, ← h1, hpz] at h2
      omega
  have hwr := IntWalk.i64_in (pz : Int) (by omega)
  have hpo : partsOf d.size z = if pz < d.size then c0 + 1 else c0 := by unfold partsOf; rw [hq, hc0, hpz]
  have HPo := Lib.hid hpo
  obtain ⟨cnt, hcnt⟩ : ∃ cnt, partsOf d.size z = cnt := ⟨_, rfl⟩
  rw [hcnt] at c1 c2 c3 HC4 HPo
  have HC3 := Lib.hid c3
  have HDs : Hid ((d.size : Int) ≤ s.f.maxSize) := Lib.hid hd
  clear hM hG hA hs hf hd ht hnow hpa hbg hup hz3 hz4 c3 c4 hq hc0 hpz hpo hcnt hb0
  have hmb := memM_Begin
  have hab := memA_Begin
  have hmp := memM_Part
  have hap := memA_Part
  have hmf := memM_Finish
  have haf := memA_Finish
  have hb1 : Below w.heap.size w (w.alloc (.cells #[.string ⟨#[]⟩, .bool false, .int .i64 0, .int .i64 0, .slice none 0 0, .slice none 0 0, .string ⟨#[]⟩] 42)) := bAlloc (Below.refl _ _) _
  have HX1 := Lib.hid (BoxIs.new w #[.string ⟨#[]⟩, .bool false, .int .i64 0, .int .i64 0, .slice none 0 0, .slice none 0 0, .string ⟨#[]⟩] 42)
  have hz0 : ¬ ((z : Int) < 1) := by omega
  have hzz : ¬ ((z : Int) = 0) := by omega
  go_enter Tryz.func16, Tryz.ntmps16
  go_upto_region 3 with fail
  obtain ⟨rz, hrz⟩ : ∃ rz, rz = w.heap.size := ⟨_, rfl⟩
  have HRz := Lib.hid hrz
  have HB1 := Lib.hid hb1
  have HM1 := Lib.hid (HM.out.below hb1)
  have hn1 := Nat.lt_of_lt_of_le hnb hb1.size
  have hB01 : Below w0.heap.size w0 _ := HB0.out.trans (Below.mono hb1 HB0.out.size)
  have HB01 := Lib.hid hB01
  rw [← hrz] at HX1 ⊢
  clear hrz hb1 hB01
  generalize w.alloc _ = w1 at *
  go_upto_if 33 with fail
  go_cut [14] (fun s14 wx => s14 = .int .i64 cnt ∧ wx = w1)
  case first =>
    by_cases hlt : pz < d.size
    · have hlt' : (pz : Int) < (d.size : Int) := by omega
      have hcn : cnt = c0 + 1 := by have := HPo.out; rw [if_pos hlt] at this; exact this
      have HCn := Lib.hid hcn
      clear hcn HM1 HB01 HX1
      go_wp2_with fail
      go_meet
      exact ⟨by rw [HCn.out]; rfl, rfl⟩
    · have hlt' : ¬ ((pz : Int) < (d.size : Int)) := by omega
      have hcn : cnt = c0 := by have := HPo.out; rw [if_neg hlt] at this; exact this
      have HCn := Lib.hid hcn
      clear hcn HM1 HB01 HX1
      go_wp2_with fail
      go_meet
      exact ⟨by rw [HCn.out], rfl⟩
  case rest =>
    obtain ⟨rfl, rfl⟩ := hcut
    clear hq1 hc01 hwq hq9 hpz1 hpz2 hwr HPo
    have hc2 : ¬ ((1000 : Int) < (cnt : Int)) := by omega
    have HBe1 := Lib.hid (HBe.out wc HB01.out HM1.out hn1)
    obtain ⟨B, hB⟩ : ∃ B, wc.heap.size = B := ⟨_, rfl⟩
    rw [hB] at HBe1
    have HBz := Lib.hid hB
    have hrzB : rz < B := by rw [← hB]; exact HX1.out.lt
    have hnm : ¬ MF M rz := fun e => by have h1 := HMl.out rz (.inl e); rw [← HRz.out] at h1; omega
    clear hB HBe
    go_upto_region 9 with (go_at_call 278; refine HBe1.out.mono ?_; rintro e w2 ⟨id, ra, cap, u, mp, rfl, hU, hg2⟩)
    have HU2 : Hid (Ups w0 A M (sP s ra 1 cap) B ra cap u mp id t [] w2) := Lib.hid hU
    have HX2 := Lib.hid (HX1.out.kp hg2.kp hnm)
    have HK2 : Hid (Kp (fun i => MF M i ∨ B ≤ i) wc w2) := Lib.hid (hg2.kp.mono (fun i e => .inl e))
    clear hU hg2 HX1 HM1
    go_upto_region 12 with fail
    go_loopg [17, 2, 16] cnt (fun g s17 s2 s16 wx => ∃ (i k : Nat) (ps : List ByteArray) (rest : ByteArray), i + g = cnt ∧ k = i + 1 ∧ s17 = .int .i64 k ∧ s2 = .string rest ∧ s16 = .int .i64 0 ∧ Hid (Ups w0 A M (sP s ra 1 cap) B ra cap u mp id t ps wx) ∧ Hid (PI d z cnt i ps rest) ∧ Hid (Kp (fun i => MF M i ∨ B ≤ i) wc wx) ∧ Hid (BoxIs wx rz #[.string ⟨#[]⟩, .bool false, .int .i64 0, .int .i64 0, .slice none 0 0, .slice none 0 0, .string ⟨#[]⟩] 42))
    case atStart => exact ⟨0, 1, [], d, by omega, rfl, rfl, rfl, rfl, HU2, Lib.hid (PI.first d z cnt), HK2, HX2⟩
    case round =>
      clear HU2 HK2 HX2
      obtain ⟨i, k, ps, rest, hi, hk, rfl, rfl, rfl, HUx, HPx, HKx, HXx⟩ := hrel
      by_cases hlt : i < cnt
      case pos =>
        obtain ⟨g, rfl⟩ : ∃ g, gk = g + 1 := ⟨gk - 1, by omega⟩
        have hkc : (k : Int) ≤ (cnt : Int) := by omega
        obtain ⟨m, hm⟩ : ∃ m, m = min z rest.size := ⟨_, rfl⟩
        have hmn : min (z : Int) (rest.size : Int) = (m : Int) := by omega
        have hm1 : m ≤ rest.size := by omega
        have hnx := HPx.out.next HC4.out hm
        have hps : (rest.extract 0 m).size ≤ d.size := by rw [ByteArray.size_extract]; have := HPx.out.size; omega
        have HPa1 := Lib.hid (HPa.out ra cap B u mp id ps (rest.extract 0 m) k wr.drew (HUx.out.under (below_drewn (Below.refl _ _))) (by have := HPx.out.len; omega) (by omega) (by have := HDs.out; omega))
        have HNx := Lib.hid hnx
        have HKk := Lib.hid hk
        have hmpB := HUx.out.up.lo.2
        have HXd : Hid (BoxIs wr.drew rz _ _) := Lib.hid (show BoxIs wr.drew rz _ _ from HXx.out)
        have HKd : Hid (Kp (fun i => MF M i ∨ B ≤ i) wc wr.drew) := Lib.hid (HKx.out.trans (Kp.of (below_drewn (Below.refl _ _))))
        clear hk hm hnx hps HUx HPx HKx HXx
        go_upto_region 15 with fail
        refine wp_region_seqQ (fun _ => True) 1000 [(0, true), (1, true), (2, true), (3, true), (4, true), (5, true), (6, false), (7, true), (8, true), (9, false), (10, true)] (by as_aux_lemma => kernel_rfl) (by as_aux_lemma => kernel_rfl) (by as_aux_lemma => kernel_rfl) (by decide) (by as_aux_lemma => kernel_rfl) (by decide) trivial ?_
        intro OPS HO
        refine seqQ_take (o := ⟨_, _, _, _, _, _⟩) (v := ?_) (by rw [HO.out]; rfl) (by rfl) ?_ ?_
        rotate_left 1
        · first | ((intro W _; go_simp) <;> with_reducible rfl) | (intro W hW; skip; (go_simp <;> with_reducible rfl))
        try simp only [Act.put, List.setIfInBounds_toArray, List.set_cons_zero, List.set_cons_succ]
        refine seqQ_take (o := ⟨_, _, _, _, _, _⟩) (v := ?_) (by rw [HO.out]; rfl) (by rfl) ?_ ?_
        rotate_left 1
        · first | ((intro W _; go_simp) <;> with_reducible rfl) | (intro W hW; skip; (go_simp <;> with_reducible rfl))
        try simp only [Act.put, List.setIfInBounds_toArray, List.set_cons_zero, List.set_cons_succ]
        refine seqQ_take (o := ⟨_, _, _, _, _, _⟩) (v := ?_) (by rw [HO.out]; rfl) (by rfl) ?_ ?_
        rotate_left 1
        · first | ((intro W _; go_simp) <;> with_reducible rfl) | (intro W hW; skip; (go_simp <;> with_reducible rfl))
        try simp only [Act.put, List.setIfInBounds_toArray, List.set_cons_zero, List.set_cons_succ]
        refine seqQ_take (o := ⟨_, _, _, _, _, _⟩) (v := ?_) (by rw [HO.out]; rfl) (by rfl) ?_ ?_
        rotate_left 1
        · first | ((intro W _; go_simp) <;> with_reducible rfl) | (intro W hW; skip; (go_simp <;> with_reducible rfl))
        try simp only [Act.put, List.setIfInBounds_toArray, List.set_cons_zero, List.set_cons_succ]
        refine seqQ_take (o := ⟨_, _, _, _, _, _⟩) (v := ?_) (by rw [HO.out]; rfl) (by rfl) ?_ ?_
        rotate_left 1
        · first | ((intro W _; go_simp) <;> with_reducible rfl) | (intro W hW; skip; (go_simp <;> with_reducible rfl))
        try simp only [Act.put, List.setIfInBounds_toArray, List.set_cons_zero, List.set_cons_succ]
        refine seqQ_take (o := ⟨_, _, _, _, _, _⟩) (v := ?_) (by rw [HO.out]; rfl) (by rfl) ?_ ?_
        rotate_left 1
        · first | ((intro W _; go_simp) <;> with_reducible rfl) | (intro W hW; skip; (go_simp <;> with_reducible rfl))
        try simp only [Act.put, List.setIfInBounds_toArray, List.set_cons_zero, List.set_cons_succ]
        refine seqQ_do (o := ⟨_, _, _, _, _, _⟩) (by rw [HO.out]; rfl) (by rfl) (fun K hK => ?_)
        have hS : True := trivial
        go_wp2_with fail
        refine hK.out _ _ (fun _ => hS) ?_
        clear hK K
        try simp only [Act.put, List.setIfInBounds_toArray, List.set_cons_zero, List.set_cons_succ]
        refine seqQ_take (o := ⟨_, _, _, _, _, _⟩) (v := ?_) (by rw [HO.out]; rfl) (by rfl) ?_ ?_
        rotate_left 1
        · first | ((intro W _; go_simp) <;> with_reducible rfl) | (intro W hW; skip; (go_simp <;> with_reducible rfl))
        try simp only [Act.put, List.setIfInBounds_toArray, List.set_cons_zero, List.set_cons_succ]
        refine seqQ_take (o := ⟨_, _, _, _, _, _⟩) (v := ?_) (by rw [HO.out]; rfl) (by rfl) ?_ ?_
        rotate_left 1
        · first | ((intro W _; go_simp) <;> with_reducible rfl) | (intro W hW; skip; (go_simp <;> with_reducible rfl))
        try simp only [Act.put, List.setIfInBounds_toArray, List.set_cons_zero, List.set_cons_succ]
        refine seqQ_do (o := ⟨_, _, _, _, _, _⟩) (by rw [HO.out]; rfl) (by rfl) (fun K hK => ?_)
        go_wp2_with (go_at_call 281; refine HPa1.out.mono ?_; rintro e w9 ⟨rfl, hu9, hk9⟩; have HU9 := Lib.hid hu9; have HX9 := Lib.hid (HXd.out.kp hk9 (fun e => e.elim hnm (fun e => by omega))); have HK9 : Hid (Kp (fun i => MF M i ∨ B ≤ i) wc w9) := Lib.hid (HKd.out.trans (hk9.mono (fun i e => e.elim .inl (fun e => .inr (by rw [e]; exact hmpB))))); clear hu9 hk9)
        refine hK.out _ _ (fun _ => hS) ?_
        clear hK K
        try simp only [Act.put, List.setIfInBounds_toArray, List.set_cons_zero, List.set_cons_succ]
        refine seqQ_take (o := ⟨_, _, _, _, _, _⟩) (v := ?_) (by rw [HO.out]; rfl) (by rfl) ?_ ?_
        rotate_left 1
        · first | ((intro W _; go_simp) <;> with_reducible rfl) | (intro W hW; skip; (go_simp <;> with_reducible rfl))
        try simp only [Act.put, List.setIfInBounds_toArray, List.set_cons_zero, List.set_cons_succ]
        refine seqQ_done ?_
        go_wp2_with fail
        go_roundg g
        case measure => omega
        case rel => exact ⟨i + 1, k + 1, _, _, by omega, by have := HKk.out; omega, by go_num, rfl, rfl, HU9, HNx, HK9, HX9⟩
      case neg =>
        have hkc : ¬ ((k : Int) ≤ (cnt : Int)) := by omega
        obtain rfl : i = cnt := by omega
        have hcat := HPx.out.done HC3.out
        have hcl := HPx.out.len
        have heach : ∀ (j : Nat) p, j + 1 < i → ps[j]? = some p → s.f.partSize ≤ (p.size : Int) := fun j p hj hp => by rw [(HPx.out.each j p hp).2 hj]; exact HZ3.out
        have hb3 : Below wr.heap.size wr (wr.alloc (.cells #[.string ⟨#[]⟩, .bool false, .int .i64 0, .int .i64 0, .slice none 0 0, .slice none 0 0, .string ⟨#[]⟩] 42)) := bAlloc (Below.refl _ _) _
        have HY3 := Lib.hid (BoxIs.new wr #[.string ⟨#[]⟩, .bool false, .int .i64 0, .int .i64 0, .slice none 0 0, .slice none 0 0, .string ⟨#[]⟩] 42)
        have HFi1 := Lib.hid (HFi.out ra cap B u mp id ps i _ (HUx.out.under hb3) hcl.symm c2 heach hcat)
        have HU3 := Lib.hid (HUx.out.under hb3)
        have HX3 := Lib.hid (HXx.out.under hb3)
        have HK3 : Hid (Kp (fun i => MF M i ∨ B ≤ i) wc _) := Lib.hid (HKx.out.trans (Kp.of hb3))
        have hBw : B ≤ wr.heap.size := by have := HUx.out.up.box.lt; have := HUx.out.up.lo.1; omega
        clear hcat hcl heach HPx HUx HXx HKx
        go_upto_region 18 with fail
        obtain ⟨xz, hxz⟩ : ∃ xz, xz = wr.heap.size := ⟨_, rfl⟩
        rw [← hxz] at HY3 ⊢
        rw [← hxz] at hBw
        clear hxz hb3
        generalize wr.alloc _ = w3 at *
        obtain ⟨tt, htt⟩ : ∃ tt, tOf s t = tt := ⟨_, rfl⟩
        obtain ⟨idv, hidv⟩ : ∃ idv, idOf s d t = idv := ⟨_, rfl⟩
        simp only [htt, hidv] at HFi1
        have HTt := Lib.hid htt
        have HId := Lib.hid hidv
        have hxm : ¬ MF M xz := fun e => by have h1 := HU3.out.ap xz (.inl e); omega
        have hxr : ¬ rb ra xz := HU3.out.up.row.ne HY3.out (by decide)
        have hrr : ¬ rb ra rz := HU3.out.up.row.ne HX3.out (by decide)
        have hne : ¬ rz = xz := by omega
        have HRb : Hid (∀ i, rb ra i → B ≤ i) := Lib.hid (fun i e => (HU3.out.up.row.base i e).1)
        have hxlt := HY3.out.lt
        clear htt hidv HU3 HFi
        go_upto_region 20 with (go_at_call 279; refine HFi1.out.mono ?_; rintro e w4 ⟨M', sa, n4, sc, rfl, hl, hr, hm4, hg4⟩; have HX4 := Lib.hid (HX3.out.kp hg4.kp (fun e => e.elim hnm hrr)); have HY4 := Lib.hid (HY3.out.kp hg4.kp (fun e => e.elim hxm hxr)); have HLn := Lib.hid hl; have HR4 := Lib.hid hr; have HM4 := Lib.hid hm4; have HG4 := Lib.hid hg4; clear hl hr hm4 hg4; obtain ⟨⟨p0, p1, p2, p3, p4, p5, p6⟩, f0, f1, f2, f3, f4, f5, f6⟩ := info_room HY4.out)
        clear p0 p1 p2 p3 p4 p5 p6 f0 f1 f2 f3 f4 f5 f6
        change Code.wp _ _ _ _ (set7 w4 xz A false d.size tt (.slice sa n4 sc) idv)
        have HY5 := Lib.hid (set7_box HY4.out A false d.size tt (.slice sa n4 sc) idv)
        have hk5 : Kp (fun i => i = xz) w4 (set7 w4 xz A false d.size tt (.slice sa n4 sc) idv) := set7_kp (Kp.refl (fun i => i = xz) w4) (.inl rfl) _ _ _ _ _ _
        have HX5 := Lib.hid (HX4.out.kp hk5 hne)
        have HK5 := Lib.hid hk5
        have hz5 : (set7 w4 xz A false d.size tt (.slice sa n4 sc) idv).heap.size = w4.heap.size := by simp [set7, World.setCell]
        have HZ5 := Lib.hid hz5
        clear hk5 hz5
        generalize set7 w4 xz A false d.size tt (.slice sa n4 sc) idv = w5 at *
        obtain ⟨q0, q1, q2, q3, q4, q5, q6⟩ := info_cells HY5.out
        obtain ⟨⟨p0, p1, p2, p3, p4, p5, p6⟩, f0, f1, f2, f3, f4, f5, f6⟩ := info_room HX5.out
        have hend : PPost w0 T A M s d t w (.returned (.tuple #[.agg (infoArr A false d.size (tOf s t) (.slice sa n4 sc) (idOf s d t)), .int .i64 0])) (set7 w5 rz A false d.size (tOf s t) (.slice sa n4 sc) (idOf s d t)) := by
          have hk6 : Kp (fun i => i = xz ∨ i = rz) w4 (set7 w5 rz A false d.size (tOf s t) (.slice sa n4 sc) (idOf s d t)) := set7_kp (HK5.out.mono (fun i e => .inl e)) (.inl (.inr rfl)) _ _ _ _ _ _
          have hz6 : (set7 w5 rz A false d.size (tOf s t) (.slice sa n4 sc) (idOf s d t)).heap.size = w5.heap.size := by simp [set7, World.setCell]
          have hrl := HX3.out.lt
          have hww : w.heap.size ≤ w3.heap.size := Nat.le_trans HB1.out.size HK3.out.size
          have hwB : w.heap.size ≤ B := by rw [← HBz.out]; exact HB1.out.size
          refine ⟨M', ra, cap, sa, n4, sc, rfl, HLn.out, ?_, ?_, ?_⟩
          · exact (HR4.out.lower hww).kp hk6 (fun i hi e => e.elim (fun e => HR4.out.ne HY4.out (by decide) (e ▸ hi)) (fun e => HR4.out.ne HX4.out (by decide) (e ▸ hi)))
          · have hm := HM4.out
            rw [← HTt.out] at hm
            refine hm.kp hk6 (fun i hi e => ?_)
            have h1 : ∀ j, MF M j ∨ j = M.cb ∨ j = M.rb → j < rz := fun j hj => by rw [HRz.out]; exact HMl.out j hj
            rcases hi with hi | hi | hi
            · rcases HG4.out.mf i hi with h | h
              · have := h1 i (.inl h)
                omega
              · omega
            · rw [HG4.out.cb] at hi
              have := h1 i (.inr (.inl hi))
              omega
            · rw [HG4.out.rb] at hi
              have := h1 i (.inr (.inr hi))
              omega
          · have k1 : Kp (fun i => MF M i ∨ w.heap.size ≤ i) w wc := Kp.of HB1.out
            have k2 : Kp (fun i => MF M i ∨ w.heap.size ≤ i) wc w3 := HK3.out.mono (fun i e => e.elim .inl (fun e => .inr (Nat.le_trans hwB e)))
            have k3 : Kp (fun i => MF M i ∨ w.heap.size ≤ i) w3 w4 := HG4.out.kp.mono (fun i e => e.elim .inl (fun e => .inr (Nat.le_trans hwB (HRb.out i e))))
            have k4 : Kp (fun i => MF M i ∨ w.heap.size ≤ i) w4 _ := hk6.mono (fun i e => .inr (by have := HRz.out; omega))
            have kk := (k1.trans k2).trans (k3.trans k4)
            refine ⟨HG4.out.b, HG4.out.cb, HG4.out.rb, ⟨kk.os, kk.tape, kk.output, kk.size, fun k hk hF => kk.block k hk (fun e => e.elim hF (fun e => absurd hk (Nat.not_lt.2 e)))⟩, fun i hi => (HG4.out.mf i hi).elim .inl (fun e => .inr (Nat.le_trans hww e)), fun _ => ?_⟩
            have h2 := HG4.out.nb
            have h3 := HZ5.out
            omega
        unfold set7 at hend
        rw [HTt.out, HId.out] at hend
        go_wp2_with fail
        try simp only [Exit.inBlock, Exit.then]
        refine bodyPost_ret (v := .tuple #[.agg (infoArr A false d.size tt (.slice sa n4 sc) idv), .int .i64 0]) ?_ rfl hend
        clear hend
        simp [results, Tryz.f16]
        go_simp
end Go.Proofs.YtmafnjapailliaaGreatDoor
