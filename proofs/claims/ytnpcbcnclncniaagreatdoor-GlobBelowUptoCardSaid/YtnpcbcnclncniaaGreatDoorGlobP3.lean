/-
  names.printParts.
-/
import Derived.Test.YtnpcbcnclncniaaGreatDoorGlobP2
namespace Go.Proofs.YtnpcbcnclncniaaGreatDoor
open Go.RowKit

def sm (d : Bool) : ByteArray := if d then ⟨#[92, 42, 63, 91, 93, 123, 125, 44]⟩ else ⟨#[92, 42, 63, 91, 93, 123, 125]⟩
theorem sm_spc (d : Bool) : (fun c => (sm d).data.toList.contains c) = spc d := by
  funext c
  cases d
  · show _ = (_ || false)
    rw [Bool.or_false]
    rfl
  · show (([92, 42, 63, 91, 93, 123, 125, 44] : List UInt8).contains c) = (([92, 42, 63, 91, 93, 123, 125] : List UInt8).contains c || (c == 44))
    simp only [List.contains_cons, List.contains_nil, Bool.or_false, Bool.or_assoc]
/-- Ways that have been written so far. -/
def wTo : List (List UInt8) → List UInt8
  | [] => []
  | x :: r => 123 :: (x ++ Lib.joinTail [44] r)
theorem wTo_snoc (l : List (List UInt8)) (y : List UInt8) : wTo (l ++ [y]) = wTo l ++ [if l.length = 0 then 123 else 44] ++ y := by
  cases l with
  | nil => simp [wTo, Lib.joinTail]
  | cons x r => simp [wTo, Lib.joinTail]
theorem wTo_end {l : List (List UInt8)} (h : l ≠ []) : wTo l ++ [125] = waysTxt l := by
  cases l with
  | nil => exact absurd rfl h
  | cons x r =>
    unfold waysTxt wTo
    rw [Lib.join_cons]
    simp
theorem wTo_step {α : Type} {f : α → List UInt8} {l : List α} {k : Nat} {x : α} (h : l[k]? = some x) : wTo ((l.take (k + 1)).map f) = wTo ((l.take k).map f) ++ [if k = 0 then 123 else 44] ++ f x := by
  have hl := (List.getElem?_eq_some_iff.1 h).1
  rw [take_map_snoc f h, wTo_snoc, List.length_map, List.length_take]
  congr 2
  congr 1
  by_cases h0 : k = 0
  · subst h0
    simp
  · rw [if_neg (by omega), if_neg h0]
theorem wTo_len (l : List (List UInt8)) : (wTo l).length ≤ (l.map (fun x => x.length + 1)).sum := by
  cases l with
  | nil => simp [wTo]
  | cons x r =>
    unfold wTo
    rw [lens_succ, List.length_cons, List.length_append, Lib.joinTail_length]
    unfold Lib.lens
    rw [List.map_cons, List.sum_cons]
    simp only [List.length_cons, List.length_nil]
    omega

theorem brace_at (m : Nat) (h : m < 2) : ((⟨#[123, 44]⟩ : ByteArray)[m]'h).toNat = if m = 0 then 123 else 44 := by
  match m, h with
  | 0, _ => rfl
  | 1, _ => rfl
theorem sum_six {α : Type} (f : α → Nat) : ∀ (l : List α), (l.map (fun s => 6 * (1 + f s))).sum = 6 * (l.map (fun s => 1 + f s)).sum
  | [] => rfl
  | a :: l => by
    rw [List.map_cons, List.sum_cons, List.map_cons, List.sum_cons, sum_six f l]
    omega

set_option maxHeartbeats 4000000 in
set_option maxRecDepth 100000 in
theorem printParts_any : ∀ (n : Nat) (s : Sl (P n)) (d : Bool) (w0 w : World) (b : Nat) (out : List UInt8), Bld w0 b out w → SOk w0 n s → Good n s.xs → szL n s.xs ≤ 1048576 → out.length + 6 * szL n s.xs ≤ 1000000000 →
    Calls Tryz.prog 82 #[.pointer (some ⟨b, 0, none⟩), .slice s.a s.xs.length s.c, .bool d] w fun e w' => e = .returned (.tuple #[]) ∧ Bld w0 b (out ++ txt n d s.xs) w' ∧ Lib.OthersKept 5 (some b) w w' := by
  have hadd : ∀ W : World, (Op.stringOp .add ⟨#[92, 42, 63, 91, 93, 123, 125]⟩ ⟨#[44]⟩).run Tryz.prog W = .ok (.string ⟨#[92, 42, 63, 91, 93, 123, 125, 44]⟩) W := fun W => by kernel_rfl
  intro n
  induction n with
  | zero =>
    intro s d w0 w b out h _ _ _ _
    have HB := Lib.hid h
    clear h
    obtain ⟨a, c, xs⟩ := s
    cases xs with
    | cons x _ => exact nomatch x
    | nil =>
      cases d
      all_goals
        go_enter Tryz.func82, Tryz.ntmps82
        go_wp2_with fail
        refine wp_loop_rounds 1 ?_
        rw [rounds_succ]
        go_wp2_with fail
        go_end0
        exact ⟨rfl, by simpa [txt] using HB.out, Lib.OthersKept.refl _ _ _⟩
  | succ n ih =>
    rintro ⟨sa, sc, xs⟩ d w0 w b out h hs hg hz hl
    have hlen : xs.length ≤ 1048576 := Nat.le_trans (len_le_sz (n + 1) xs) hz
    simp only [] at hz hl hg
    have HB := Lib.hid h
    have HS := Lib.hid hs
    have HG := Lib.hid hg
    have HIH := Lib.hid ih
    clear h hs hg ih
    go_enter Tryz.func82, Tryz.ntmps82
    go_upto_if 11 with fail
    go_cut [6] (fun s6 wx => s6 = .string (sm d) ∧ w = wx)
    case first =>
      cases d
      all_goals
        go_wp2_with fail
        go_meet
        exact ⟨rfl, rfl⟩
    case rest =>
    obtain ⟨rfl, rfl⟩ := hcut
    clear hadd
    go_wp2_with fail
    go_loopg [16] xs.length (fun g i wx => ∃ k : Nat, k + g = xs.length ∧ i = .int .i64 k ∧ Hid (Bld w0 b (out ++ txt (n + 1) d (xs.take k)) wx) ∧ Hid (Lib.OthersKept 5 (some b) w wx))
    case atStart => exact ⟨0, by omega, rfl, Lib.hid (by simpa [txt] using HB.out), Lib.hid (Lib.OthersKept.refl _ _ _)⟩
    case round =>
      clear HB
      obtain ⟨k, hk, rfl, HB, HK⟩ := hrel
      by_cases hlt : k < xs.length
      · obtain ⟨g, rfl⟩ : ∃ g, gk = g + 1 := ⟨gk - 1, by omega⟩
        obtain ⟨p, hx⟩ : ∃ p : P (n + 1), xs[k]? = some p := ⟨_, List.getElem?_eq_getElem hlt⟩
        have hmem := List.mem_of_getElem? hx
        obtain ⟨ba, off, ha, hba, r0, r1, r2, r3, r4⟩ := partRow (p := pt n p) ((HS.out.under HB.out.below).1) hx
        have HPo : Hid (POk w0 (n + 1) p) := Lib.hid (HS.out.2 p hmem)
        obtain ⟨⟨kd1, kd6⟩, hbad, hrg, hways⟩ := HG.out p hmem
        have hsp : sz (n + 1) p ≤ 1048576 := Nat.le_trans (le_sum (List.mem_map.2 ⟨p, hmem, rfl⟩)) hz
        have hszp : sz (n + 1) p = 1 + (pt n p).text.size + (pt n p).rg.xs.length + ((pt n p).ways.xs.map (fun s => 1 + szL n s.xs)).sum := rfl
        have hrl : (pt n p).rg.xs.length ≤ 1048576 := by omega
        have htl : (pt n p).text.size ≤ 1048576 := by omega
        have hws : ((pt n p).ways.xs.map (fun s => 1 + szL n s.xs)).sum ≤ 1048576 := by omega
        have hwl : (pt n p).ways.xs.length ≤ 1048576 := by
          have := sum_mono (xs := (pt n p).ways.xs) (f := fun _ => 1) (g := fun s => 1 + szL n s.xs) (fun s _ => by omega)
          rw [sum_ones1] at this
          omega
        have hol : (out ++ txt (n + 1) d (xs.take k)).length + 6 * sz (n + 1) p ≤ 1000000000 := by
          have h1 := txt_len (n + 1) d (xs.take k)
          have h2 : szL (n + 1) (xs.take (k + 1)) ≤ szL (n + 1) xs := sum_take_le _ _ _
          have h3 : szL (n + 1) (xs.take (k + 1)) = szL (n + 1) (xs.take k) + sz (n + 1) p := by
            unfold szL
            rw [take_map_snoc _ hx, List.sum_append]
            simp
          rw [List.length_append]
          omega
        rw [hszp] at hol
        obtain ⟨E, hE⟩ : ∃ E, txtOf (fun s => txt n true s.xs) d (pt n p) = E := ⟨_, rfl⟩
        have HT : Hid (out ++ txt (n + 1) d (xs.take (k + 1)) = (out ++ txt (n + 1) d (xs.take k)) ++ E) := Lib.hid (by
          rw [← hE]
          show out ++ (xs.take (k + 1)).flatMap _ = out ++ (xs.take k).flatMap _ ++ _
          rw [flat_snoc hx, List.append_assoc])
        have HE := Lib.hid hE
        have HPo2 : Hid (SlHolds w0 2 rgCells (pt n p).rg ∧ SlHolds w0 1 (fun s : Sl (P n) => [s.val]) (pt n p).ways ∧ ∀ s ∈ (pt n p).ways.xs, SOk w0 n s) := Lib.hid ⟨HPo.out.2.1, HPo.out.2.2.2.1, HPo.out.2.2.2.2⟩
        have HRg := Lib.hid hrg
        have HWs := Lib.hid hways
        have HBad := Lib.hid hbad
        clear HPo hx hsp hszp hmem hE hrg hways hbad
        generalize out ++ txt (n + 1) d (xs.take k) = oA at *
        generalize pt n p = q at *
        obtain ⟨kind, text, neg, ⟨ra, rc, rxs⟩, ⟨wa, wcap, wxs⟩⟩ := q
        simp only [] at *
        subst ha
        have hbx := bAlloc (Below.refl wr.heap.size wr) (.cells #[.int .i64 kind, .string text, .bool neg, .slice ra rxs.length rc, .slice wa wxs.length wcap] 92)
        have HX5 := Lib.hid (BoxIs.new wr #[.int .i64 kind, .string text, .bool neg, .slice ra rxs.length rc, .slice wa wxs.length wcap] 92)
        have HB5 := Lib.hid (HB.out.under hbx)
        have HK5 := Lib.hid (HK.out.trans (kept_below (e := 5) (b := some b) hbx))
        have hzx : b < wr.heap.size := HB.out.lt
        clear HB HK hbx
        go_upto_region 6 with fail
        generalize wr.alloc _ = w5 at *
        generalize wr.heap.size = zx at *
        clear r0 r1 r2 r3 r4
        obtain ⟨q0, q1, q2, q3, q4, q5⟩ := HX5.out.part (p := (⟨kind, text, neg, ⟨ra, rc, rxs⟩, ⟨wa, wcap, wxs⟩⟩ : PartOf (P n)))
        simp only [] at q1 q2 q3 q4 q5
        rcases (by omega : kind = 1 ∨ kind = 2 ∨ kind = 3 ∨ kind = 4 ∨ kind = 5 ∨ kind = 6) with rfl | rfl | rfl | rfl | rfl | rfl
        · have HC := Lib.hid (escape_any text (sm d) HB5.out htl (by omega))
          rw [sm_spc] at HC
          have HT2 : Hid (out ++ txt (n + 1) d (xs.take (k + 1)) = oA ++ escL (spc d) text.data.toList) := Lib.hid (by rw [HT.out, ← HE.out]; rfl)
          clear HT HE
          go_wp2_with fail
          refine HC.out.mono ?_
          rintro e w6 ⟨rfl, hB6, hK6⟩
          have HB6 := Lib.hid hB6
          have HK6 := Lib.hid (HK5.out.trans hK6)
          clear q0 q1 q2 q3 q4 q5 hB6 hK6 HC HB5 HK5
          go_wp2_with fail
          go_roundg g
          case measure => omega
          case rel => exact ⟨k + 1, by omega, by go_num, Lib.hid (by rw [HT2.out]; exact HB6.out), HK6⟩
        · have HT2 : Hid (out ++ txt (n + 1) d (xs.take (k + 1)) = oA ++ [63]) := Lib.hid (by rw [HT.out, ← HE.out]; rfl)
          clear HT HE
          go_wp2_with fail
          refine (writeByte_any (c := 63) rfl HB5.out (by omega)).mono ?_
          rintro e w6 ⟨rfl, hB6, hK6⟩
          have HB6 := Lib.hid hB6
          have HK6 := Lib.hid (HK5.out.trans hK6)
          clear q0 q1 q2 q3 q4 q5 hB6 hK6 HB5 HK5
          go_wp2_with fail
          go_roundg g
          case measure => omega
          case rel => exact ⟨k + 1, by omega, by go_num, Lib.hid (by rw [HT2.out]; exact HB6.out), HK6⟩
        · have HT2 : Hid (out ++ txt (n + 1) d (xs.take (k + 1)) = oA ++ [42]) := Lib.hid (by rw [HT.out, ← HE.out]; rfl)
          clear HT HE
          go_wp2_with fail
          refine (writeByte_any (c := 42) rfl HB5.out (by omega)).mono ?_
          rintro e w6 ⟨rfl, hB6, hK6⟩
          have HB6 := Lib.hid hB6
          have HK6 := Lib.hid (HK5.out.trans hK6)
          clear q0 q1 q2 q3 q4 q5 hB6 hK6 HB5 HK5
          go_wp2_with fail
          go_roundg g
          case measure => omega
          case rel => exact ⟨k + 1, by omega, by go_num, Lib.hid (by rw [HT2.out]; exact HB6.out), HK6⟩
        · have HT2 : Hid (out ++ txt (n + 1) d (xs.take (k + 1)) = oA ++ (⟨#[42, 42]⟩ : ByteArray).data.toList) := Lib.hid (by rw [HT.out, ← HE.out]; rfl)
          clear HT HE
          go_wp2_with fail
          refine (writeString_any ⟨#[42, 42]⟩ HB5.out (by show _ + 2 ≤ _; omega)).mono ?_
          rintro e w6 ⟨rfl, hB6, hK6⟩
          have HB6 := Lib.hid hB6
          have HK6 := Lib.hid (HK5.out.trans hK6)
          clear q0 q1 q2 q3 q4 q5 hB6 hK6 HB5 HK5
          go_wp2_with fail
          go_roundg g
          case measure => omega
          case rel => exact ⟨k + 1, by omega, by go_num, Lib.hid (by rw [HT2.out]; exact HB6.out), HK6⟩
        · have HT2 : Hid (out ++ txt (n + 1) d (xs.take (k + 1)) = oA ++ setTxt neg rxs) := Lib.hid (by rw [HT.out, ← HE.out]; rfl)
          have HC := Lib.hid (printSet_any (⟨5, text, neg, ⟨ra, rc, rxs⟩, ⟨wa, wcap, wxs⟩⟩ : PartOf (P n)) HB5.out HPo2.out.1 HRg.out hrl (by omega))
          simp only [] at HC
          clear HT HE
          go_wp2_with fail
          refine HC.out.mono ?_
          rintro e w6 ⟨rfl, hB6, hK6⟩
          have HB6 := Lib.hid hB6
          have HK6 := Lib.hid (HK5.out.trans hK6)
          clear q0 q1 q2 q3 q4 q5 hB6 hK6 HC HB5 HK5
          go_wp2_with fail
          go_roundg g
          case measure => omega
          case rel => exact ⟨k + 1, by omega, by go_num, Lib.hid (by rw [HT2.out]; exact HB6.out), HK6⟩
        · have hwne : wxs ≠ [] := ways_some (p := (⟨6, text, neg, ⟨ra, rc, rxs⟩, ⟨wa, wcap, wxs⟩⟩ : PartOf (P n))) rfl HBad.out
          have HT2 : Hid (out ++ txt (n + 1) d (xs.take (k + 1)) = oA ++ wTo (wxs.map (fun s => txt n true s.xs)) ++ [125]) := Lib.hid (by
            rw [List.append_assoc, wTo_end (by simpa using hwne), HT.out, ← HE.out]
            rfl)
          clear HT HE hwne
          obtain ⟨wo, rfl⟩ : ∃ wo : World, wo = wr := ⟨_, rfl⟩
          go_wp2_with fail
          clear q0 q1 q2 q3 q4 q5
          go_loopg [51] wxs.length (fun g i wx => ∃ j : Nat, j + g = wxs.length ∧ i = .int .i64 j ∧ Hid (Bld w0 b (oA ++ wTo ((wxs.take j).map (fun s => txt n true s.xs))) wx) ∧ Hid (Lib.OthersKept 5 (some b) w wx))
          case atStart => exact ⟨0, by omega, rfl, Lib.hid (by simpa [wTo] using HB5.out), HK5⟩
          case round =>
            clear HB5 HK5
            obtain ⟨j, hj, rfl, HB5, HK5⟩ := hrel
            by_cases hlt2 : j < wxs.length
            · obtain ⟨g2, rfl⟩ : ∃ g2, gk = g2 + 1 := ⟨gk - 1, by omega⟩
              obtain ⟨t, hx⟩ : ∃ t : Sl (P n), wxs[j]? = some t := ⟨_, List.getElem?_eq_getElem hlt2⟩
              obtain ⟨bw, ow, ha, hbw, r0⟩ := wayRow (HPo2.out.2.1.under HB5.out.below) hx
              have hmem := List.mem_of_getElem? hx
              have hto := HPo2.out.2.2 t hmem
              have hgo := HWs.out t hmem
              have HTj : Hid (oA ++ wTo ((wxs.take (j + 1)).map (fun s => txt n true s.xs)) = oA ++ wTo ((wxs.take j).map (fun s => txt n true s.xs)) ++ [if j = 0 then 123 else 44] ++ txt n true t.xs) := Lib.hid (by
                rw [wTo_step (f := fun s : Sl (P n) => txt n true s.xs) hx]
                simp only [List.append_assoc])
              have hbnd : (oA ++ wTo ((wxs.take j).map (fun s => txt n true s.xs))).length + 1 + 6 * szL n t.xs ≤ 1000000000 ∧ szL n t.xs ≤ 1048576 := by
                have h1 := wTo_len ((wxs.take j).map (fun s => txt n true s.xs))
                rw [List.map_map] at h1
                have h2 := sum_mono (xs := wxs.take j) (f := (fun x : List UInt8 => x.length + 1) ∘ (fun s : Sl (P n) => txt n true s.xs)) (g := fun s => 6 * (1 + szL n s.xs)) (fun s _ => by
                  have := txt_len n true s.xs
                  show (txt n true s.xs).length + 1 ≤ _
                  omega)
                have h3 : ((wxs.take (j + 1)).map (fun s => 6 * (1 + szL n s.xs))).sum = ((wxs.take j).map (fun s => 6 * (1 + szL n s.xs))).sum + 6 * (1 + szL n t.xs) := by
                  rw [take_map_snoc _ hx, List.sum_append]
                  simp
                have h4 : ((wxs.take (j + 1)).map (fun s => 6 * (1 + szL n s.xs))).sum ≤ (wxs.map (fun s => 6 * (1 + szL n s.xs))).sum := sum_take_le _ _ _
                have h5 : (wxs.map (fun s => 6 * (1 + szL n s.xs))).sum = 6 * (wxs.map (fun s => 1 + szL n s.xs)).sum := sum_six (fun s : Sl (P n) => szL n s.xs) _
                have h6 : 1 + szL n t.xs ≤ (wxs.map (fun s => 1 + szL n s.xs)).sum := le_sum (List.mem_map.2 ⟨t, hmem, rfl⟩)
                rw [List.length_append]
                omega
              obtain ⟨hb1, hb2⟩ := hbnd
              generalize oA ++ wTo ((wxs.take j).map (fun s => txt n true s.xs)) = o6 at *
              simp only [] at ha
              cases ha
              have hblt : b < wr.heap.size := HB5.out.lt
              clear hx hmem
              by_cases j0 : j = 0
              · have HTk : Hid (oA ++ wTo ((wxs.take (j + 1)).map (fun s => txt n true s.xs)) = o6 ++ [123] ++ txt n true t.xs) := Lib.hid (by rw [HTj.out, if_pos j0])
                subst j0
                rw [Nat.add_zero] at r0
                clear HTj
                go_wp2_with fail
                refine (writeByte_any (c := 123) rfl HB5.out (by omega)).mono ?_
                rintro e w6 ⟨rfl, hB6, hK6⟩
                have HB6 := Lib.hid hB6
                have HK6 := Lib.hid (HK5.out.trans hK6)
                have HC := Lib.hid (HIH.out t true w0 w6 b _ hB6 hto hgo hb2 (by rw [List.length_append]; simp; omega))
                clear r0 hB6 hK6 HB5 HK5
                go_wp2_with fail
                refine HC.out.mono ?_
                rintro e w7 ⟨rfl, hB7, hK7⟩
                have HB7 := Lib.hid hB7
                have HK7 := Lib.hid (HK6.out.trans hK7)
                clear hB7 hK7 HB6 HK6 HC
                go_wp2_with fail
                go_roundg g2
                case measure => omega
                case rel => exact ⟨0 + 1, by omega, by go_num, Lib.hid (by rw [HTk.out]; exact HB7.out), HK7⟩
              · have HTk : Hid (oA ++ wTo ((wxs.take (j + 1)).map (fun s => txt n true s.xs)) = o6 ++ [44] ++ txt n true t.xs) := Lib.hid (by rw [HTj.out, if_neg j0])
                have j1 : 1 ≤ j := by omega
                clear HTj j0
                go_wp2_with fail
                refine (writeByte_any (c := 44) (by rw [brace_at _ (by omega), if_neg (by omega)]; rfl) HB5.out (by omega)).mono ?_
                rintro e w6 ⟨rfl, hB6, hK6⟩
                have HB6 := Lib.hid hB6
                have HK6 := Lib.hid (HK5.out.trans hK6)
                have HC := Lib.hid (HIH.out t true w0 w6 b _ hB6 hto hgo hb2 (by rw [List.length_append]; simp; omega))
                clear r0 hB6 hK6 HB5 HK5
                go_wp2_with fail
                refine HC.out.mono ?_
                rintro e w7 ⟨rfl, hB7, hK7⟩
                have HB7 := Lib.hid hB7
                have HK7 := Lib.hid (HK6.out.trans hK7)
                clear hB7 hK7 HB6 HK6 HC
                go_wp2_with fail
                go_roundg g2
                case measure => omega
                case rel => exact ⟨j + 1, by omega, by go_num, Lib.hid (by rw [HTk.out]; exact HB7.out), HK7⟩
            · obtain rfl : j = wxs.length := by omega
              rw [List.take_of_length_le (Nat.le_refl _)] at HB5
              have hbnd : (oA ++ wTo (wxs.map (fun s => txt n true s.xs))).length + 1 ≤ 1000000000 := by
                have h1 := wTo_len (wxs.map (fun s => txt n true s.xs))
                rw [List.map_map] at h1
                have h2 := sum_mono (xs := wxs) (f := (fun x : List UInt8 => x.length + 1) ∘ (fun s : Sl (P n) => txt n true s.xs)) (g := fun s => 6 * (1 + szL n s.xs)) (fun s _ => by
                  have := txt_len n true s.xs
                  show (txt n true s.xs).length + 1 ≤ _
                  omega)
                have h5 : (wxs.map (fun s => 6 * (1 + szL n s.xs))).sum = 6 * (wxs.map (fun s => 1 + szL n s.xs)).sum := sum_six (fun s : Sl (P n) => szL n s.xs) _
                rw [List.length_append]
                omega
              go_wp2_with fail
              refine (writeByte_any (c := 125) rfl HB5.out (by omega)).mono ?_
              rintro e w6 ⟨rfl, hB6, hK6⟩
              have HB6 := Lib.hid hB6
              have HK6 := Lib.hid (HK5.out.trans hK6)
              clear hB6 hK6 HB5 HK5
              go_wp2_with fail
              go_roundg g
              case measure => omega
              case rel => exact ⟨k + 1, by omega, by go_num, Lib.hid (by rw [HT2.out]; exact HB6.out), HK6⟩
      · obtain rfl : k = xs.length := by omega
        rw [List.take_of_length_le (Nat.le_refl _)] at HB
        go_wp2_with fail
        go_end0
        exact ⟨rfl, HB.out, HK.out⟩
end Go.Proofs.YtnpcbcnclncniaaGreatDoor
