/-
  The reference's ParseAge.
-/
import Derived.Test.YtjfnkkpmmebnfaaDoorAge1
import Derived.Test.YtjfnkkpmmebnfaaDoorSize2
namespace Go.Proofs.YtjfnkkpmmebnfaaDoor
open Go.RowKit

/-- Blocks that hold the words and the sizes. -/
def AgeBox (w : World) (b c : Nat) : Prop := b < w.heap.size ∧ c < w.heap.size ∧ ∀ k, k < 8 → w.cell? ⟨b, 0 + k, none⟩ = some (.string (uB k)) ∧ w.cell? ⟨c, k, none⟩ = some (.int .i64 (Wh.uSize k : Nat))

theorem AgeBox.under {w w' : World} {b c : Nat} (h : AgeBox w b c) (hb : Below w.heap.size w w') : AgeBox w' b c :=
  ⟨Nat.lt_of_lt_of_le h.1 hb.size, Nat.lt_of_lt_of_le h.2.1 hb.size, fun k hk => ⟨(hb.cell (p := ⟨b, 0 + k, none⟩) h.1).trans (h.2.2 k hk).1, (hb.cell (p := ⟨c, k, none⟩) h.2.1).trans (h.2.2 k hk).2⟩⟩

abbrev wordObj : Obj := .cells #[.string ⟨#[119]⟩, .string ⟨#[100]⟩, .string ⟨#[104]⟩, .string ⟨#[109]⟩, .string ⟨#[115]⟩, .string ⟨#[109, 115]⟩, .string ⟨#[117, 115]⟩, .string ⟨#[110, 115]⟩] 9
abbrev sizeObj : Obj := .cells #[.int .i64 604800000000000, .int .i64 86400000000000, .int .i64 3600000000000, .int .i64 60000000000, .int .i64 1000000000, .int .i64 1000000, .int .i64 1000, .int .i64 1] 3

theorem ageBox_new (w : World) : AgeBox ((w.alloc wordObj).alloc sizeObj) w.heap.size (w.heap.size + 1) := by
  refine ⟨by simp; omega, by simp, fun k hk => ⟨?_, ?_⟩⟩
  · rw [World.cell?_alloc_lt _ _ _ (by simp), World.cell?_alloc_at _ _ _ _ rfl]
    rcases (by omega : k = 0 ∨ k = 1 ∨ k = 2 ∨ k = 3 ∨ k = 4 ∨ k = 5 ∨ k = 6 ∨ k = 7) with rfl | rfl | rfl | rfl | rfl | rfl | rfl | rfl <;> rfl
  · rw [World.cell?_alloc_at _ _ _ _ (by simp)]
    rcases (by omega : k = 0 ∨ k = 1 ∨ k = 2 ∨ k = 3 ∨ k = 4 ∨ k = 5 ∨ k = 6 ∨ k = 7) with rfl | rfl | rfl | rfl | rfl | rfl | rfl | rfl <;> rfl

def AgesPost (w : World) (e : Ending) (w' : World) : Prop := ∃ b c, e = .returned (.tuple #[.slice (some ⟨b, 0, none⟩) 8 8, .slice (some ⟨c, 0, none⟩) 8 8]) ∧ AgeBox w' b c ∧ Below w.heap.size w w'

set_option maxHeartbeats 1000000 in
set_option maxRecDepth 100000 in
theorem ages_any (w : World) : Calls Tryd.prog 90 #[] w (AgesPost w) := by
  go_enter Tryd.func90, Tryd.ntmps90
  go_wp2_with fail
  go_ret2
  exact ⟨_, _, rfl, ageBox_new w, bAlloc (bAlloc (Below.refl _ _) _) _⟩

/-- strings.TrimLeft at the digits. -/
theorem trimLeft_digits (s : ByteArray) (w : World) :
    Calls Tryd.prog 91 #[.string s, .string ⟨#[48, 49, 50, 51, 52, 53, 54, 55, 56, 57]⟩] w fun e w' => e = .returned (.string ⟨(s.data.toList.dropWhile Wh.digit).toArray⟩) ∧ Below w.heap.size w w' := by
  have h := Any.strings_TrimLeft_laid Tryd.lays161 (by kernel_rfl) s ⟨#[48, 49, 50, 51, 52, 53, 54, 55, 56, 57]⟩ w (by decide) (fun j b hb => by
    have h : ([48, 49, 50, 51, 52, 53, 54, 55, 56, 57] : List UInt8).all (fun b => decide (b.toNat < 128)) = true := by decide
    exact of_decide_eq_true (List.all_eq_true.1 h b (List.mem_of_getElem? hb)))
  have e : Lib.trimLeftS s.data.toList [48, 49, 50, 51, 52, 53, 54, 55, 56, 57] = s.data.toList.dropWhile Wh.digit := by
    have e : (fun c => digitSet.contains c) = Wh.digit := by funext c; exact digitSet_contains c
    unfold Lib.trimLeftS
    rw [e]
  rw [← e]
  exact h

def words8 : List ByteArray := [uB 0, uB 1, uB 2, uB 3, uB 4, uB 5, uB 6, uB 7]

theorem words8_get {j : Nat} (h : j < 8) : words8.getD j ByteArray.empty = uB j := by
  rcases (by omega : j = 0 ∨ j = 1 ∨ j = 2 ∨ j = 3 ∨ j = 4 ∨ j = 5 ∨ j = 6 ∨ j = 7) with rfl | rfl | rfl | rfl | rfl | rfl | rfl | rfl <;> rfl

theorem div_lt {U V : Int} (hU : 0 < U) : (4611686018427387904 : Int) / U < V ↔ 4611686018427387904 < V * U := Int.ediv_lt_iff_lt_mul hU

theorem uB_eq {k : Nat} {x : ByteArray} : uB k = x ↔ Wh.uWord k = x.data.toList := by
  constructor
  · rintro rfl; exact (uB_data k).symm
  · intro h
    apply ByteArray.ext
    apply Array.ext'
    rw [uB_data]
    exact h

theorem idx_some {x : ByteArray} {k : Nat} (h : Wh.findU x.data.toList 0 = some k) : Lib.idxOfS (words8.take 8) x = k := by
  obtain ⟨_, h2, h3⟩ := Wh.findU_some h
  refine Lib.idxOfS_hit words8 8 k x h2 (by decide) (by rw [words8_get h2]; exact uB_eq.2 h3) (fun j hj => ?_)
  rw [words8_get (by omega)]
  intro he
  have := Wh.uWord_inj (by omega) h2 ((uB_eq.1 he).trans h3.symm)
  omega

theorem idx_none {x : ByteArray} (h : Wh.findU x.data.toList 0 = none) : Lib.idxOfS (words8.take 8) x = -1 := by
  refine Lib.idxOfS_miss words8 8 x (fun j hj => ?_)
  rw [words8_get hj]
  intro he
  exact Wh.findU_none h j (Nat.zero_le _) hj (uB_eq.1 he)

theorem find_from {w : List UInt8} {next k : Nat} (h : Wh.findU w 0 = some k) : (next ≤ k → Wh.findU w next = some k) ∧ (k < next → Wh.findU w next = none) := by
  obtain ⟨_, h2, h3⟩ := Wh.findU_some h
  refine ⟨fun hn => Wh.findU_at hn h2 h3, fun hn => Wh.findU_miss (fun j h4 h5 h6 => ?_)⟩
  have := Wh.uWord_inj h5 h2 (h6.trans h3.symm)
  omega

theorem find_never {w : List UInt8} {next : Nat} (h : Wh.findU w 0 = none) : Wh.findU w next = none := Wh.findU_miss (fun j _ h5 => Wh.findU_none h j (Nat.zero_le _) h5)

theorem num_cases {t BD : ByteArray} {n : Nat} (hBD : BD.data.toList = t.data.toList.take n) (hn : n ≤ t.size) :
    (n = 0 ∧ Wh.numOk BD.data.toList = false) ∨ (1 < n ∧ (∃ h : 0 < t.size, ((t[0]'h).toNat : Int) == 48) ∧ Wh.numOk BD.data.toList = false) ∨ (n = 1 ∧ Wh.numOk BD.data.toList = true) ∨ (1 < n ∧ (∃ h : 0 < t.size, (((t[0]'h).toNat : Int) == 48) = false) ∧ Wh.numOk BD.data.toList = true) := by
  have hl : BD.data.toList.length = n := by rw [hBD, List.length_take, ← Lib.size_eq]; omega
  rcases Nat.eq_zero_or_pos n with h0 | h0
  · refine .inl ⟨h0, ?_⟩
    have : BD.data.toList = [] := List.eq_nil_of_length_eq_zero (by omega)
    rw [this]
    rfl
  · have hp : 0 < t.size := by omega
    have hh : BD.data.toList.head? = some (t[0]'hp) := by
      rw [hBD, List.head?_take, if_neg (by omega), head_at hp]
    have he : BD.data.toList.isEmpty = false := by
      cases hx : BD.data.toList with
      | nil => rw [hx] at hl; simp at hl; omega
      | cons _ _ => rfl
    unfold Wh.numOk
    rw [he, hh, hl]
    rcases (by omega : n = 1 ∨ 1 < n) with h1 | h1
    · exact .inr (.inr (.inl ⟨h1, by simp [h1]⟩))
    · by_cases h48 : t[0]'hp = 48
      · exact .inr (.inl ⟨h1, ⟨hp, by rw [h48]; rfl⟩, by simp [h1, h48]⟩)
      · refine .inr (.inr (.inr ⟨h1, ⟨hp, ?_⟩, by simp [h48]⟩))
        rw [beq_eq_false_iff_ne]
        intro h
        apply h48
        apply UInt8.toNat_inj.1
        have : (t[0]'hp).toNat = 48 := by omega
        rw [this]
        rfl

set_option maxHeartbeats 1200000 in
set_option maxRecDepth 100000 in
theorem refParseAge_any (s : ByteArray) (w : World) (hE : EnvE w) (hs : s.size ≤ 140737488355328) : Calls Tryd.prog 37 #[.string s] w (AgePost s.data.toList w) := by
  have qs := toList_isEmpty s
  have HE := Lib.hid hE
  clear hE
  by_cases h0 : s.size = 0
  · have q1 : s.toList.isEmpty = true := by rw [qs]; simpa using h0
    have q2 : s.toList = [] := List.isEmpty_iff.1 q1
    have HK : Hid (Wh.parseAg s.data.toList = (0, 9)) := Lib.hid (by
      unfold Wh.parseAg
      rw [if_pos (by rw [← Lib.toList_data]; exact q2)])
    clear qs h0
    go_enter Tryd.func37, Tryd.ntmps37
    go_wp2_with fail
    go_ret2
    exact agePost_of HK.out (Below.refl _ _)
  · have q1 : s.toList.isEmpty = false := by rw [qs]; simpa using h0
    have hne : s.data.toList ≠ [] := fun e => h0 (by rw [Lib.size_eq, e]; rfl)
    obtain ⟨R, hR⟩ : ∃ R, Wh.ageGo Wh.lowerL s.size s.data.toList 0 0 = R := ⟨_, rfl⟩
    have HK : Hid (Wh.parseAg s.data.toList = Wh.ageEnd R) := Lib.hid (by
      unfold Wh.parseAg
      rw [if_neg hne, Wh.ageGo_same _ _ _ _ (Nat.le_refl _), ← hR, Lib.size_eq])
    have HR0 := Lib.hid hR
    clear qs h0 hne hR
    go_enter Tryd.func37, Tryd.ntmps37
    go_wp2_with (go_at_call 90; refine (ages_any _).mono ?_; rintro e w1 ⟨ub, uc, rfl, hU, hb1⟩; have HU := Lib.hid hU; clear hU)
    go_loopg [0, 6, 7, 8] s.size (fun g s0 s6 s7 s8 wx => ∃ (t : ByteArray) (next tot : Nat) (S : Int) (ov : Bool), s0 = .string t ∧ s6 = .int .i64 ((next : Int) - 1) ∧ s7 = .int .u64 S ∧ s8 = .bool ov ∧ next ≤ 8 ∧ t.size ≤ g ∧ t.size ≤ s.size ∧ 0 ≤ S ∧ S ≤ 4611686018427387904 ∧ Below w1.heap.size w1 wx ∧ Hid (((ov = false ∧ S = (tot : Int)) ∨ (ov = true ∧ 4611686018427387904 < tot)) ∧ Wh.ageGo Wh.lowerL g t.data.toList next tot = R))
    case atStart => exact ⟨s, 0, 0, 0, false, rfl, rfl, rfl, rfl, by omega, Nat.le_refl _, Nat.le_refl _, by omega, by omega, Below.refl _ _, Lib.hid ⟨.inl ⟨rfl, rfl⟩, HR0.out⟩⟩
    case round =>
      obtain ⟨t, next, tot, S, ov, rfl, rfl, rfl, rfl, hn8, htg, hts, hS0, hS1, hbr, HQ⟩ := hrel
      have qt := toList_isEmpty t
      by_cases ht0 : t.size = 0
      · have p1 : t.toList.isEmpty = true := by rw [qt]; simpa using ht0
        have p2 : t.toList = [] := List.isEmpty_iff.1 p1
        have HRv : Hid (R = some tot) := Lib.hid (by
          have h1 := HQ.out.2
          have h2 : t.data.toList = [] := by rw [← Lib.toList_data]; exact p2
          rw [h2, Wh.ageGo_nil] at h1
          exact h1.symm)
        clear qt ht0
        cases ov
        · have HKv : Hid (Wh.parseAg s.data.toList = (S, 0)) := Lib.hid (by
            have h1 : S = (tot : Int) := by
              rcases HQ.out.1 with h | h
              · exact h.2
              · simp at h
            rw [HK.out, HRv.out]
            show (if tot ≤ 4611686018427387904 then ((tot : Int), (0 : Int)) else (0, 7)) = _
            rw [if_pos (by omega), h1])
          go_wp2_with fail
          go_ret2
          exact agePost_of HKv.out (bTrans hb1 hbr)
        · have HKv : Hid (Wh.parseAg s.data.toList = (0, 7)) := Lib.hid (by
            have h1 : 4611686018427387904 < tot := by
              rcases HQ.out.1 with h | h
              · simp at h
              · exact h.2
            rw [HK.out, HRv.out]
            show (if tot ≤ 4611686018427387904 then ((tot : Int), (0 : Int)) else (0, 7)) = _
            rw [if_neg (by omega)])
          go_wp2_with fail
          go_ret2
          exact agePost_of HKv.out (bTrans hb1 hbr)
      · have p1 : t.toList.isEmpty = false := by rw [qt]; simpa using ht0
        have p3 : ¬ t.toList = [] := fun e => by rw [e] at p1; simp at p1
        have hne : t.data.toList ≠ [] := by rw [← Lib.toList_data]; exact p3
        obtain ⟨g, rfl⟩ : ∃ g, gk = g + 1 := ⟨gk - 1, by omega⟩
        have HNe := Lib.hid hne
        have HL := Lib.hid (fun W => trimLeft_digits t W)
        obtain ⟨n, hn⟩ : ∃ n, (t.data.toList.takeWhile Wh.digit).length = n := ⟨_, rfl⟩
        obtain ⟨hw1, hw2, hw3⟩ := while_len Wh.digit t.data.toList
        rw [hn] at hw1 hw2 hw3
        have hnt : n ≤ t.size := by rw [Lib.size_eq]; exact hw3
        obtain ⟨TR, hTR⟩ : ∃ TR : ByteArray, (⟨(t.data.toList.dropWhile Wh.digit).toArray⟩ : ByteArray) = TR := ⟨_, rfl⟩
        have hTRs : TR.size = t.size - n := by
          rw [← hTR, Lib.size_eq, Lib.size_eq t]
          show (t.data.toList.dropWhile Wh.digit).length = _
          rw [hw2, List.length_drop]
        rw [hTR] at HL
        have HW1 := Lib.hid hw1
        have HW2 := Lib.hid hw2
        have hsub : (t.size : Int) - (TR.size : Int) = (n : Int) := by omega
        obtain ⟨m, hm⟩ : ∃ m, ((t.data.toList.dropWhile Wh.digit).takeWhile Wh.lowerL).length = m := ⟨_, rfl⟩
        have hml : n + m ≤ t.size := by
          rw [← hm, Lib.size_eq]
          have := (while_len Wh.lowerL (t.data.toList.dropWhile Wh.digit)).2.2
          rw [hw2, List.length_drop] at this
          rw [hw2]
          omega
        have HM := Lib.hid hm
        clear qt ht0 hne hn hw1 hw2 hw3 hTR hTRs hm
        go_wp2_with (go_at_call 91; refine (HL.out _).mono ?_; rintro e w2 ⟨rfl, hb2⟩)
        replace hbr := bTrans hbr hb2
        clear hb2 HL hsub
        obtain ⟨wo, hwo⟩ : ∃ wo : World, wo = w2 := ⟨_, rfl⟩
        subst hwo
        go_loopg [10] m (fun g2 s10 wx => ∃ i : Nat, i + g2 = n + m ∧ n ≤ i ∧ s10 = .int .i64 i ∧ wx = wo)
        case atStart => exact ⟨n, by omega, Nat.le_refl _, rfl, rfl⟩
        case round =>
          obtain ⟨i, hi, hni, rfl, hw⟩ := hrel
          subst wr
          by_cases hlt : i < n + m
          · obtain ⟨g2, rfl⟩ : ∃ g2, gk = g2 + 1 := ⟨gk - 1, by omega⟩
            have hlt2 : i < t.size := by omega
            obtain ⟨x, hx⟩ : ∃ x : UInt8, t[i]'hlt2 = x := ⟨_, rfl⟩
            have hxl : t.data.toList[i]? = some x := by rw [← hx]; exact Lib.data_getElem? t i hlt2
            have hlx : 97 ≤ x.toNat ∧ x.toNat ≤ 122 := by
              obtain ⟨y, hy, hly⟩ := while_in (p := Wh.lowerL) (l := t.data.toList.dropWhile Wh.digit) (i := i - n) (by rw [HM.out]; omega)
              rw [HW2.out, List.getElem?_drop, (by omega : n + (i - n) = i), hxl] at hy
              cases hy
              simpa [Wh.lowerL] using hly
            obtain ⟨l1, l2⟩ := hlx
            clear hxl
            go_wp2_with fail
            go_roundg g2
            case measure => omega
            case rel => exact ⟨i + 1, by omega, by omega, by go_num, rfl⟩
          · have him : i = n + m := by omega
            have hout : t.size ≤ i ∨ ∃ h : i < t.size, (t[i]'h).toNat < 97 ∨ 122 < (t[i]'h).toNat := by
              rcases Nat.lt_or_ge i t.size with h | h
              · refine .inr ⟨h, ?_⟩
                have h1 : Wh.lowerL (t[i]'h) = false := while_out (p := Wh.lowerL) (l := t.data.toList.dropWhile Wh.digit) (by
                  rw [HM.out, HW2.out, List.getElem?_drop, ← him]
                  exact Lib.data_getElem? t i h)
                simp [Wh.lowerL] at h1
                omega
              · exact .inl h
            obtain ⟨BW, hBW⟩ : ∃ BW : ByteArray, t.extract n i = BW := ⟨_, rfl⟩
            obtain ⟨BD, hBD⟩ : ∃ BD : ByteArray, t.extract 0 n = BD := ⟨_, rfl⟩
            obtain ⟨RE, hRE⟩ : ∃ RE : ByteArray, t.extract i t.size = RE := ⟨_, rfl⟩
            have hBWd : BW.data.toList = (t.data.toList.dropWhile Wh.digit).takeWhile Wh.lowerL := by
              rw [← hBW, (while_len Wh.lowerL (t.data.toList.dropWhile Wh.digit)).1, HM.out, HW2.out, him]
              simp [List.take_drop]
            have hBDd : BD.data.toList = t.data.toList.takeWhile Wh.digit := by
              rw [← hBD, HW1.out]
              simp
            have hREd : RE.data.toList = (t.data.toList.dropWhile Wh.digit).dropWhile Wh.lowerL := by
              rw [← hRE, (while_len Wh.lowerL (t.data.toList.dropWhile Wh.digit)).2.1, HM.out, HW2.out, List.drop_drop, ← him]
              exact Lib.extract_to_end t i
            have hBDs : BD.size = n := by rw [← hBD]; simp; omega
            have HBW := Lib.hid hBW
            have HBD := Lib.hid hBD
            have HRE := Lib.hid hRE
            have HBWd := Lib.hid hBWd
            have HBDd := Lib.hid hBDd
            have HREd := Lib.hid hREd
            have HBDs := Lib.hid hBDs
            clear hBW hBD hRE hBWd hBDd hREd hBDs hlt hi
            have n0 : (0 : Int) ≤ (n : Int) := by omega
            have n1 : (n : Int) ≤ (i : Int) := by omega
            have n2 : (i : Int) ≤ (t.size : Int) := by omega
            have n3 : (n : Int) ≤ (t.size : Int) := by omega
            obtain ⟨wq, hwq⟩ : ∃ wq : World, wq = wo := ⟨_, rfl⟩
            subst hwq
            have HIx := Lib.hid (Tryd.slices_Index_string ub 0 8 8 words8 BW wq (by decide) (by omega) (fun j hj => by
              have h8 : j < 8 := hj
              rw [words8_get h8]
              exact ((HU.out.under hbr).2.2 j h8).1))
            obtain ⟨KI, hKI⟩ : ∃ KI : Int, Lib.idxOfS (words8.take 8) BW = KI := ⟨_, rfl⟩
            rw [hKI] at HIx
            have HKI := Lib.hid hKI
            have hki : (-1 : Int) ≤ KI ∧ KI < 8 := by
              rw [← hKI]
              cases hf : Wh.findU BW.data.toList 0 with
              | none => rw [idx_none hf]; omega
              | some k => rw [idx_some hf]; have := (Wh.findU_some hf).2.1; omega
            obtain ⟨hki0, hki1⟩ := hki
            clear hKI HM
            have hbW := HBW.out
            clear him
            have HNC := Lib.hid (num_cases (t := t) (BD := BD) (n := n) (by rw [HBDd.out, HW1.out]) hnt)
            rcases hout with hout | ⟨hlt2, hlx⟩
            case' inr =>
              obtain ⟨x, hx⟩ : ∃ x : UInt8, t[i]'hlt2 = x := ⟨_, rfl⟩
              rw [hx] at hlx
              rcases hlx with hlx | hlx
              all_goals go_wp2_with fail
            case' inl =>
              go_wp2_with fail
            all_goals
              refine HIx.out.mono ?_
              rintro e w' ⟨rfl, hw'⟩
              subst w'
              by_cases hok : Wh.numOk BD.data.toList = true
              · have hc : n = 1 ∨ (1 < n ∧ ∃ h : 0 < t.size, (((t[0]'h).toNat : Int) == 48) = false) := by
                  rcases HNC.out with ⟨_, hx⟩ | ⟨_, _, hx⟩ | ⟨hn0, _⟩ | ⟨hn0, h48, _⟩
                  · rw [hx] at hok; cases hok
                  · rw [hx] at hok; cases hok
                  · exact .inl hn0
                  · exact .inr ⟨hn0, h48⟩
                have HOk : Hid (Wh.numOk (t.data.toList.takeWhile Wh.digit) = true) := Lib.hid (by rw [← HBDd.out]; exact hok)
                have e0 : ¬ (n : Int) = 0 := by omega
                clear HNC hok
                by_cases hkn : KI ≤ (next : Int) - 1
                · have HKv : Hid (Wh.parseAg s.data.toList = (0, 9)) := Lib.hid (by
                    have hf : Wh.findU BW.data.toList next = none := by
                      cases hf : Wh.findU BW.data.toList 0 with
                      | none => exact find_never hf
                      | some k =>
                        have h1 := HKI.out
                        rw [idx_some hf] at h1
                        exact (find_from hf).2 (by omega)
                    rw [HK.out, ← HQ.out.2, Wh.ageGo_miss HNe.out (by rw [← HBWd.out]; exact hf)]
                    rfl)
                  rcases hc with hn1 | ⟨hn1, hp, h48⟩
                  · have e1 : ¬ (1 : Int) < (n : Int) := by omega
                    clear hn1
                    go_wp2_with fail
                    go_ret2
                    exact agePost_of HKv.out (bTrans hb1 hbr)
                  · have e1 : (1 : Int) < (n : Int) := by omega
                    clear hn1
                    go_wp2_with fail
                    go_ret2
                    exact agePost_of HKv.out (bTrans hb1 hbr)
                · obtain ⟨k, hKk, hk8, hfu⟩ : ∃ k : Nat, KI = (k : Int) ∧ k < 8 ∧ Wh.findU BW.data.toList next = some k := by
                    cases hf : Wh.findU BW.data.toList 0 with
                    | none =>
                      have h1 := HKI.out
                      rw [idx_none hf] at h1
                      omega
                    | some k =>
                      have h1 := HKI.out
                      rw [idx_some hf] at h1
                      exact ⟨k, h1.symm, (Wh.findU_some hf).2.1, (find_from hf).1 (by omega)⟩
                  subst hKk
                  have HSt : Hid (Wh.ageGo Wh.lowerL g RE.data.toList (k + 1) (tot + Wh.dval BD.data.toList * Wh.uSize k) = R) := Lib.hid (by
                    have h1 := HQ.out.2
                    rw [Wh.ageGo_step HNe.out HOk.out (by rw [← HBWd.out]; exact hfu), ← HBDd.out] at h1
                    rw [HREd.out]
                    exact h1)
                  have hrs : RE.size ≤ g ∧ RE.size ≤ s.size := by
                    have h1 := Wh.age_shorter (p := Wh.lowerL) HOk.out
                    rw [← HREd.out, ← Lib.size_eq, ← Lib.size_eq] at h1
                    omega
                  have HDa : Hid (BD.data.toList.all Wh.digit = true) := Lib.hid (by rw [HBDd.out, List.all_eq_true]; exact fun x hx => Wh.takeWhile_mem hx)
                  obtain ⟨u1, u2⟩ := Wh.uSize_pos k
                  have hBDn : ¬ BD.size = 0 := by rw [HBDs.out]; omega
                  have hBDm : BD.size ≤ 140737488355328 := by rw [HBDs.out]; omega
                  have HPU := Lib.hid (fun W => parseUint63_ok BD W hBDn (by omega) HDa.out)
                  have HPB := Lib.hid (fun W hE => parseUint63_big BD W hE hBDn (by omega) HDa.out)
                  have HUc : Hid (∀ W, Below w1.heap.size w1 W → W.cell? ⟨uc, k, none⟩ = some (.int .i64 (Wh.uSize k : Nat))) := Lib.hid (fun W hb => ((HU.out.under hb).2.2 k hk8).2)
                  generalize Wh.dval BD.data.toList = DV at *
                  generalize Wh.uSize k = US at *
                  obtain ⟨D, hD⟩ : ∃ D, DV * US = D := ⟨_, rfl⟩
                  rw [hD] at HSt
                  obtain ⟨V, hV⟩ : ∃ V : Int, (DV : Int) = V := ⟨_, rfl⟩
                  obtain ⟨U, hU⟩ : ∃ U : Int, (US : Int) = U := ⟨_, rfl⟩
                  have hP : V * U = (D : Int) := by rw [← hV, ← hU, ← hD]; simp
                  rw [hU] at HUc
                  rw [hV] at HPU
                  have hDV : DV ≤ D := by rw [← hD]; exact Nat.le_mul_of_pos_right _ u1
                  have U1 : 1 ≤ U := by omega
                  have U2 : U ≤ 604800000000000 := by omega
                  have V0 : 0 ≤ V := by omega
                  have HQ1 := Lib.hid HQ.out.1
                  have hbD := HBD.out
                  have hrE := HRE.out
                  have hk0 : (0 : Int) ≤ (k : Int) := by omega
                  have hk1 : (k : Int) < 8 := by omega
                  have hkn2 : ¬ (k : Int) < (next : Int) := by omega
                  have hkn3 : ¬ k < next := by omega
                  have e0b : ((n : Int) == 0) = false := by simpa using e0
                  clear HQ HK HIx HKI hki0 hki1 hfu HBDs hBDn hBDm HBWd HBDd HREd HW1 HW2 HOk HDa hU hD
                  rcases hc with hn1 | ⟨hn1, hp, h48⟩
                  case' inl =>
                    have e1 : ¬ (1 : Int) < (n : Int) := by omega
                    clear hn1
                    go_wp2_with fail
                  case' inr =>
                    have e1 : (1 : Int) < (n : Int) := by omega
                    clear hn1
                    go_wp2_with fail
                  any_goals try (exfalso; rename_i hbad; simp [e0b, hkn2, hkn3] at hbad; done)
                  any_goals try (exfalso; rename_i hbad; simp [e0b] at hbad; omega)
                  all_goals
                    by_cases hbig : DV < 9223372036854775808
                    · refine (HPU.out _ hbig).mono ?_
                      rintro e w5 ⟨rfl, hb5⟩
                      replace hbr := bTrans hbr hb5
                      have hcell := HUc.out _ hbr
                      have V1 : V < 9223372036854775808 := by omega
                      clear HPU HPB HUc hb5
                      by_cases hov : 4611686018427387904 / U < V
                      · have HN2 : Hid (4611686018427387904 < tot + D) := Lib.hid (by
                          have := (div_lt (by omega)).1 hov
                          omega)
                        clear hP hV
                        go_wp2_with fail
                        go_quiet (fail)
                        go_wp2_with fail
                        go_roundg g
                        case measure => omega
                        case rel => exact ⟨RE, k + 1, tot + D, S, true, rfl, by go_num, rfl, rfl, by omega, hrs.1, hrs.2, hS0, hS1, bDrewN hbr _, Lib.hid ⟨.inr ⟨rfl, HN2.out⟩, HSt.out⟩⟩
                      · have hPl : (D : Int) ≤ 4611686018427387904 := by
                          rw [← hP]
                          exact Int.not_lt.1 (fun h => hov ((div_lt (by omega)).2 h))
                        obtain ⟨P, hPD⟩ : ∃ P : Int, (D : Int) = P := ⟨_, rfl⟩
                        rw [hPD] at hP hPl
                        have HPD := Lib.hid hPD
                        have hP0 : 0 ≤ P := by omega
                        clear hPD hDV hV
                        by_cases hsum : 4611686018427387904 < S + P
                        · have HN2 : Hid (4611686018427387904 < tot + D) := Lib.hid (by
                            have := HPD.out
                            rcases HQ1.out with h | h <;> omega)
                          go_wp2_with fail
                          go_quiet (fail)
                          go_wp2_with fail
                          go_roundg g
                          case measure => omega
                          case rel => exact ⟨RE, k + 1, tot + D, 0, true, rfl, by go_num, rfl, rfl, by omega, hrs.1, hrs.2, by omega, by omega, bDrewN hbr _, Lib.hid ⟨.inr ⟨rfl, HN2.out⟩, HSt.out⟩⟩
                        · have HN2 : Hid ((ov = false ∧ S + P = ((tot + D : Nat) : Int)) ∨ (ov = true ∧ 4611686018427387904 < tot + D)) := Lib.hid (by
                            have := HPD.out
                            rcases HQ1.out with h | h
                            · exact .inl ⟨h.1, by omega⟩
                            · exact .inr ⟨h.1, by omega⟩)
                          go_wp2_with fail
                          go_quiet (fail)
                          go_wp2_with fail
                          go_roundg g
                          case measure => omega
                          case rel => exact ⟨RE, k + 1, tot + D, S + P, ov, rfl, by go_num, rfl, rfl, by omega, hrs.1, hrs.2, by omega, by omega, bDrewN hbr _, Lib.hid ⟨HN2.out, HSt.out⟩⟩
                    · refine (HPB.out _ (HE.out.under (bTrans hb1 hbr)) hbig).mono ?_
                      rintro e w5 ⟨ad, rfl, hb5⟩
                      replace hbr := bTrans hbr hb5
                      have HN2 : Hid (4611686018427387904 < tot + D) := Lib.hid (by omega)
                      clear HPU HPB HUc hb5 hP
                      go_wp2_with fail
                      go_quiet (fail)
                      go_wp2_with fail
                      go_roundg g
                      case measure => omega
                      case rel => exact ⟨RE, k + 1, tot + D, S, true, rfl, by go_num, rfl, rfl, by omega, hrs.1, hrs.2, hS0, hS1, bDrewN hbr _, Lib.hid ⟨.inr ⟨rfl, HN2.out⟩, HSt.out⟩⟩
              · have HKv : Hid (Wh.parseAg s.data.toList = (0, 9)) := Lib.hid (by
                  rw [HK.out, ← HQ.out.2, Wh.ageGo_bad HNe.out (by rw [← HBDd.out]; simpa using hok)]
                  rfl)
                rcases HNC.out with ⟨hn0, _⟩ | ⟨hn0, ⟨hp, h48⟩, _⟩ | ⟨_, hx⟩ | ⟨_, _, hx⟩
                · have e0 : (n : Int) = 0 := by omega
                  clear hok hn0
                  go_wp2_with fail
                  go_ret2
                  exact agePost_of HKv.out (bTrans hb1 hbr)
                · have e0 : ¬ (n : Int) = 0 := by omega
                  have e1 : (1 : Int) < (n : Int) := by omega
                  clear hok hn0
                  go_wp2_with fail
                  go_ret2
                  exact agePost_of HKv.out (bTrans hb1 hbr)
                · exact absurd hx hok
                · exact absurd hx hok
end Go.Proofs.YtjfnkkpmmebnfaaDoor
