/-
  The reference's fraction; names.ParseSize.
-/
import Derived.Test.YtjfnkkpmmebnfaaDoorSize2
import Derived.Test.YtjfnkkpmmebnfaaDoorUnits
import Derived.Deep.DeepCutAuto
namespace Go.Proofs.YtjfnkkpmmebnfaaDoor
open Go.RowKit

theorem fracP_step {l : List UInt8} {k u : Nat} {x : UInt8} (hx : l[k]? = some x) : Wh.fracP (l.drop k) u = (Wh.fracP (l.drop (k + 1)) u + Wh.dv x * u) / 10 := by
  have h := List.getElem?_eq_some_iff.1 hx
  rw [List.drop_eq_getElem_cons h.1, h.2]
  rfl

theorem all_drop {l : List UInt8} (h : l.all Wh.digit = true) (k : Nat) : (l.drop k).all Wh.digit = true :=
  List.all_eq_true.2 fun x hx => List.all_eq_true.1 h x (List.mem_of_mem_drop hx)

set_option maxHeartbeats 1000000 in
set_option maxRecDepth 100000 in
theorem fraction_any (s : ByteArray) (u : Nat) (w : World) (hs : s.size ≤ 9223372036854775806) (hd : s.data.toList.all Wh.digit = true) (hu : u ≤ 1099511627776) :
    Calls Tryd.prog 97 #[.string s, .int .u64 u] w fun e w' => e = .returned (.int .u64 (Wh.fracP s.data.toList u : Nat)) ∧ w' = w := by
  have HD := Lib.hid hd
  have HSz := Lib.hid (Lib.size_eq s)
  clear hd
  go_enter Tryd.func97, Tryd.ntmps97
  go_wp2_with fail
  go_loopg [5, 6] s.size (fun g s5 s6 wx => ∃ c : Nat, g ≤ s.size ∧ c ≤ u ∧ s5 = .int .u64 c ∧ s6 = .int .i64 ((g : Int) - 1) ∧ wx = w ∧ Hid (Wh.fracP (s.data.toList.drop g) u = c))
  case atStart => exact ⟨0, by omega, by omega, rfl, rfl, rfl, Lib.hid (by rw [List.drop_eq_nil_of_le (by rw [← HSz.out]; exact Nat.le_refl _)]; rfl)⟩
  case round =>
    obtain ⟨c, hg, hc, rfl, rfl, hw, HF⟩ := hrel
    subst wr
    rcases gk with _ | g
    · have HK : Hid (Wh.fracP s.data.toList u = c) := HF
      go_wp2_with fail
      go_ret
      exact ⟨ret_int (by rw [HK.out]), rfl⟩
    · have hlt : g < s.size := by omega
      obtain ⟨x, hx⟩ : ∃ x : UInt8, s[g]'hlt = x := ⟨_, rfl⟩
      have hxl : s.data.toList[g]? = some x := by rw [← hx]; exact Lib.data_getElem? s g hlt
      have hdx : 48 ≤ x.toNat ∧ x.toNat ≤ 57 := by
        have := List.all_eq_true.1 HD.out x (List.mem_of_getElem? hxl)
        simpa [Wh.digit] using this
      obtain ⟨hd1, hd2⟩ := hdx
      have hst := fracP_step (u := u) hxl
      rw [HF.out] at hst
      have hle := Wh.fracP_le u (s.data.toList.drop g) (all_drop HD.out g)
      rw [hst] at hle
      have HSt := Lib.hid hst
      have hdv : Wh.dv x = x.toNat - 48 := rfl
      obtain ⟨p, hp⟩ : ∃ p : Nat, Wh.dv x * u = p := ⟨_, rfl⟩
      rw [hp] at hle HSt
      have hpl : p ≤ 9 * u := by rw [← hp, hdv]; exact Nat.mul_le_mul_right u (by omega)
      have hpe : ((x.toNat : Int) - 48) * (u : Int) = (p : Int) := by
        rw [← hp, hdv, Int.natCast_mul, Int.natCast_sub hd1]
        rfl
      have hgc : ((g + 1 : Nat) : Int) - 1 = (g : Int) := by omega
      clear hst hdv hp hxl HF
      rw [hgc]
      clear hgc
      go_wp2_with fail
      go_roundg g
      case measure => omega
      case rel => exact ⟨(c + p) / 10, by omega, hle, by rw [Nat.add_comm c p]; go_num, rfl, rfl, HSt⟩

theorem zeroInt (w : World) : (zeroValue 3).run Tryd.prog w = .ok (.int .i64 0) w := by kernel_rfl

theorem prefix_dot (l : List UInt8) : Lib.hasPrefix l [46] = decide (l.head? = some 46) := by
  unfold Lib.hasPrefix
  cases l with
  | nil => rfl
  | cons c r =>
    by_cases h : c = 46
    · subst h; simp
    · have h2 : ((46 : UInt8) == c) = false := by simpa using fun e => h e.symm
      simp [List.isPrefixOf, h, h2]

/-- The two ways to the end of names.ParseSize. -/
theorem parseSz_plain {l r : List UInt8} (hok : Wh.numOk (l.takeWhile Wh.digit) = true) (hr : r = l.dropWhile Wh.digit) (hp : Lib.hasPrefix r [46] = false) : Wh.parseSz l = Wh.sizeEnd (l.takeWhile Wh.digit) [] r := by
  unfold Wh.parseSz
  rw [prefix_dot] at hp
  rw [if_pos hok, ← hr, if_neg (of_decide_eq_false hp)]

theorem parseSz_dot {l r : List UInt8} (hok : Wh.numOk (l.takeWhile Wh.digit) = true) (hr : r = l.dropWhile Wh.digit) (hp : Lib.hasPrefix r [46] = true) :
    Wh.parseSz l = if (r.tail.takeWhile Wh.digit).isEmpty then (0, 9) else Wh.sizeEnd (l.takeWhile Wh.digit) (r.tail.takeWhile Wh.digit) (r.tail.dropWhile Wh.digit) := by
  unfold Wh.parseSz
  rw [prefix_dot] at hp
  rw [if_pos hok, ← hr, if_pos (of_decide_eq_true hp)]

theorem parseSz_bad {l : List UInt8} (hok : Wh.numOk (l.takeWhile Wh.digit) = false) : Wh.parseSz l = (0, 9) := by
  unfold Wh.parseSz
  rw [if_neg (by simp [hok])]

theorem takeWhile_len (l : List UInt8) : (l.takeWhile Wh.digit).length ≤ l.length := (List.takeWhile_sublist _).length_le
theorem dropWhile_len (l : List UInt8) : (l.dropWhile Wh.digit).length ≤ l.length := (List.dropWhile_sublist _).length_le

/-- What names.ParseSize returns. -/
def SizePost (l : List UInt8) (w : World) (e : Ending) (w' : World) : Prop := e = .returned (.tuple #[.int .i64 (Wh.parseSz l).1, .int .i64 (Wh.parseSz l).2]) ∧ Below w.heap.size w w'

theorem sizePost_of {l : List UInt8} {w w' : World} {a b : Int} (h : Wh.parseSz l = (a, b)) (hb : Below w.heap.size w w') : SizePost l w (.returned (.tuple #[.int .i64 a, .int .i64 b])) w' := by
  refine ⟨?_, hb⟩
  rw [h]

theorem sizeEnd_none {d fr r : List UInt8} (h : Wh.unitOf r = none) : Wh.sizeEnd d fr r = (0, 9) := by unfold Wh.sizeEnd; rw [h]
theorem sizeEnd_some {d fr r : List UInt8} {u : Nat} (h : Wh.unitOf r = some u) : Wh.sizeEnd d fr r = Wh.sizeFin d fr u := by unfold Wh.sizeEnd; rw [h]

set_option maxHeartbeats 4000000 in
set_option maxRecDepth 100000 in
theorem parseSize_any (s : ByteArray) (w : World) (hs : s.size ≤ 140737488355328) : Calls Tryd.prog 40 #[.string s] w (SizePost s.data.toList w) := by
  have HL := Lib.hid (fun W => leading_any s W (by omega))
  have HSz := Lib.hid (Lib.size_eq s)
  go_enter Tryd.func40, Tryd.ntmps40
  go_wp2_with fail
  refine (HL.out _).mono ?_
  rintro e w1 ⟨d, r, rfl, hd, hr, hb1⟩
  have Hd := Lib.hid hd
  have Hr := Lib.hid hr
  have hda : d.data.toList.all Wh.digit = true := by rw [hd, List.all_eq_true]; exact fun x hx => Wh.takeWhile_mem hx
  have hdl : d.size ≤ s.size := by rw [Lib.size_eq, Lib.size_eq, hd]; exact takeWhile_len _
  have hrl : r.size ≤ s.size := by rw [Lib.size_eq, Lib.size_eq, hr]; exact dropWhile_len _
  clear hd hr HL
  cases hok : Wh.numOk d.data.toList
  · have HN := Lib.hid (fun W => number_bad d W hok)
    have HK := Lib.hid (parseSz_bad (l := s.data.toList) (by rw [← Hd.out]; exact hok))
    clear hok
    go_wp2_with fail
    refine (HN.out _).mono ?_
    rintro e w2 ⟨rfl, hw2⟩
    subst w2
    go_wp2_with fail
    go_ret2
    exact sizePost_of HK.out hb1
  · have HN := Lib.hid (fun W => number_ok d W (by omega) hda hok)
    have HOk : Hid (Wh.numOk (s.data.toList.takeWhile Wh.digit) = true) := Lib.hid (by rw [← Hd.out]; exact hok)
    clear hok
    have hnv : Wh.numV d.data.toList ≤ 4611686018427387905 := by
      unfold Wh.numV
      split
      · rename_i h; exact Nat.le_succ_of_le h
      · exact Nat.le_refl _
    have HSt := Lib.hid (fun fr u hu => @Wh.size_steps d.data.toList fr u hu)
    generalize hNV : Wh.numV d.data.toList = NV at *
    clear hNV
    go_wp2_with fail
    refine (HN.out _).mono ?_
    rintro e w2 ⟨rfl, hw2⟩
    subst w2
    clear HN
    have HP := Lib.hid (fun W => Tryd.strings_HasPrefix r ⟨#[46]⟩ W)
    obtain ⟨PB, hPB⟩ : ∃ PB, Lib.hasPrefix r.data.toList [46] = PB := ⟨_, rfl⟩
    rw [hPB] at HP
    have HPB := Lib.hid hPB
    clear hPB
    go_upto_if 26 with (go_at_call 94; refine (HP.out _).mono ?_; rintro e w' ⟨rfl, hw'⟩; subst w')
    go_cut [5, 8] (fun s5 s8 wx => ∃ fr rest : ByteArray, s5 = .string rest ∧ s8 = .string fr ∧ fr.size ≤ s.size ∧ rest.size ≤ s.size ∧ Below w.heap.size w wx ∧ Hid (fr.data.toList.all Wh.digit = true ∧ Wh.parseSz s.data.toList = Wh.sizeEnd d.data.toList fr.data.toList rest.data.toList))
    case first =>
      cases PB
      · have HK := Lib.hid (parseSz_plain HOk.out Hr.out HPB.out)
        go_wp2_with fail
        go_meet
        exact ⟨⟨#[]⟩, r, rfl, rfl, Nat.zero_le _, hrl, hb1, Lib.hid ⟨rfl, by rw [HK.out, Hd.out]⟩⟩
      · have HK := Lib.hid (parseSz_dot HOk.out Hr.out HPB.out)
        have hr1 : 1 ≤ r.size := by
          have := HPB.out
          rw [prefix_dot] at this
          have h2 := of_decide_eq_true this
          rw [Lib.size_eq]
          cases hl : r.data.toList with
          | nil => rw [hl] at h2; simp at h2
          | cons _ _ => simp
        have hrI : (1 : Int) ≤ (r.size : Int) := by omega
        have ex : (r.extract 1 r.size).data.toList = r.data.toList.tail := by rw [Lib.extract_to_end]; exact List.drop_one
        have hel : (r.extract 1 r.size).size ≤ s.size := by rw [Lib.size_eq, ex, List.length_tail, ← Lib.size_eq]; omega
        have HL2 := Lib.hid (fun W => leading_any (r.extract 1 r.size) W (by omega))
        have HEx := Lib.hid ex
        clear ex
        go_wp2_with fail
        generalize r.extract 1 r.size = r1 at *
        refine (HL2.out _).mono ?_
        rintro e w3 ⟨fr, rest, rfl, h1, h2, hb3⟩
        have hfl : fr.size ≤ s.size := by rw [Lib.size_eq, h1]; refine Nat.le_trans (takeWhile_len _) ?_; rw [← Lib.size_eq]; exact hel
        have hrl2 : rest.size ≤ s.size := by rw [Lib.size_eq, h2]; refine Nat.le_trans (dropWhile_len _) ?_; rw [← Lib.size_eq]; exact hel
        have hfa : fr.data.toList.all Wh.digit = true := by rw [h1, List.all_eq_true]; exact fun x hx => Wh.takeWhile_mem hx
        have HK2 : Hid (Wh.parseSz s.data.toList = if fr.data.toList.isEmpty then (0, 9) else Wh.sizeEnd d.data.toList fr.data.toList rest.data.toList) := Lib.hid (by rw [HK.out, h1, h2, HEx.out, Hd.out])
        have HFa := Lib.hid hfa
        clear h1 h2 HK HEx HL2 hfa
        have qe := toList_isEmpty fr
        by_cases h0 : fr.size = 0
        · have q1 : fr.toList.isEmpty = true := by rw [qe]; simpa using h0
          have q2 : fr.toList = [] := List.isEmpty_iff.1 q1
          have HK3 : Hid (Wh.parseSz s.data.toList = (0, 9)) := Lib.hid (by
            rw [HK2.out, if_pos (by rw [← Lib.toList_data]; exact q1)])
          clear qe h0
          go_wp2_with fail
          go_ret2
          exact sizePost_of HK3.out (bTrans hb1 hb3)
        · have q1 : fr.toList.isEmpty = false := by rw [qe]; simpa using h0
          have HK3 : Hid (Wh.parseSz s.data.toList = Wh.sizeEnd d.data.toList fr.data.toList rest.data.toList) := Lib.hid (by
            rw [HK2.out, if_neg (by rw [← Lib.toList_data, q1]; simp)])
          clear qe h0
          go_wp2_with fail
          go_meet
          exact ⟨fr, rest, rfl, rfl, hfl, hrl2, bTrans hb1 hb3, Lib.hid ⟨HFa.out, HK3.out⟩⟩
    case rest =>
      obtain ⟨fr, rest, rfl, rfl, hfl, hrsl, hbc, HQ⟩ := hcut
      clear HP HPB HOk Hr HSz hb1
      obtain ⟨W1, W2, W3, W4, W5, W6, i1, i2, i3, i4, i5, i6, hown, hb6⟩ := units_made wc
      have hmm := @run_makeMap Tryd.prog
      have HOwn := Lib.hid hown
      clear hown
      obtain ⟨hu1, hu2⟩ := unit_look rest.data.toList
      have HU1 := Lib.hid hu1
      have HU2 := Lib.hid hu2
      clear hu1 hu2
      have hkey : keyOf Tryd.prog 9 (.string rest) = some (.string rest.data.toList) := by
        rw [keyOf_string Tryd.underlying9]
        simp only [mapKey, Tryd.underlying9]
        rw [if_pos (by unfold maxLen; omega)]
      have HKey := Lib.hid hkey
      clear hkey
      go_upto_region 11 with fail
      clear i1 i2 i3 i4 i5 i6 hmm
      go_upto_region 12 with (at_lookup; refine wpList_lookup_own_ok_int _ rfl _ _ 100 rfl 9 3 .i64 (Maps.string_keyed Tryd.underlying9) Tryd.underlying100 Tryd.underlying3 (zeroInt _) wc.heap.size 6 unitMap rfl HOwn.out _ _ rfl HKey.out ?_; intro c hat hwc; rw [HU1.out])
      have hce : c = (((Wh.unitOf rest.data.toList).getD 0 : Nat) : Int) := by
        have := HU2.out
        rw [hat] at this
        injection this with h1
        injection h1 with _ h2
      clear hat hwc HOwn HKey HU1 HU2
      subst hce
      have hbw := bTrans hbc hb6
      clear hb6 hbc
      cases hun : Wh.unitOf rest.data.toList with
      | none =>
        have HK : Hid (Wh.parseSz s.data.toList = (0, 9)) := Lib.hid (by rw [HQ.out.2, sizeEnd_none hun])
        go_wp2_with fail
        go_ret2
        exact sizePost_of HK.out hbw
      | some u =>
        obtain ⟨hup1, hup2⟩ := Wh.unit_pos hun
        have HK : Hid (Wh.parseSz s.data.toList = Wh.sizeFin d.data.toList fr.data.toList u) := Lib.hid (by rw [HQ.out.2, sizeEnd_some hun])
        have HFa := Lib.hid HQ.out.1
        have HFSz := Lib.hid (Lib.size_eq fr)
        obtain ⟨hst1, hst2⟩ := HSt.out fr.data.toList u hup1
        have HS1 := Lib.hid hst1
        have HS2 := Lib.hid hst2
        clear hst1 hst2 HSt HQ hun
        simp only [Option.isSome_some, Option.getD_some]
        go_wp2_with fail
        go_loopg [11, 12] fr.size (fun g s11 s12 wx => ∃ c : Nat, g ≤ fr.size ∧ c ≤ u ∧ s11 = .int .i64 c ∧ s12 = .int .i64 ((g : Int) - 1) ∧ wx = W6 ∧ Hid (Wh.fracP (fr.data.toList.drop g) u = c))
        case atStart => exact ⟨0, by omega, by omega, rfl, rfl, rfl, Lib.hid (by rw [List.drop_eq_nil_of_le (by rw [← HFSz.out]; exact Nat.le_refl _)]; rfl)⟩
        case round =>
          obtain ⟨c, hg, hc, rfl, rfl, hw, HF⟩ := hrel
          subst wr
          rcases gk with _ | g
          · have HFv : Hid (Wh.fracP fr.data.toList u = c) := HF
            rw [HFv.out] at HS1 HS2
            have HT := Lib.hid (fun W => times_any NV u W hup1 (by omega))
            have htl : Wh.timesV NV u ≤ 4611686018427387905 := by
              unfold Wh.timesV
              split
              · rename_i h; exact Nat.le_succ_of_le ((Nat.le_div_iff_mul_le hup1).1 h)
              · exact Nat.le_refl _
            generalize Wh.timesV NV u = T at *
            by_cases hbig : 4611686018427387904 < T + c
            · have HK2 : Hid (Wh.parseSz s.data.toList = (0, 7)) := Lib.hid (by rw [HK.out]; exact HS1.out hbig)
              clear HS1 HS2
              go_wp2_with (go_at_call 89; refine (HT.out _).mono ?_; rintro e w' ⟨rfl, hw'⟩; subst w')
              go_ret2
              exact sizePost_of HK2.out hbw
            · have HK2 : Hid (Wh.parseSz s.data.toList = (((T + c : Nat) : Int), 0)) := Lib.hid (by rw [HK.out]; exact HS2.out (Nat.not_lt.1 hbig))
              clear HS1 HS2
              go_wp2_with (go_at_call 89; refine (HT.out _).mono ?_; rintro e w' ⟨rfl, hw'⟩; subst w')
              go_ret2
              exact sizePost_of HK2.out hbw
          · have hlt : g < fr.size := by omega
            obtain ⟨x, hx⟩ : ∃ x : UInt8, fr[g]'hlt = x := ⟨_, rfl⟩
            have hxl : fr.data.toList[g]? = some x := by rw [← hx]; exact Lib.data_getElem? fr g hlt
            have hdx : 48 ≤ x.toNat ∧ x.toNat ≤ 57 := by
              have := List.all_eq_true.1 HFa.out x (List.mem_of_getElem? hxl)
              simpa [Wh.digit] using this
            obtain ⟨hd1, hd2⟩ := hdx
            have hst := fracP_step (u := u) hxl
            rw [HF.out] at hst
            have hle := Wh.fracP_le u (fr.data.toList.drop g) (all_drop HFa.out g)
            rw [hst] at hle
            have HSt := Lib.hid hst
            have hdv : Wh.dv x = x.toNat - 48 := rfl
            obtain ⟨p, hp⟩ : ∃ p : Nat, Wh.dv x * u = p := ⟨_, rfl⟩
            rw [hp] at hle HSt
            have hpl : p ≤ 9 * u := by rw [← hp, hdv]; exact Nat.mul_le_mul_right u (by omega)
            have hpe : ((x.toNat : Int) - 48) * (u : Int) = (p : Int) := by
              rw [← hp, hdv, Int.natCast_mul, Int.natCast_sub hd1]
              rfl
            have hgc : ((g + 1 : Nat) : Int) - 1 = (g : Int) := by omega
            clear hst hdv hp hxl HF
            rw [hgc]
            clear hgc
            go_wp2_with fail
            go_roundg g
            case measure => omega
            case rel => exact ⟨(c + p) / 10, by omega, hle, by go_num, rfl, rfl, HSt⟩
end Go.Proofs.YtjfnkkpmmebnfaaDoor
