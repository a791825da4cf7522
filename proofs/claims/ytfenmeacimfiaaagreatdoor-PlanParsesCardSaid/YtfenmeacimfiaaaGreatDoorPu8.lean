/-
  strconv.ParseUint at base 8 and 8 bits, at a text of three bytes at most.
-/
import Derived.Test.YtfenmeacimfiaaaGreatDoorPl1
import Derived.Test.YtfenmeacimfiaaaGreatDoorFold
import Derived.Lib.ConvBytes
namespace Go.Proofs.YtfenmeacimfiaaaGreatDoor
open Go.RowKit

/-- The library's error variables hold values of an interface type. -/
def EnvX (w : World) : Prop := (∃ ev, w.cell? ⟨3, 0, none⟩ = some ev ∧ (ev = .nilIface ∨ ∃ te pe, ev = .iface te pe)) ∧ (∃ ev, w.cell? ⟨2, 0, none⟩ = some ev ∧ (ev = .nilIface ∨ ∃ te pe, ev = .iface te pe))
theorem EnvX.under {w w' : World} (h : EnvX w) (hb : Below w.heap.size w w') : EnvX w' := by
  obtain ⟨⟨ev, h1, h2⟩, eu, h3, h4⟩ := h
  exact ⟨⟨ev, by rw [hb.cell (p := ⟨3, 0, none⟩) (cell_lt (p := ⟨3, 0, none⟩) h1)]; exact h1, h2⟩, eu, by rw [hb.cell (p := ⟨2, 0, none⟩) (cell_lt (p := ⟨2, 0, none⟩) h3)]; exact h3, h4⟩

/-- What the library's inner function returns. -/
def U8Post (l : List UInt8) (w : World) (e : Ending) (w' : World) : Prop :=
  ((∃ n : Nat, Wh.octVal l = some n ∧ e = .returned (.tuple #[.int .u64 n, .nilIface])) ∨ (Wh.octVal l = none ∧ ∃ (x k : Int), (k = 1 ∨ k = 2) ∧ e = .returned (.tuple #[.int .u64 x, .iface 267 (.int .i64 k)]))) ∧ Below w.heap.size w w'

theorem octVal_bad {l : List UInt8} {c : UInt8} (h : c ∈ l) (hc : Wh.octD c = false) : Wh.octVal l = none := by
  unfold Wh.octVal
  rw [if_neg]
  rintro ⟨_, h2, _⟩
  have := List.all_eq_true.1 h2 c h
  rw [hc] at this
  cases this
theorem oval_mono : ∀ (b a : List UInt8), Wh.oval a ≤ Wh.oval (a ++ b)
  | [], a => by simp
  | c :: b, a => by
    have h := oval_mono b (a ++ [c])
    rw [Wh.oval_snoc, List.append_assoc] at h
    have e : [c] ++ b = c :: b := rfl
    rw [e] at h
    omega
theorem octVal_big {l : List UInt8} (h : 255 < Wh.oval l) : Wh.octVal l = none := by
  unfold Wh.octVal
  rw [if_neg]
  omega

theorem lower8 (c : UInt8) : ((c ||| 32).toNat : Int) = bits BinOp.or IntKind.u8 (c.toNat : Int) 32 := by
  have h : ∀ n : Fin 256, (((UInt8.ofNat n.1) ||| 32).toNat : Int) = bits BinOp.or IntKind.u8 (n.1 : Int) 32 := by decide +kernel
  have := h ⟨c.toNat, c.toNat_lt⟩
  simpa using this
set_option maxHeartbeats 1000000 in
theorem lower_byte (c : UInt8) (w : World) : Calls Tryz.prog 219 #[.int .u8 c.toNat] w fun e w' => e = .returned (.int .u8 (c ||| 32).toNat) ∧ w' = w := by
  have h := lower8 c
  go_enter Tryz.func219, Tryz.ntmps219
  go_wp2_with fail
  go_ret
  exact ⟨ret_int h.symm, rfl⟩

set_option maxHeartbeats 8000000 in
set_option maxRecDepth 100000 in
theorem parseU8_inner (t : ByteArray) (w : World) (h3 : t.size ≤ 3) :
    Calls Tryz.prog 191 #[.string t, .int .i64 8, .int .i64 8] w (U8Post t.data.toList w) := by
  by_cases hz : t.size = 0
  · have hnil : t.data.toList = [] := List.eq_nil_of_length_eq_zero (by rw [← Lib.size_eq]; exact hz)
    have hem : t.toList = [] := by rw [Lib.toList_data]; exact hnil
    have hO : Wh.octVal t.data.toList = none := by rw [hnil]; rfl
    have HO := Lib.hid hO
    clear hO hnil hz
    go_enter Tryz.func191, Tryz.ntmps191
    go_wp2_with fail
    go_ret2
    exact ⟨.inr ⟨HO.out, _, 2, .inr rfl, rfl⟩, Below.refl _ _⟩
  · have hemp : t.toList.isEmpty = false := by
      rw [← decide_eq_emptyBytes]
      exact decide_eq_false (fun h => hz (by rw [h]; rfl))
    have hcv := Lib.run_convert_string_bytes (P := Tryz.prog) w 9 137 5 t (u := .string) Tryz.underlying9 Tryz.underlying137 Tryz.underlying5
    have hB : ∀ j, j < t.size → (Lib.bytesWorld w 5 t).cell? ⟨w.heap.size, j, none⟩ = some (.int .u8 (t.data.toList.getD j 0).toNat) := fun j hj => Lib.bytesWorld_cell w 5 t j hj
    have HBl := Lib.hid (bytesWorld_facts w 5 t).1
    obtain ⟨W1, hW1⟩ : ∃ W1, W1 = Lib.bytesWorld w 5 t := ⟨_, rfl⟩
    rw [← hW1] at hcv hB HBl
    clear hW1
    obtain ⟨bs, hL⟩ : ∃ bs, bs = t.data.toList := ⟨_, rfl⟩
    have hLn : bs.length = t.size := by rw [hL, Lib.size_eq]
    have hne : bs ≠ [] := fun e => by rw [e] at hLn; exact hz hLn.symm
    rw [← hL] at hB ⊢
    clear hL
    have HB := Lib.hid hB
    have HLn := Lib.hid hLn
    have HNe := Lib.hid hne
    clear hB hLn hne
    have HLow := Lib.hid (fun c W => lower_byte c W)
    go_enter Tryz.func191, Tryz.ntmps191
    go_wp2_with fail
    go_loopg [12, 13, 101] t.size (fun g vu vn vi wx => ∃ (k : Nat) (a : Int), k + g = t.size ∧ vu = .bool false ∧ vn = .int .u64 a ∧ vi = .int .i64 k ∧ wx = W1 ∧ 0 ≤ a ∧ a ≤ 255 ∧ Hid (a = ((Wh.oval (bs.take k) : Nat) : Int) ∧ (bs.take k).all Wh.octD = true))
    case atStart => exact ⟨0, 0, by omega, rfl, rfl, rfl, rfl, by omega, by omega, Lib.hid ⟨rfl, rfl⟩⟩
    case round =>
      obtain ⟨k, a, hk, rfl, rfl, rfl, hw, ha0, ha1, hh⟩ := hrel
      subst wr
      obtain ⟨ha, hall⟩ := hh.out
      clear hh
      by_cases hkn : k < t.size
      · obtain ⟨g, rfl⟩ : ∃ g, gk = g + 1 := ⟨gk - 1, by omega⟩
        have hc := HB.out k hkn
        have hgk : bs[k]? = some (bs.getD k 0) := by
          have : k < bs.length := by have := HLn.out; omega
          simp [List.getD, List.getElem?_eq_getElem this]
        generalize bs.getD k 0 = c at hc hgk
        have hmem : c ∈ bs := List.mem_of_getElem? hgk
        have hnx : Wh.oval (bs.take (k + 1)) = 8 * Wh.oval (bs.take k) + (c.toNat - 48) := by rw [List.take_add_one, hgk, Option.toList_some, Wh.oval_snoc]
        have hmono := oval_mono (bs.drop (k + 1)) (bs.take (k + 1))
        rw [List.take_append_drop, hnx] at hmono
        have hc8 : c.toNat < 256 := c.toNat_lt
        by_cases hd : 48 ≤ c.toNat ∧ c.toNat ≤ 55
        · obtain ⟨hd0, hd1⟩ := hd
          have hod : Wh.octD c = true := by unfold Wh.octD; exact decide_eq_true ⟨hd0, hd1⟩
          by_cases hov : 255 < 8 * Wh.oval (bs.take k) + (c.toNat - 48)
          · have HF : Hid (Wh.octVal bs = none) := Lib.hid (octVal_big (by omega))
            have iov : 255 < a * 8 + ((c.toNat : Int) - 48) := by omega
            clear ha hall hgk hmem hnx hmono hod hov
            go_wp2_with fail
            go_ret2
            exact ⟨.inr ⟨HF.out, _, 1, .inl rfl, rfl⟩, HBl.out⟩
          · have HN : Hid (a * 8 + ((c.toNat : Int) - 48) = ((Wh.oval (bs.take (k + 1)) : Nat) : Int) ∧ (bs.take (k + 1)).all Wh.octD = true) := Lib.hid ⟨by rw [hnx]; omega, by rw [List.take_add_one, hgk, Option.toList_some, List.all_append, hall]; simp [hod]⟩
            have iov : a * 8 + ((c.toNat : Int) - 48) ≤ 255 := by omega
            clear ha hall hgk hmem hnx hmono hod hov
            go_wp2_with fail
            go_roundg g
            case measure => omega
            case rel => exact ⟨k + 1, a * 8 + ((c.toNat : Int) - 48), by omega, rfl, rfl, by go_num, rfl, by omega, by omega, HN⟩
        · have HF : Hid (Wh.octVal bs = none) := Lib.hid (octVal_bad hmem (by unfold Wh.octD; exact decide_eq_false hd))
          clear ha hall hgk hmem hnx hmono
          by_cases h89 : 48 ≤ c.toNat ∧ c.toNat ≤ 57
          · obtain ⟨hd0, hd1⟩ := h89
            have hge : 56 ≤ c.toNat := by omega
            clear hd
            go_wp2_with fail
            go_ret2
            exact ⟨.inr ⟨HF.out, _, 2, .inr rfl, rfl⟩, HBl.out⟩
          · by_cases h95 : c.toNat = 95
            · obtain rfl : c = 95 := by
                apply UInt8.toNat_inj.1
                rw [h95]
                rfl
              have HL9 : Hid (Calls Tryz.prog 219 #[.int .u8 95] W1 fun e w' => e = .returned (.int .u8 127) ∧ w' = W1) := Lib.hid (HLow.out 95 W1)
              have hc9 : W1.cell? ⟨w.heap.size, k, none⟩ = some (.int .u8 95) := hc
              clear hd h89 h95 hc8 hc
              go_wp2_with (go_at_call 219; refine HL9.out.mono ?_; rintro e w' ⟨rfl, hw'⟩; subst w')
              go_ret2
              exact ⟨.inr ⟨HF.out, _, 2, .inr rfl, rfl⟩, HBl.out⟩
            have h95' : ((c.toNat : Int) == 95) = false := by simpa using (by omega : ¬ (c.toNat : Int) = 95)
            clear h95
            have hlow := HLow.out c W1
            have hl8 : (c ||| 32).toNat < 256 := (c ||| 32).toNat_lt
            generalize (c ||| 32).toNat = lc at hlow hl8
            have HL2 := Lib.hid hlow
            clear hlow hd
            have h89' : ¬ 48 ≤ c.toNat ∨ 48 ≤ c.toNat ∧ 57 < c.toNat := by omega
            clear h89
            have h3 : ¬ 97 ≤ lc ∨ 97 ≤ lc ∧ ¬ lc ≤ 122 ∨ 97 ≤ lc ∧ lc ≤ 122 := by omega
            rcases h89' with hq | ⟨hq, hr⟩
            · rcases h3 with hl | ⟨hl, hm⟩ | ⟨hl, hm⟩
              · go_wp2_with (go_at_call 219; refine HL2.out.mono ?_; rintro e w' ⟨rfl, hw'⟩; subst w')
                go_ret2
                exact ⟨.inr ⟨HF.out, _, 2, .inr rfl, rfl⟩, HBl.out⟩
              · go_wp2_with (go_at_call 219; refine HL2.out.mono ?_; rintro e w' ⟨rfl, hw'⟩; subst w')
                go_ret2
                exact ⟨.inr ⟨HF.out, _, 2, .inr rfl, rfl⟩, HBl.out⟩
              · go_wp2_with (go_at_call 219; refine HL2.out.mono ?_; rintro e w' ⟨rfl, hw'⟩; subst w')
                go_ret2
                exact ⟨.inr ⟨HF.out, _, 2, .inr rfl, rfl⟩, HBl.out⟩
            · rcases h3 with hl | ⟨hl, hm⟩ | ⟨hl, hm⟩
              · go_wp2_with (go_at_call 219; refine HL2.out.mono ?_; rintro e w' ⟨rfl, hw'⟩; subst w')
                go_ret2
                exact ⟨.inr ⟨HF.out, _, 2, .inr rfl, rfl⟩, HBl.out⟩
              · go_wp2_with (go_at_call 219; refine HL2.out.mono ?_; rintro e w' ⟨rfl, hw'⟩; subst w')
                go_ret2
                exact ⟨.inr ⟨HF.out, _, 2, .inr rfl, rfl⟩, HBl.out⟩
              · go_wp2_with (go_at_call 219; refine HL2.out.mono ?_; rintro e w' ⟨rfl, hw'⟩; subst w')
                go_ret2
                exact ⟨.inr ⟨HF.out, _, 2, .inr rfl, rfl⟩, HBl.out⟩
      · have HF : Hid (Wh.octVal bs = some a.toNat ∧ a = ((a.toNat : Nat) : Int)) := Lib.hid (by
          have h1 : bs.take k = bs := List.take_of_length_le (by have := HLn.out; omega)
          rw [h1] at ha hall
          have h2 : Wh.oval bs ≤ 255 := by omega
          unfold Wh.octVal
          rw [if_pos ⟨HNe.out, hall, h2⟩]
          exact ⟨by congr 1; omega, by omega⟩)
        clear ha hall
        go_wp2_with fail
        go_ret2
        exact ⟨.inl ⟨a.toNat, HF.out.1, congrArg (fun z : Int => Ending.returned (.tuple #[.int .u64 z, .nilIface])) HF.out.2⟩, HBl.out⟩

/-- What strconv.ParseUint returns. -/
def P8Post (l : List UInt8) (w : World) (e : Ending) (w' : World) : Prop :=
  ((∃ n : Nat, Wh.octVal l = some n ∧ e = .returned (.tuple #[.int .u64 n, .nilIface])) ∨ (Wh.octVal l = none ∧ ∃ (x : Int) (ad : Addr), e = .returned (.tuple #[.int .u64 x, .iface 270 (.pointer (some ad))]))) ∧ Below w.heap.size w w'

set_option maxHeartbeats 2000000 in
theorem parseU8_any (t : ByteArray) (w : World) (hX : EnvX w) (h3 : t.size ≤ 3) : Calls Tryz.prog 142 #[.string t, .int .i64 8, .int .i64 8] w (P8Post t.data.toList w) := by
  have HX := Lib.hid hX
  have H := Lib.hid (parseU8_inner t w h3)
  clear hX
  go_enter Tryz.func142, Tryz.ntmps142
  go_upto_region 2 with (go_at_call 191; refine H.out.mono ?_; rintro e w1 ⟨hp, hb1⟩; have HB1 := Lib.hid hb1; clear hb1; rcases hp with ⟨n, hn, rfl⟩ | ⟨hn, x, k, hk, rfl⟩)
  · have HN := Lib.hid hn
    clear hn
    go_wp2_with fail
    go_ret2
    exact ⟨.inl ⟨n, HN.out, rfl⟩, HB1.out⟩
  · have HN := Lib.hid hn
    clear hn
    obtain ⟨⟨ev, hv, hev⟩, eu, hu, heu⟩ := HX.out.under HB1.out
    rcases hk with rfl | rfl
    · have HT := Lib.hid (Tryz.strconv_toError_range ⟨#[80, 97, 114, 115, 101, 85, 105, 110, 116]⟩ t 8 8 ev w1 (by omega) hv hev)
      clear hv hev hu heu
      go_wp2_with (go_at_call 139; refine HT.out.mono ?_; rintro e w2 ⟨N, rfl, _, _, hb2⟩)
      go_ret2
      exact ⟨.inr ⟨HN.out, _, _, rfl⟩, bTrans HB1.out hb2⟩
    · have HT := Lib.hid (Tryz.strconv_toError_syntax ⟨#[80, 97, 114, 115, 101, 85, 105, 110, 116]⟩ t 8 8 eu w1 (by omega) hu heu)
      clear hv hev hu heu
      go_wp2_with (go_at_call 139; refine HT.out.mono ?_; rintro e w2 ⟨N, rfl, _, _, hb2⟩)
      go_ret2
      exact ⟨.inr ⟨HN.out, _, _, rfl⟩, bTrans HB1.out hb2⟩
end Go.Proofs.YtfenmeacimfiaaaGreatDoor
