/-
  The texts Stb4, Stb5, Tp14, Tp15, Tp16, Tt1, in one.
-/
import Derived.Test.YtikegddlbelfaaaGreatDoorStbG
import Derived.Test.YtikegddlbelfaaaGreatDoorOrd
import Derived.Test.YtikegddlbelfaaaGreatDoorTqG
import Derived.Laws.EntriesVeiled
namespace Go.Proofs.YtikegddlbelfaaaGreatDoor
open Go.RowKit Go.Shelf Go.Lib Go.Sort

section
variable {α : Type} [Inhabited α]
set_option maxHeartbeats 8000000 in
set_option maxRecDepth 1000000 in
theorem stableI_any (k : Nat) (aE : ∀ w, (isAgg 43).run Tryz.prog w = .ok true w) (zE : ∀ w, (Go.sizeOf 43).run Tryz.prog w = .ok k w) (enc : α → List Value) (cf : α → α → Int) (g : Nat) (cb : Array Value) (blk off cap : Nat) (d : Array α) (w : World)
    (eg : ∀ args w, (callFunc g args).run Tryz.prog w = .ok (.enter g args) w) (hcmp : CmpLays Tryz.prog g cb enc k cf blk off d.size w) (R : RowK enc k w blk off d) (hsz : d.size ≤ 1000000) :
    Calls Tryz.prog 67 #[.slice (some ⟨blk, off, none⟩) d.size cap, .int .i64 d.size, .func (.func g) #[] cb] w fun e w' => e = .returned (.tuple #[]) ∧ ∃ d', Pm d d' ∧ SWK enc k w blk off d' w' := by
  have S0 : Aside (SWK enc k w blk off d w) := SWK.start R.hH
  have HI : Hid (∀ (d' : Array α) (w' : World) (a b : Nat), d'.size = d.size → SWK enc k w blk off d' w' → b ≤ d.size → a ≤ d.size → Calls Tryz.prog 96 #[.slice (some ⟨blk, off, none⟩) d.size cap, .int .i64 a, .int .i64 b, .func (.func g) #[] cb] w' fun e w'' => e = .returned (.tuple #[]) ∧ ∃ d'', Pm d' d'' ∧ SWK enc k w blk off d'' w'') := Lib.hid (fun d' w' a b h1 h2 h3 h4 => by
    have := insI_any k aE zE enc cf g cb blk off cap a b d d' w w' eg hcmp R h1.symm h2 (by omega) (by omega) (by omega)
    rw [h1] at this
    exact this)
  have HM : Hid (∀ (d' : Array α) (w' : World) (a m b : Nat), d'.size = d.size → SWK enc k w blk off d' w' → a < m → m < b → b ≤ d.size → Calls Tryz.prog 97 #[.slice (some ⟨blk, off, none⟩) d.size cap, .int .i64 a, .int .i64 m, .int .i64 b, .func (.func g) #[] cb] w' fun e w'' => e = .returned (.tuple #[]) ∧ ∃ d'', Pm d' d'' ∧ SWK enc k w blk off d'' w'') := Lib.hid (fun d' w' a m b h1 h2 h3 h4 h5 => by
    have := symI_any k aE zE enc cf g cb blk off cap d w eg hcmp R (by omega) (b - a) a m b d' w' (Nat.le_refl _) h1 h2 h3 h4 h5
    rw [h1] at this
    exact this)
  clear hcmp R aE zE eg
  obtain ⟨n, hn⟩ : ∃ n, d.size = n := ⟨_, rfl⟩
  have HN := Lib.hid hn
  rw [hn] at HI HM hsz ⊢
  clear hn
  go_enter Tryz.func67, Tryz.ntmps67
  go_upto_region 2 with fail
  go_loopg [7, 8] n (fun gk s7 s8 wr => ∃ (a b : Nat) (dk : Array α), s7 = .int .i64 a ∧ s8 = .int .i64 b ∧ b = a + 20 ∧ a ≤ n ∧ n - a ≤ gk ∧ Hid (Pm d dk) ∧ Aside (SWK enc k w blk off dk wr))
  case atStart => exact ⟨0, 20, d, rfl, rfl, rfl, Nat.zero_le _, Nat.le_refl _, Lib.hid (Pm.refl d), S0⟩
  case round =>
    clear S0
    obtain ⟨a, b, dk, rfl, rfl, hb, ha, hgk, HP, S1⟩ := hrel
    by_cases hlt : b ≤ n
    · have hltz : (b : Int) ≤ (n : Int) := by omega
      have hb2 : IntKind.i64.wrap ((b : Int) + 20) = ((b + 20 : Nat) : Int) := by rw [IntKind.wrap_i64]; omega
      have HB := Lib.hid hb
      clear hb
      have HIx := Lib.hid (HI.out dk wr a b (HP.out.1.trans HN.out) S1.out hlt ha)
      go_wp2_with (go_at_call 96; refine HIx.out.mono ?_; rintro e w2 ⟨rfl, d2, hp2, hs2⟩)
      go_roundg (n - b)
      case measure => have := HB.out; omega
      case rel => exact ⟨b, b + 20, d2, rfl, by first | rfl | go_num, rfl, hlt, Nat.le_refl _, Lib.hid (HP.out.trans hp2), hs2⟩
    · have hltz : ¬ (b : Int) ≤ (n : Int) := by omega
      have HIx := Lib.hid (HI.out dk wr a n (HP.out.1.trans HN.out) S1.out (Nat.le_refl _) ha)
      clear hb hgk
      go_upto_region 7 with (go_at_call 96; refine HIx.out.mono ?_; rintro e w2 ⟨rfl, d2, hp2, hs2⟩)
      have HP2 := Lib.hid (HP.out.trans hp2)
      have S2 : Aside (SWK enc k w blk off d2 w2) := hs2
      clear hp2 hs2 HP S1 HIx
      go_loopg [6] n (fun gk s6 wr2 => ∃ (bs : Nat) (dk : Array α), s6 = .int .i64 bs ∧ 20 ≤ bs ∧ bs ≤ 4000000 ∧ n ≤ bs + gk ∧ Hid (Pm d dk) ∧ Aside (SWK enc k w blk off dk wr2))
      case atStart => exact ⟨20, d2, rfl, Nat.le_refl _, by omega, by omega, HP2, S2⟩
      case round =>
        clear HP2 S2
        obtain ⟨bs, dk3, rfl, hbs, hbs2, hgk, HP, S1⟩ := hrel
        by_cases hlt2 : bs < n
        · have hltz2 : (bs : Int) < (n : Int) := by omega
          have hm1 : IntKind.i64.wrap (2 * (bs : Int)) = ((2 * bs : Nat) : Int) := by rw [IntKind.wrap_i64]; omega
          have hm2 : IntKind.i64.wrap ((bs : Int) * 2) = ((2 * bs : Nat) : Int) := by rw [IntKind.wrap_i64]; omega
          obtain ⟨bb, hbb⟩ : ∃ x, 2 * bs = x := ⟨_, rfl⟩
          rw [hbb] at hm1 hm2
          have HBb := Lib.hid hbb
          have hbb2 : bb ≤ 4000000 ∧ bs < bb := by omega
          clear hbb
          go_upto_region 9 with fail
          go_loopg [7, 8] n (fun g2 s7 s8 wr3 => ∃ (a b : Nat) (dk : Array α), s7 = .int .i64 a ∧ s8 = .int .i64 b ∧ Hid (b = a + bb) ∧ a ≤ n ∧ b ≤ 5000000 ∧ n - a ≤ g2 ∧ Hid (Pm d dk) ∧ Aside (SWK enc k w blk off dk wr3))
          case atStart => exact ⟨0, bb, dk3, rfl, rfl, Lib.hid (by omega), Nat.zero_le _, by omega, Nat.le_refl _, HP, S1⟩
          case round =>
            clear HP S1
            obtain ⟨a, b, dk, rfl, rfl, HB, ha, hb5, hg2, HP, S1⟩ := hrel
            have hp1 : IntKind.i64.wrap ((a : Int) + (bs : Int)) = ((a + bs : Nat) : Int) := by rw [IntKind.wrap_i64]; omega
            obtain ⟨m, hm⟩ : ∃ x, a + bs = x := ⟨_, rfl⟩
            rw [hm] at hp1
            have HMm := Lib.hid hm
            clear hm
            by_cases hlt3 : b ≤ n
            · have hltz3 : (b : Int) ≤ (n : Int) := by omega
              have hb2 : IntKind.i64.wrap ((b : Int) + (bb : Int)) = ((b + bb : Nat) : Int) := by rw [IntKind.wrap_i64]; omega
              have HMx := Lib.hid (HM.out dk wr a m b (HP.out.1.trans HN.out) S1.out (by have := HMm.out; omega) (by have := HMm.out; have := HB.out; have := HBb.out; omega) hlt3)
              obtain ⟨b3, hb3⟩ : ∃ x, b + bb = x := ⟨_, rfl⟩
              rw [hb3] at hb2
              have HB3 := Lib.hid hb3
              clear hb3
              go_wp2_with (go_at_call 97; refine HMx.out.mono ?_; rintro e w2 ⟨rfl, d2, hp2, hs2⟩)
              go_roundg (n - b)
              case measure => have := HB.out; omega
              case rel => exact ⟨b, b3, d2, rfl, rfl, Lib.hid HB3.out.symm, hlt3, by have := HB3.out; omega, Nat.le_refl _, Lib.hid (HP.out.trans hp2), hs2⟩
            · have hltz3 : ¬ (b : Int) ≤ (n : Int) := by omega
              by_cases hlt4 : m < n
              · have hltz4 : (m : Int) < (n : Int) := by omega
                have HMx := Lib.hid (HM.out dk wr a m n (HP.out.1.trans HN.out) S1.out (by have := HMm.out; omega) hlt4 (Nat.le_refl _))
                go_wp2_with (go_at_call 97; refine HMx.out.mono ?_; rintro e w2 ⟨rfl, d2, hp2, hs2⟩)
                go_roundg (n - bb)
                case measure => omega
                case rel => exact ⟨bb, d2, by first | rfl | go_num, by omega, by omega, by omega, Lib.hid (HP.out.trans hp2), hs2⟩
              · have hltz4 : ¬ (m : Int) < (n : Int) := by omega
                go_wp2_with fail
                go_roundg (n - bb)
                case measure => omega
                case rel => exact ⟨bb, dk, by first | rfl | go_num, by omega, by omega, by omega, HP, S1⟩
        · have hltz2 : ¬ (bs : Int) < (n : Int) := by omega
          go_wp2_with fail
          first | go_end0 | refine bodyPost_ret (results_none rfl _ _ _) rfl ?_
          exact ⟨rfl, dk3, HP.out, S1.out⟩
end

theorem enters_all2 : ∀ args w, (callFunc 37 args).run Tryz.prog w = .ok (.enter 37 args) w := enters_of Tryz.func37 (by kernel_rfl) rfl
/-- An info whose path is no longer than an int says. -/
abbrev CInf := {x : Inf // x.path.size ≤ 9223372036854775807}
instance : Inhabited CInf := ⟨⟨⟨ByteArray.empty, false, 0, 0⟩, by decide⟩⟩
def encI (x : CInf) : List Value := x.1.row
def cfI (x y : CInf) : Int := Wh.cmpL x.1.path.data.toList y.1.path.data.toList
set_option maxHeartbeats 2000000 in
theorem all2_any (x y : Inf) (hx : x.path.size ≤ 9223372036854775807) (hy : y.path.size ≤ 9223372036854775807) (w : World) :
    Calls Tryz.prog 37 #[.agg x.row.toArray, .agg y.row.toArray] w fun e w' => e = .returned (.int .i64 (Wh.cmpL x.path.data.toList y.path.data.toList)) ∧ ∃ q os', w' = grow (w.drewN q) os' := by
  have HC : Hid (∀ W, Calls Tryz.prog 38 #[.string x.path, .string y.path] W fun e w' => e = .returned (.int .i64 (Wh.cmpL x.path.data.toList y.path.data.toList)) ∧ ∃ n, w' = W.drewN n) := Lib.hid (fun W => compare_drew x.path y.path W hx hy)
  clear hx hy
  generalize Wh.cmpL x.path.data.toList y.path.data.toList = R at *
  obtain ⟨p, d, z, t⟩ := x
  obtain ⟨p2, d2, z2, t2⟩ := y
  dsimp only at HC
  show Calls Tryz.prog 37 #[.agg #[.string p, .bool d, .int .i64 z, .int .i64 t, .slice none 0 0, .slice none 0 0, .string ⟨#[]⟩], .agg #[.string p2, .bool d2, .int .i64 z2, .int .i64 t2, .slice none 0 0, .slice none 0 0, .string ⟨#[]⟩]] w _
  go_enter Tryz.func37, Tryz.ntmps37
  go_wp2_with (go_at_call 38; refine (HC.out _).mono ?_; rintro e w' ⟨rfl, n, rfl⟩)
  go_ret
  refine ⟨rfl, n, #[.cells #[.string p, .bool d, .int .i64 z, .int .i64 t, .slice none 0 0, .slice none 0 0, .string ⟨#[]⟩] 43, .cells #[.string p2, .bool d2, .int .i64 z2, .int .i64 t2, .slice none 0 0, .slice none 0 0, .string ⟨#[]⟩] 43], ?_⟩
  rw [alloc_eq_grow, alloc_eq_grow, grow_grow]
  rfl
theorem cmpLaysI (blk off size : Nat) (w : World) : CmpLays Tryz.prog 37 #[] encI 7 cfI blk off size w :=
  fun _ _ _ _ x y => all2_any x.1 y.1 x.2 y.2 _
theorem holdsK_inf {w : World} {g : Nat} {cur : Array Value} {t : TypeId} {d : Array CInf} (hg : w.heap[g]? = some (.cells cur t (0, 0))) (hH : HoldsR w (some ⟨g, 0, none⟩) 7 (d.toList.map encI)) : HoldsK encI 7 w g 0 d := by
  intro j hj
  rw [size_flatK] at hj
  have hk : j / 7 < d.size := by omega
  refine ⟨?_, by simp [World.frozen?, hg]⟩
  rw [get_flatK _ _ _ _ hj]
  obtain ⟨b, o, e, _, hc⟩ := hH.at (k := j / 7) (row := encI d[j / 7]) (by simp [hk])
  injection e with e
  injection e with e1 e2
  subst e1 e2
  rw [getElem!_pos d (j / 7) hk]
  have hl : (encI d[j / 7]).length = 7 := rfl
  have := hc (j % 7) ((encI d[j / 7])[j % 7]'(by omega)) (List.getElem?_eq_getElem _)
  rw [show 0 + j / 7 * 7 + j % 7 = 0 + j by omega] at this
  rw [this, getElem!_pos (encI d[j / 7]) (j % 7) (by omega)]
  rfl
theorem of_holdsK_inf {w : World} {g : Nat} {d : Array CInf} (hg : g < w.heap.size) (hK : HoldsK encI 7 w g 0 d) : HoldsR w (some ⟨g, 0, none⟩) 7 (d.toList.map encI) := by
  refine .inr ⟨g, 0, rfl, hg, fun k row hk j u hu => ?_⟩
  rw [List.getElem?_map] at hk
  have hkl : k < d.size := by
    rcases Nat.lt_or_ge k d.size with h | h
    · exact h
    · rw [List.getElem?_eq_none (by simpa using h)] at hk; simp at hk
  have hr : row = encI d[k] := by
    rw [List.getElem?_eq_getElem (by simpa using hkl)] at hk
    simpa using hk.symm
  subst hr
  have hl : (encI d[k]).length = 7 := rfl
  have hj : j < 7 := by have := (List.getElem?_eq_some_iff.1 hu).1; omega
  have := (hK (k * 7 + j) (by rw [size_flatK]; omega)).1
  rw [get_flatK _ _ _ _ (by omega), show (k * 7 + j) / 7 = k by omega, show (k * 7 + j) % 7 = j by omega, getElem!_pos d k hkl, getElem!_pos (encI d[k]) j (by omega)] at this
  rw [show 0 + k * 7 + j = 0 + (k * 7 + j) by omega, this]
  rw [(List.getElem?_eq_some_iff.1 hu).2]
  rfl
theorem kp_swk {α : Type} [Inhabited α] {enc : α → List Value} {k : Nat} {w w' : World} {g off : Nat} {d : Array α} (h : SWK enc k w g off d w') : Kp (fun i => i = g) w w' := by
  obtain ⟨n, os, rfl⟩ := h
  refine ⟨rfl, rfl, rfl, size_sortWorldK_c enc k w g off n d os, fun i hi hne => ?_⟩
  unfold sortWorldK grow putRowK putRow mapBlock Sort.ahead
  simp only
  rw [Array.getElem?_append_left (by simp; omega), Array.getElem?_modify, if_neg (fun e => hne e.symm)]
end Go.Proofs.YtikegddlbelfaaaGreatDoor
namespace Go.Proofs.YtikegddlbelfaaaGreatDoor
open Go.RowKit

set_option maxHeartbeats 1000000 in
theorem insI0_any (cmp : Value) (w : World) : Calls Tryz.prog 96 #[.slice none 0 0, .int .i64 0, .int .i64 0, cmp] w fun e w' => e = .returned (.tuple #[]) ∧ w' = w := by
  go_enter Tryz.func96, Tryz.ntmps96
  go_upto_region 1 with fail
  go_loopg [8] 0 (fun gk i wx => i = .int .i64 1 ∧ wx = w)
  case atStart => exact ⟨rfl, rfl⟩
  case round =>
    obtain ⟨rfl, rfl⟩ := hrel
    go_wp2_with fail
    first | go_end0 | refine bodyPost_ret (results_none rfl _ _ _) rfl ?_
    exact ⟨rfl, rfl⟩
set_option maxHeartbeats 1000000 in
theorem stableI0_any (cmp : Value) (w : World) : Calls Tryz.prog 67 #[.slice none 0 0, .int .i64 0, cmp] w fun e w' => e = .returned (.tuple #[]) ∧ w' = w := by
  have HI := Lib.hid (fun W => insI0_any cmp W)
  go_enter Tryz.func67, Tryz.ntmps67
  go_upto_region 2 with fail
  go_loopg [7, 8] 0 (fun gk s7 s8 wr => s7 = .int .i64 0 ∧ s8 = .int .i64 20 ∧ wr = w)
  case atStart => exact ⟨rfl, rfl, rfl⟩
  case round =>
    obtain ⟨rfl, rfl, rfl⟩ := hrel
    go_upto_region 7 with (go_at_call 96; refine (HI.out _).mono ?_; rintro e w2 ⟨rfl, hw⟩; have hw2 := hw.symm; clear hw; subst hw2)
    go_loopg [6] 0 (fun gk s6 wr2 => s6 = .int .i64 20 ∧ wr2 = wr)
    case atStart => exact ⟨rfl, rfl⟩
    case round =>
      obtain ⟨rfl, rfl⟩ := hrel
      go_wp2_with fail
      first | go_end0 | refine bodyPost_ret (results_none rfl _ _ _) rfl ?_
      exact ⟨rfl, rfl⟩
/-- What the sort leaves. -/
def SortIPost (w : World) (a : Option Addr) (l : List Inf) (e : Ending) (w' : World) : Prop :=
  e = .returned (.tuple #[]) ∧ ∃ l' : List Inf, l'.Perm l ∧ HoldsR w' a 7 (l'.map Inf.row) ∧ Kp (rb a) w w'
set_option maxHeartbeats 2000000 in
set_option maxRecDepth 100000 in
theorem sortI_any {w : World} {B cap : Nat} {a : Option Addr} (l : List Inf) (hR : RowG 43 7 w B a cap (l.map Inf.row)) (hz : l = [] → a = none ∧ cap = 0) (hs : ∀ x ∈ l, x.path.size ≤ 9223372036854775807) (hl : l.length ≤ 1000000) :
    Calls Tryz.prog 36 #[.slice a l.length cap, .func (.func 37) #[] #[]] w (SortIPost w a l) := by
  by_cases h0 : l = []
  · obtain ⟨rfl, rfl⟩ := hz h0
    subst h0
    have HS := Lib.hid (fun W => stableI0_any (.func (.func 37) #[] #[]) W)
    rw [List.length_nil]
    clear hR hz hs hl
    go_enter Tryz.func36, Tryz.ntmps36
    go_wp2_with (go_at_call 67; refine (HS.out _).mono ?_; rintro e w2 ⟨rfl, hw⟩; have hw2 := hw.symm; clear hw; subst hw2)
    first | go_end0 | refine bodyPost_ret (results_none rfl _ _ _) rfl ?_
    exact ⟨rfl, [], List.Perm.refl _, .inl rfl, Kp.refl _ _⟩
  · obtain ⟨g, rfl⟩ := hR.some_of (by rw [List.length_map]; exact List.length_pos_iff.2 h0)
    obtain ⟨d, hd⟩ : ∃ d : Array CInf, d.toList.map (·.1) = l := ⟨(l.attach.map fun x => ⟨x.1, hs x.1 x.2⟩).toArray, by rw [List.toList_toArray, List.map_map]; exact List.attach_map_subtype_val l⟩
    have hds : d.size = l.length := by rw [← hd]; simp
    have hmap : d.toList.map encI = l.map Inf.row := by rw [← hd, List.map_map]; rfl
    have hh := hR.holds (by decide)
    obtain ⟨cur, hg⟩ : ∃ cur, w.heap[g]? = some (.cells cur 43 (0, 0)) := by
      rcases hR.2.2 with ⟨hv, _⟩ | ⟨g', c, cur, hv, _, hg, _⟩
      · cases hv
      · injection hv with e1 e2 e3
        injection e1 with e1
        injection e1 with e1
        subst e1
        exact ⟨cur, hg⟩
    have hgl := (Array.getElem?_eq_some_iff.1 hg).1
    have hK := holdsK_inf hg (d := d) (by rw [hmap]; exact hh)
    have hR2 : RowK encI 7 w g 0 d := ⟨fun _ => rfl, fun x v hv => inf_one x.1 v hv, hK, hgl⟩
    have HS := Lib.hid (stableI_any 7 (fun _ => by kernel_rfl) (fun _ => by kernel_rfl) encI cfI 37 #[] g 0 cap d w enters_all2 (cmpLaysI g 0 d.size w) hR2 (by omega))
    rw [← hds]
    obtain ⟨n, hn⟩ : ∃ n, d.size = n := ⟨_, rfl⟩
    have HN := Lib.hid hn
    rw [hn] at HS ⊢
    have HD := Lib.hid (And.intro hd (And.intro hK hgl))
    clear hn hds hd hmap hh hg hK hR2 hR hz hs hl hgl h0
    go_enter Tryz.func36, Tryz.ntmps36
    go_wp2_with (go_at_call 67; refine HS.out.mono ?_; rintro e w2 ⟨rfl, d2, hp2, hs2⟩)
    first | go_end0 | refine bodyPost_ret (results_none rfl _ _ _) rfl ?_
    refine ⟨rfl, d2.toList.map (·.1), by rw [← HD.out.1]; exact hp2.2.map _, ?_, (kp_swk hs2).mono (fun i e => ⟨_, rfl, e⟩)⟩
    have hmap2 : (d2.toList.map (·.1)).map Inf.row = d2.toList.map encI := by rw [List.map_map]; rfl
    rw [hmap2]
    exact of_holdsK_inf (hs2.lt HD.out.2.2) (hs2.holds HD.out.2.2 HD.out.2.1 hp2.1)
end Go.Proofs.YtikegddlbelfaaaGreatDoor
namespace Go.Proofs.YtikegddlbelfaaaGreatDoor
open Go.RowKit

theorem enters_all1 : ∀ args w, (callFunc 34 args).run Tryz.prog w = .ok (.enter 34 args) w := enters_of Tryz.func34 (by kernel_rfl) rfl
/-- All's boxes: the store, what has been read, the closure. -/
structure AllS (w00 : World) (B : Nat) (M : MB) (s : TSt) (sb ob qb : Nat) (acc : List Inf) (a : Option Addr) (cap : Nat) (W : World) : Prop where
  kp : Kp (fun i => i = M.ca ∨ i = M.si) w00 W
  mem : MemT W B M s
  own : ∀ i, (MTf M s.F i ∨ i = M.cb) → i < w00.heap.size
  sbx : BoxIs W sb #[.iface 28 (ptr M.b)] 81
  qbx : BoxIs W qb #[.func (.func 34) #[] #[ptr sb, ptr ob, ptr qb]] 51
  obx : BoxIs W ob #[.slice a acc.length cap] 46
  row : RowG 43 7 W w00.heap.size a cap (acc.map Inf.row)
  nil : acc = [] → a = none ∧ cap = 0
  lo : w00.heap.size ≤ sb ∧ w00.heap.size ≤ ob ∧ w00.heap.size ≤ qb
/-- What has been read of a directory: all that lies below it, each once. -/
def Reads (s : TSt) (ks : List ByteArray) (out : List Inf) : Prop :=
  ∃ ps : List (List ByteArray × Nd), out = ps.map (fun p => infK s p.1 p.2) ∧ (ps.map (fun p => p.1)).Nodup ∧ ∀ p, p ∈ ps ↔ s.F p.1 = some p.2 ∧ ∃ t, t ≠ [] ∧ p.1 = ks ++ t
/-- What has been read once the first i entries were looked into. -/
def Part (s : TSt) (ks : List ByteArray) (l : List Nd) (i : Nat) (out : List Inf) : Prop :=
  ∃ ps : List (List ByteArray × Nd), out = ps.map (fun p => infK s p.1 p.2) ∧ (ps.map (fun p => p.1)).Nodup ∧ ∀ p, p ∈ ps ↔ s.F p.1 = some p.2 ∧ ∃ m t, m ∈ l ∧ p.1 = ks ++ kyOf s.f m.name :: t ∧ (t = [] ∨ m ∈ l.take i)
section
variable {w : World} {B rb : Nat} {s : TSt} {ks : List ByteArray} {l : List Nd}
theorem Part.start (hT : TreeAt w B rb (kyOf s.f) s.F) (hl : Kids s.F ks l) : Part s ks l 0 (l.map fun m => infN s ks m) := by
  refine ⟨l.map (fun m => (ks ++ [kyOf s.f m.name], m)), by rw [List.map_map]; rfl, ?_, fun p => ?_⟩
  · rw [List.map_map]
    refine List.pairwise_map.2 (hl.up.imp_of_mem (fun {x y} hx hy h e => ?_))
    have h1 := hT.kid_at hl hx
    have h2 := hT.kid_at hl hy
    have e' : ks ++ [kyOf s.f x.name] = ks ++ [kyOf s.f y.name] := e
    rw [e', h2] at h1
    injection h1 with h1
    rw [h1, ltN_irrefl] at h
    cases h
  · rw [List.mem_map]
    constructor
    · rintro ⟨m, hm, rfl⟩
      exact ⟨hT.kid_at hl hm, m, [], hm, rfl, .inl rfl⟩
    · rintro ⟨h1, m, t, hm, h2, h3⟩
      obtain rfl : t = [] := h3.elim id (fun h => by simp at h)
      have h4 := hT.kid_at hl hm
      rw [h2, h4] at h1
      injection h1 with h1
      exact ⟨m, hm, Prod.ext h2.symm h1⟩
theorem Part.file {i : Nat} {out : List Inf} {m : Nd} (hT : TreeAt w B rb (kyOf s.f) s.F) (hl : Kids s.F ks l) (h : Part s ks l i out) (hm : l[i]? = some m) (hd : m.dir = false) : Part s ks l (i + 1) out := by
  obtain ⟨ps, h1, h2, h3⟩ := h
  refine ⟨ps, h1, h2, fun p => ?_⟩
  rw [h3]
  have ht : l.take (i + 1) = l.take i ++ [m] := by rw [List.take_add_one, hm]; rfl
  constructor
  · rintro ⟨h4, m', t, h5, h6, h7⟩
    exact ⟨h4, m', t, h5, h6, h7.imp id (fun h => by rw [ht]; exact List.mem_append.2 (.inl h))⟩
  · rintro ⟨h4, m', t, h5, h6, h7⟩
    refine ⟨h4, m', t, h5, h6, ?_⟩
    rcases h7 with h7 | h7
    · exact .inl h7
    · rw [ht] at h7
      rcases List.mem_append.1 h7 with h7 | h7
      · exact .inr h7
      · obtain rfl := List.mem_singleton.1 h7
        cases t with
        | nil => exact .inl rfl
        | cons k t =>
          have h8 := hT.kid_at hl h5
          have h9 := hT.none_below (hT.file_below h8 hd k) t
          rw [h6] at h4
          rw [List.append_assoc, List.append_assoc] at h9
          simp only [List.cons_append, List.nil_append] at h9
          rw [h9] at h4
          cases h4
theorem Part.dir {i : Nat} {out out2 : List Inf} {m : Nd} (hT : TreeAt w B rb (kyOf s.f) s.F) (hl : Kids s.F ks l) (h : Part s ks l i out) (hm : l[i]? = some m) (hr : Reads s (ks ++ [kyOf s.f m.name]) out2) : Part s ks l (i + 1) (out ++ out2) := by
  obtain ⟨ps, h1, h2, h3⟩ := h
  obtain ⟨qs, g1, g2, g3⟩ := hr
  have ht : l.take (i + 1) = l.take i ++ [m] := by rw [List.take_add_one, hm]; rfl
  have hml := List.mem_of_getElem? hm
  have hni : m ∉ l.take i := fun hin => by
    obtain ⟨j, hj⟩ := List.getElem?_of_mem hin
    have hjl := (List.getElem?_eq_some_iff.1 hj).1
    rw [List.length_take] at hjl
    rw [List.getElem?_take_of_lt (by omega)] at hj
    have hh := (List.pairwise_iff_getElem.1 hl.up) j i (List.getElem?_eq_some_iff.1 hj).1 (List.getElem?_eq_some_iff.1 hm).1 (by omega)
    rw [(List.getElem?_eq_some_iff.1 hj).2, (List.getElem?_eq_some_iff.1 hm).2, ltN_irrefl] at hh
    cases hh
  have hinj : ∀ m', m' ∈ l → kyOf s.f m'.name = kyOf s.f m.name → m' = m := fun m' hm' e => by
    have e1 := hT.kid_at hl hm'
    have e2 := hT.kid_at hl hml
    rw [e, e2] at e1
    injection e1 with e1
    exact e1.symm
  refine ⟨ps ++ qs, by rw [List.map_append, h1, g1], ?_, fun p => ?_⟩
  · rw [List.map_append, List.nodup_append]
    refine ⟨h2, g2, ?_⟩
    intro x hx y hy e
    obtain ⟨p, hp, rfl⟩ := List.mem_map.1 hx
    obtain ⟨q, hq, rfl⟩ := List.mem_map.1 hy
    obtain ⟨_, m', t, h5, h6, h7⟩ := (h3 p).1 hp
    obtain ⟨_, t2, g5, g6⟩ := (g3 q).1 hq
    have e' : p.1 = q.1 := e
    rw [h6, g6, List.append_assoc, List.singleton_append] at e'
    have e2 := List.append_cancel_left e'
    injection e2 with e3 e4
    obtain rfl := hinj m' h5 e3
    rcases h7 with h7 | h7
    · rw [h7] at e4
      exact g5 e4.symm
    · exact hni h7
  · rw [List.mem_append, h3, g3]
    constructor
    · rintro (⟨h4, m', t, h5, h6, h7⟩ | ⟨h4, t, h5, h6⟩)
      · exact ⟨h4, m', t, h5, h6, h7.imp id (fun h => by rw [ht]; exact List.mem_append.2 (.inl h))⟩
      · exact ⟨h4, m, t, hml, by rw [h6, List.append_assoc]; rfl, .inr (by rw [ht]; simp)⟩
    · rintro ⟨h4, m', t, h5, h6, h7⟩
      rcases h7 with h7 | h7
      · exact .inl ⟨h4, m', t, h5, h6, .inl h7⟩
      · rw [ht] at h7
        rcases List.mem_append.1 h7 with h7 | h7
        · exact .inl ⟨h4, m', t, h5, h6, .inr h7⟩
        · obtain rfl := List.mem_singleton.1 h7
          by_cases h0 : t = []
          · exact .inl ⟨h4, m', t, h5, h6, .inl h0⟩
          · exact .inr ⟨h4, t, h0, by rw [h6, List.append_assoc]; rfl⟩
theorem Part.all {out : List Inf} (hT : TreeAt w B rb (kyOf s.f) s.F) (hl : Kids s.F ks l) (h : Part s ks l l.length out) : Reads s ks out := by
  obtain ⟨ps, h1, h2, h3⟩ := h
  refine ⟨ps, h1, h2, fun p => ?_⟩
  rw [h3]
  constructor
  · rintro ⟨h4, m, t, h5, h6, _⟩
    exact ⟨h4, _ :: t, by simp, h6⟩
  · rintro ⟨h4, t, h5, h6⟩
    cases t with
    | nil => exact absurd rfl h5
    | cons k t =>
      cases hk : s.F (ks ++ [k]) with
      | none =>
        have := hT.none_below hk t
        rw [List.append_assoc, List.singleton_append, ← h6, h4] at this
        cases this
      | some m =>
        have hm : m ∈ l := (hl.mem m).2 ⟨k, hk⟩
        have e := (hT.dirs _ _ _ hk).2.1
        exact ⟨h4, m, t, hm, by rw [h6, e], .inr (by rw [List.take_of_length_le (Nat.le_refl _)]; exact hm)⟩
theorem Reads.length {N : Nat} {out : List Inf} (hmost : AtMost s.F N) (h : Reads s ks out) : out.length ≤ N := by
  obtain ⟨ps, h1, h2, h3⟩ := h
  have := hmost (ps.map (fun p => p.1)) h2 (fun k hk => by
    obtain ⟨p, hp, rfl⟩ := List.mem_map.1 hk
    obtain ⟨h4, t, h5, h6⟩ := (h3 p).1 hp
    exact ⟨fun e => by rw [h6] at e; exact h5 (List.append_eq_nil_iff.1 e).2, p.2, h4⟩)
  rw [h1, List.length_map]
  simpa using this
theorem Part.length {N i : Nat} {out : List Inf} (hmost : AtMost s.F N) (h : Part s ks l i out) : out.length ≤ N := by
  obtain ⟨ps, h1, h2, h3⟩ := h
  have := hmost (ps.map (fun p => p.1)) h2 (fun k hk => by
    obtain ⟨p, hp, rfl⟩ := List.mem_map.1 hk
    obtain ⟨h4, m, t, h5, h6, _⟩ := (h3 p).1 hp
    exact ⟨fun e => by rw [h6] at e; simp at e, p.2, h4⟩)
  rw [h1, List.length_map]
  simpa using this
end
end Go.Proofs.YtikegddlbelfaaaGreatDoor
namespace Go.Proofs.YtikegddlbelfaaaGreatDoor
open Go.RowKit

/-- Nothing lies deeper below some keys than that. -/
def Deep (F : Tr) (ks : List ByteArray) (D : Nat) : Prop := ∀ ls m, F (ks ++ ls) = some m → ls.length ≤ D
/-- What the closure leaves. -/
def ReadPost (w00 : World) (B : Nat) (M : MB) (s : TSt) (sb ob qb : Nat) (acc : List Inf) (a : Option Addr) (W : World) (ks : List ByteArray) (e : Ending) (w' : World) : Prop :=
  e = .returned (.int .i64 0) ∧ ∃ (out : List Inf) (a' : Option Addr) (cap' : Nat), Reads s ks out ∧ AllS w00 B M s sb ob qb (acc ++ out) a' cap' w' ∧ (∀ i, rb a' i → rb a i ∨ W.heap.size ≤ i) ∧ Kp (fun i => i = M.ca ∨ i = M.si ∨ i = ob ∨ rb a i) W w'
theorem AllS.ne_ob {w00 : World} {B : Nat} {M : MB} {s : TSt} {sb ob qb : Nat} {acc : List Inf} {a : Option Addr} {cap : Nat} {W : World} (h : AllS w00 B M s sb ob qb acc a cap W) : sb ≠ ob ∧ qb ≠ ob ∧ ¬ rb a sb ∧ ¬ rb a ob ∧ ¬ rb a qb := by
  have hr : ∀ b vs t, BoxIs W b vs t → t ≠ 43 → ¬ rb a b := fun b vs t hb ht => by
    rintro ⟨ad, rfl, rfl⟩
    rcases h.row.2.2 with ⟨hv, _⟩ | ⟨g, c, cur, hv, _, hg, _⟩
    · cases hv
    · injection hv with e1 e2 e3
      injection e1 with e1
      subst e1
      have := hb.symm.trans hg
      simp only [Option.some.injEq, Obj.cells.injEq] at this
      exact ht this.2.1
  exact ⟨h.sbx.ne h.obx (by decide), h.qbx.ne h.obx (by decide), hr _ _ _ h.sbx (by decide), hr _ _ _ h.obx (by decide), hr _ _ _ h.qbx (by decide)⟩
theorem AllS.under {w00 : World} {B : Nat} {M : MB} {s : TSt} {sb ob qb : Nat} {acc : List Inf} {a : Option Addr} {cap : Nat} {W W' : World} (h : AllS w00 B M s sb ob qb acc a cap W) (hb : Below W.heap.size W W') : AllS w00 B M s sb ob qb acc a cap W' :=
  ⟨h.kp.trans (Kp.of hb), h.mem.below hb, h.own, h.sbx.under hb, h.qbx.under hb, h.obx.under hb, h.row.kp (Kp.of (F := fun _ => False) hb) (fun _ _ e => e), h.nil, h.lo⟩
theorem kids_exist {w : World} {B rb : Nat} {K : ByteArray → ByteArray} {F : Tr} (h : TreeAt w B rb K F) {ks : List ByteArray} {n : Nd} (hn : F ks = some n) (hd : n.dir = true) : ∃ l, Kids F ks l := by
  obtain ⟨es, c, L, _, _, _, _, hnd, hm⟩ := (h.kids ks n hn hd).1.list
  obtain ⟨nd, hnk⟩ : ∃ nd : ByteArray → Nd, ∀ q, q ∈ L.map (fun kv => kv.1) → F (ks ++ [q]) = some (nd q) := ⟨fun q => (F (ks ++ [q])).getD n, fun q hq => by
    obtain ⟨⟨q', v⟩, hkv, rfl⟩ := List.mem_map.1 hq
    have h2 := (hm q' v).1 hkv
    unfold Tr.kid at h2
    show F (ks ++ [q']) = some ((F (ks ++ [q'])).getD n)
    cases hF : F (ks ++ [q']) with
    | none => rw [hF] at h2; cases h2
    | some c => rfl⟩
  have hp := List.mergeSort_perm ((L.map (fun kv => kv.1)).map nd) (fun x y => !ltN y.name x.name)
  have hs := List.pairwise_mergeSort (le := fun x y : Nd => !ltN y.name x.name) (fun a b c h1 h2 => by
    simp only [Bool.not_eq_true'] at *
    cases h3 : ltN c.name a.name with
    | false => rfl
    | true =>
      cases h4 : ltN b.name c.name with
      | true =>
        rw [ltN_trans h4 h3] at h1
        cases h1
      | false =>
        have := ltN_tri h4 h2
        rw [← this, h1] at h3
        cases h3) (fun a b => by
    cases h1 : ltN b.name a.name with
    | false => rfl
    | true =>
      cases h2 : ltN a.name b.name with
      | false => rfl
      | true =>
        have := ltN_trans h1 h2
        rw [ltN_irrefl] at this
        cases this) ((L.map (fun kv => kv.1)).map nd)
  generalize ((L.map (fun kv => kv.1)).map nd).mergeSort (fun x y => !ltN y.name x.name) = l at hp hs
  have hmem : ∀ m, m ∈ l ↔ ∃ k, F (ks ++ [k]) = some m := fun m => by
    rw [hp.mem_iff, List.mem_map]
    constructor
    · rintro ⟨q, hq, rfl⟩
      exact ⟨q, hnk q hq⟩
    · rintro ⟨k, hk⟩
      have h1 : (k, ptr m.b) ∈ L := (hm _ _).2 (by unfold Tr.kid; rw [hk]; rfl)
      have h2 : k ∈ L.map (fun kv => kv.1) := List.mem_map.2 ⟨_, h1, rfl⟩
      refine ⟨k, h2, ?_⟩
      have h3 := hnk k h2
      rw [hk] at h3
      injection h3 with h3
      exact h3.symm
  have hne : ((L.map (fun kv => kv.1)).map nd).Pairwise (fun x y => x.name ≠ y.name) := by
    refine List.pairwise_map.2 (hnd.imp_of_mem (fun {x y} hx hy hxy e => hxy ?_))
    have h1 := (h.dirs _ _ _ (hnk x hx)).2.1
    have h2 := (h.dirs _ _ _ (hnk y hy)).2.1
    rw [← h1, ← h2, e]
  have hne' : l.Pairwise (fun x y => x.name ≠ y.name) := (hp.pairwise_iff (fun h => Ne.symm h)).2 hne
  refine ⟨l, ?_, hmem⟩
  rw [List.pairwise_iff_getElem] at hs hne' ⊢
  intro i j hi hj hij
  have h1 := hs i j hi hj hij
  simp only [Bool.not_eq_true'] at h1
  cases h2 : ltN l[i].name l[j].name with
  | true => rfl
  | false => exact absurd (ltN_tri h2 h1) (hne' i j hi hj hij)
theorem Kids.le {w : World} {B rb N : Nat} {K : ByteArray → ByteArray} {F : Tr} {ks : List ByteArray} {l : List Nd} (hl : Kids F ks l) (h : TreeAt w B rb K F) (hmost : AtMost F N) : l.length ≤ N := by
  have := hmost (l.map (fun m => ks ++ [K m.name])) (List.pairwise_map.2 (hl.up.imp_of_mem (fun {x y} hx hy hxy e => by
    have h1 := h.kid_at hl hx
    have h2 := h.kid_at hl hy
    rw [e, h2] at h1
    injection h1 with h1
    rw [h1, ltN_irrefl] at hxy
    cases hxy))) (fun k hk => by
    obtain ⟨m, hm, rfl⟩ := List.mem_map.1 hk
    exact ⟨by simp, m, h.kid_at hl hm⟩)
  simpa using this
set_option maxHeartbeats 8000000 in
set_option maxRecDepth 100000 in
theorem readT_any (w00 w0 : World) (M : MB) (s : TSt) (sb ob qb : Nat) (pg : Nat) (hb0 : Below w0.heap.size w0 w00) (hE : Env w0) (hNm : Named s) (hmost : AtMost s.F 4000) (hpg : s.f.page = (pg : Int)) (hpg1 : 1 ≤ pg ∧ pg ≤ 100000) (hsum : s.f.sums = 0) (hid : hasB s.f 512 = false) :
    ∀ (D : Nat) (dir : ByteArray) (ks : List ByteArray) (n : Nd) (acc : List Inf) (a : Option Addr) (cap : Nat) (W : World), Deep s.F ks D → AllS w00 w0.heap.size M s sb ob qb acc a cap W → kysOf s.f dir = ks → Wh.isPath dir.data.toList = true → s.F ks = some n → n.dir = true → acc.length + 4001 * (D + 1) ≤ 50000000 →
    Calls Tryz.prog 34 #[.string dir, ptr sb, ptr ob, ptr qb] W (ReadPost w00 w0.heap.size M s sb ob qb acc a W ks) := by
  intro D
  induction D using Nat.strongRecOn with
  | ind D ih =>
    intro dir ks n acc a cap W hD hS hk hp hn hd hacc
    have IH := Lib.hid ih
    unfold ReadPost at IH
    have hB : Below w0.heap.size w0 W := hb0.trans (hS.kp.below (fun i h => h.elim (fun e => by rw [e]; exact hS.mem.lo.2.1) (fun e => by rw [e]; exact hS.mem.lo.2.2)) hb0.size)
    obtain ⟨l, hl⟩ := kids_exist hS.mem.tree hn hd
    have hll := hl.le hS.mem.tree hmost
    have HLs := Lib.hid (listedT_any w0 W M s dir ks n l pg hB hE hS.mem hNm hmost hk hp hn hd hl hpg hpg1 hll hsum hid)
    unfold ListedT at HLs
    have HS := Lib.hid hS
    have s0 : W.cell? ⟨sb, 0, none⟩ = some (.iface 28 (ptr M.b)) := hS.sbx.cell (j := 0) rfl
    obtain ⟨iv, hiv, hz0, hz1, hz2⟩ := info_parts infoInfoT
    have HI := Lib.hid (And.intro hiv (And.intro hz0 (And.intro hz1 hz2)))
    have HT := Lib.hid hS.mem.tree
    have HL := Lib.hid hl
    have HA := Lib.hid hacc
    have HMo := Lib.hid hmost
    have HNm := Lib.hid hNm
    have HDp := Lib.hid hD
    clear ih hB hS hk hp hn hd hl hacc hiv hz0 hz1 hz2 hb0 hE hNm hmost hpg hsum hid hD
    go_enter Tryz.func34, Tryz.ntmps34
    go_upto_region 4 with (go_at_call 35; refine HLs.out.mono ?_; rintro e w2 ⟨ga, gc, rfl, hr2, hz2, hm2, hk2⟩)
    have HR2 := Lib.hid hr2
    have HZ2 := Lib.hid hz2
    have HM2 := Lib.hid hm2
    have HK2 := Lib.hid hk2
    have HCs : Hid (∀ i, (i = M.ca ∨ i = M.si) → i < w00.heap.size) := Lib.hid (fun i h => HS.out.own i (.inl (h.elim (fun e => .inr (.inl e)) (fun e => .inr (.inr (.inl e))))))
    have hlo := HS.out.lo
    have HO2 : Hid (BoxIs w2 ob #[.slice a acc.length cap] 46) := Lib.hid (HS.out.obx.kp hk2 (fun h => by have := HCs.out _ h; omega))
    have HA2 : Hid (RowG 43 7 w2 w00.heap.size a cap (acc.map Inf.row)) := Lib.hid (HS.out.row.kp hk2 (fun i hi h => by have := HCs.out _ h; have := (HS.out.row.base i hi).1; omega))
    have o2 : w2.cell? ⟨ob, 0, none⟩ = some (.slice a acc.length cap) := HO2.out.cell (j := 0) rfl
    have HW2 : Hid (w00.heap.size ≤ w2.heap.size) := Lib.hid (Nat.le_trans HS.out.kp.size hk2.size)
    have HLn : Hid ((acc.map Inf.row).length + (l.map fun m => (infN s ks m).row).length = acc.length + l.length) := Lib.hid (by rw [List.length_map, List.length_map])
    clear hr2 hz2 hm2 hk2
    go_upto_region 5 with (at_builtin; refine wpList_appRows (w := w2) HA2.out HR2.out (fun e => HZ2.out (List.map_eq_nil_iff.1 e)) Tryz.underlying46 HI.out.1 HI.out.2.1 HI.out.2.2.1 HI.out.2.2.2 rfl (by decide) (by decide) (fun r hr u hu => by obtain ⟨m, _, rfl⟩ := List.mem_map.1 hr; exact inf_one _ u hu) (by rw [HLn.out]; have := HA.out; omega) HW2.out rfl (.tmp 20) (.tmp 21) rfl (by rw [List.length_map]; rfl) (by rw [List.length_map]; rfl) (fun a3 cap3 w3 r1 r2 r3 r4 => ?_); rw [HLn.out]; have HR3 := Lib.hid r1; have HK3 := Lib.hid r2; have HB3 := Lib.hid r3; have HZ3 : Hid (l = [] → a3 = a ∧ cap3 = cap) := Lib.hid (fun e => r4 (by rw [e]; rfl)); have HO3 : Hid (BoxIs w3 ob #[.slice a acc.length cap] 46) := Lib.hid (HO2.out.kp r2 HS.out.ne_ob.2.2.2.1); have o3 : w3.cell? ⟨ob, 0, none⟩ = some (.slice a acc.length cap) := HO3.out.cell (j := 0) rfl; have o3f : w3.frozen? ⟨ob, 0, none⟩ = false := Lib.frozen_of_heap HO3.out 0; obtain ⟨L, hL⟩ : ∃ L, acc.length + l.length = L := ⟨_, rfl⟩; rw [hL]; have HLL := Lib.hid hL; clear r1 r2 r3 r4 hL)
    have HK4 : Hid (Kp (fun i => i = M.ca ∨ i = M.si ∨ i = ob ∨ rb a i) W (w3.setCell ⟨ob, 0, none⟩ (.slice a3 L cap3))) := Lib.hid (((HK2.out.mono (fun i h => h.elim .inl (fun h => .inr (.inl h)))).trans (HK3.out.mono (fun i h => .inr (.inr (.inr h))))).set (b := ob) (.inl (.inr (.inr (.inl rfl)))) 0 _)
    have hkset : Kp (fun i => i = ob) w3 (w3.setCell ⟨ob, 0, none⟩ (.slice a3 L cap3)) := (Kp.refl (fun i => i = ob) w3).set (b := ob) (.inl rfl) 0 _
    obtain ⟨q1, q2, q3, q4, q5⟩ := HS.out.ne_ob
    have hbase := HS.out.row.base
    have hmap : (acc ++ l.map fun m => infN s ks m).map Inf.row = acc.map Inf.row ++ l.map fun m => (infN s ks m).row := by rw [List.map_append, List.map_map]; rfl
    have hlen : (acc ++ l.map fun m => infN s ks m).length = L := by rw [List.length_append, List.length_map, HLL.out]
    have ht43 : ∀ b vs t, BoxIs w3 b vs t → t ≠ 43 → ¬ rb a3 b := fun b vs t hb ht => by
      rintro ⟨ad, rfl, rfl⟩
      rcases HR3.out.2.2 with ⟨hv, _⟩ | ⟨g, c, cur, hv, _, hg, _⟩
      · cases hv
      · injection hv with e1 e2 e3
        injection e1 with e1
        subst e1
        have := hb.symm.trans hg
        simp only [Option.some.injEq, Obj.cells.injEq] at this
        exact ht this.2.1
    have HS4 : Hid (AllS w00 w0.heap.size M s sb ob qb (acc ++ l.map fun m => infN s ks m) a3 cap3 (w3.setCell ⟨ob, 0, none⟩ (.slice a3 L cap3))) := Lib.hid (by
      refine ⟨HS.out.kp.extK HK4.out (fun i h => ?_), ?_, HS.out.own, HS.out.sbx.kp HK4.out (fun h => ?_), HS.out.qbx.kp HK4.out (fun h => ?_), ?_, ?_, fun e => ?_, hlo⟩
      · rcases h with h | h | h | h
        · exact .inl (.inl h)
        · exact .inl (.inr h)
        · exact .inr (by rw [h]; exact hlo.2.1)
        · exact .inr (hbase i h).1
      · exact (HM2.out.kp HK3.out (fun i hi h => by have := HS.out.own i hi; have := (hbase i h).1; omega)).kp hkset (fun i hi h => by have := HS.out.own i hi; omega)
      · rcases h with h | h | h | h
        · have := HCs.out sb (.inl h); omega
        · have := HCs.out sb (.inr h); omega
        · exact q1 h
        · exact q3 h
      · rcases h with h | h | h | h
        · have := HCs.out qb (.inl h); omega
        · have := HCs.out qb (.inr h); omega
        · exact q2 h
        · exact q5 h
      · rw [hlen]
        exact BoxIs.putAt HO3.out 0 (.slice a3 L cap3)
      · rw [hmap]
        exact HR3.out.kp hkset (fun i hi h => ht43 ob _ _ HO3.out (by decide) (h ▸ hi))
      · obtain ⟨e1, e2⟩ := List.append_eq_nil_iff.1 e
        obtain ⟨g1, g2⟩ := HZ3.out (by simpa using e2)
        rw [g1, g2]
        exact HS.out.nil e1)
    have HRl : Hid (RowG 43 7 (w3.setCell ⟨ob, 0, none⟩ (.slice a3 L cap3)) W.heap.size ga gc (l.map fun m => (infN s ks m).row)) := Lib.hid ((HR2.out.kp HK3.out (fun i hi h => by have := (HR2.out.base i hi).1; have := (hbase i h).2; omega)).kp hkset (fun i hi h => by have h1 := (HR2.out.base i hi).1; have h2 := HS.out.obx.lt; omega))
    have HFr : Hid ((∀ j, rb a3 j → rb a j ∨ W.heap.size ≤ j) ∧ ∀ j, rb ga j → ¬ rb a3 j) := Lib.hid ⟨fun j hj => (HB3.out j hj).imp id (fun h => Nat.le_trans HK2.out.size h), fun j hj h => by
      rcases HB3.out j h with h | h
      · have := (HR2.out.base j hj).1; have := (hbase j h).2; omega
      · have := (HR2.out.base j hj).2; omega⟩
    clear HR2 HZ2 HM2 HK2 HO2 HA2 o2 HW2 HLn HR3 HK3 HB3 HZ3 HO3 o3 o3f HLL hkset q1 q2 q3 q4 q5 hbase hmap hlen ht43
    generalize w3.setCell ⟨ob, 0, none⟩ (.slice a3 L cap3) = w4 at *
    go_upto_region 6 with fail
    go_loopg [25] l.length (fun gk s25 wx => ∃ (i : Nat) (out : List Inf) (a' : Option Addr) (cap' : Nat), s25 = .int .i64 i ∧ i + gk = l.length ∧ Hid (Part s ks l i out) ∧ Hid (AllS w00 w0.heap.size M s sb ob qb (acc ++ out) a' cap' wx) ∧ Hid (RowG 43 7 wx W.heap.size ga gc (l.map fun m => (infN s ks m).row)) ∧ Hid ((∀ j, rb a' j → rb a j ∨ W.heap.size ≤ j) ∧ ∀ j, rb ga j → ¬ rb a' j) ∧ Hid (Kp (fun i => i = M.ca ∨ i = M.si ∨ i = ob ∨ rb a i) W wx))
    case atStart => exact ⟨0, _, a3, cap3, rfl, Nat.zero_add _, Lib.hid (Part.start HT.out HL.out), HS4, HRl, HFr, HK4⟩
    case round =>
      clear HS4 HRl HFr HK4
      obtain ⟨i, out, a', cap', rfl, hig, HPa, HSx, HRx, HFx, HKx⟩ := hrel
      by_cases hlt : i < l.length
      case neg =>
        have hltz : ¬ (i : Int) < (l.length : Int) := by omega
        have hi : i = l.length := by omega
        rw [hi] at HPa
        go_wp2_with fail
        go_ret
        exact ⟨rfl, out, a', cap', HPa.out.all HT.out HL.out, HSx.out, HFx.out.1, HKx.out⟩
      case pos =>
        have hltz : (i : Int) < (l.length : Int) := by omega
        obtain ⟨m, hm⟩ : ∃ m, l[i]? = some m := ⟨_, List.getElem?_eq_getElem hlt⟩
        obtain ⟨g, rfl⟩ := HRx.out.some_of (by rw [List.length_map]; omega)
        obtain ⟨x, hx⟩ : ∃ x, infN s ks m = x := ⟨_, rfl⟩
        have hrow : (l.map fun m => (infN s ks m).row)[i]? = some x.row := by rw [List.getElem?_map, hm, ← hx]; rfl
        have c0 : wr.cell? ⟨g, i * 7, none⟩ = some (.string x.path) := HRx.out.cell_at (by decide) hrow (j := 0) rfl
        have c1 : wr.cell? ⟨g, i * 7 + 1, none⟩ = some (.bool x.dir) := HRx.out.cell_at (by decide) hrow (j := 1) rfl
        have c2 : wr.cell? ⟨g, i * 7 + 2, none⟩ = some (.int .i64 x.size) := HRx.out.cell_at (by decide) hrow (j := 2) rfl
        have c3 : wr.cell? ⟨g, i * 7 + 3, none⟩ = some (.int .i64 x.time) := HRx.out.cell_at (by decide) hrow (j := 3) rfl
        have c4 : wr.cell? ⟨g, i * 7 + 4, none⟩ = some (.slice none 0 0) := HRx.out.cell_at (by decide) hrow (j := 4) rfl
        have c5 : wr.cell? ⟨g, i * 7 + 5, none⟩ = some (.slice none 0 0) := HRx.out.cell_at (by decide) hrow (j := 5) rfl
        have c6 : wr.cell? ⟨g, i * 7 + 6, none⟩ = some (.string ⟨#[]⟩) := HRx.out.cell_at (by decide) hrow (j := 6) rfl
        have HXm := Lib.hid (And.intro hm hx)
        clear hx hm hrow
        obtain ⟨A, dd, z, t⟩ := x
        dsimp only at c0 c1 c2 c3
        go_upto_region 8 with fail
        have hb5 : Below wr.heap.size wr (wr.alloc (.cells #[.string A, .bool dd, .int .i64 z, .int .i64 t, .slice none 0 0, .slice none 0 0, .string ⟨#[]⟩] 43)) := bAlloc (Below.refl _ _) _
        have hx5 : BoxIs (wr.alloc (.cells #[.string A, .bool dd, .int .i64 z, .int .i64 t, .slice none 0 0, .slice none 0 0, .string ⟨#[]⟩] 43)) wr.heap.size #[.string A, .bool dd, .int .i64 z, .int .i64 t, .slice none 0 0, .slice none 0 0, .string ⟨#[]⟩] 43 := heap_alloc_new _ _
        have HB5 := Lib.hid hb5
        have HS5 := Lib.hid (HSx.out.under hb5)
        have HR5 := Lib.hid (HRx.out.kp (Kp.of (F := fun _ => False) hb5) (fun _ _ e => e))
        have d0 := hx5.cell (j := 0) rfl
        have d1 := hx5.cell (j := 1) rfl
        have dq : (wr.alloc (.cells #[.string A, .bool dd, .int .i64 z, .int .i64 t, .slice none 0 0, .slice none 0 0, .string ⟨#[]⟩] 43)).cell? ⟨qb, 0, none⟩ = some (.func (.func 34) #[] #[ptr sb, ptr ob, ptr qb]) := HS5.out.qbx.cell (j := 0) rfl
        obtain ⟨nx, hnx⟩ : ∃ nx, wr.heap.size = nx := ⟨_, rfl⟩
        rw [hnx] at d0 d1 ⊢
        clear hb5 hx5 c0 c1 c2 c3 c4 c5 c6 hnx
        generalize wr.alloc _ = w5 at *
        obtain ⟨hxm, hxe⟩ := HXm.out
        have hml := List.mem_of_getElem? hxm
        have hFm := HT.out.kid_at HL.out hml
        have hA : pathR s.F (ks ++ [kyOf s.f m.name]).reverse = A := congrArg Inf.path hxe
        have hdd : m.dir = dd := congrArg Inf.dir hxe
        cases dd with
        | false =>
          have HPn := Lib.hid (HPa.out.file HT.out HL.out hxm hdd)
          clear hxm hxe hml hFm hA hdd HXm
          go_wp2_with fail
          go_roundg (gk - 1)
          case measure => omega
          case rel => exact ⟨i + 1, out, a', cap', by go_num, by omega, HPn, HS5, HR5, HFx, Lib.hid (HKx.out.trans (Kp.of HB5.out))⟩
        | true =>
          have hD1 : 1 ≤ D := by
            have := HDp.out [kyOf s.f m.name] m hFm
            simpa using this
          have HIc := Lib.hid (IH.out (D - 1) (by omega) A (ks ++ [kyOf s.f m.name]) m (acc ++ out) a' cap' w5 (fun ls m' h => by
            have := HDp.out ([kyOf s.f m.name] ++ ls) m' (by rw [← List.append_assoc]; exact h)
            simp at this
            omega) HS5.out (by rw [← hA]; exact HNm.out.keys _ _ hFm (by simp)) (by rw [← hA]; exact HNm.out.path _ _ hFm (by simp)) hFm hdd (by
              have h1 := HPa.out.length HMo.out
              have h2 := HA.out
              rw [List.length_append]
              omega))
          have HXm2 := Lib.hid hxm
          clear hxm hxe hml hFm hA hdd HXm hD1 IH
          go_wp2_with (go_at_call 34; refine HIc.out.mono ?_; rintro e w6 ⟨rfl, out2, a2, cap2, hrd, hs6, hfr, hk6⟩)
          go_roundg (gk - 1)
          case measure => omega
          case rel =>
            have hgl := HR5.out.base
            have hgx := HRx.out.base
            refine ⟨i + 1, out ++ out2, a2, cap2, by go_num, by omega, Lib.hid (HPa.out.dir HT.out HL.out HXm2.out hrd), Lib.hid (by rw [← List.append_assoc]; exact hs6), Lib.hid (HR5.out.kp hk6 (fun j hj h => ?_)), Lib.hid ⟨fun j hj => ?_, fun j hj h => ?_⟩, Lib.hid ((HKx.out.trans (Kp.of HB5.out)).extK hk6 (fun j h => ?_))⟩
            · have h1 := (hgx j hj).1
              have h2 := HS.out.kp.size
              have h3 := HS.out.obx.lt
              rcases h with h | h | h | h
              · have := HCs.out j (.inl h); omega
              · have := HCs.out j (.inr h); omega
              · omega
              · exact HFx.out.2 j hj h
            · rcases hfr j hj with h | h
              · exact HFx.out.1 j h
              · exact .inr (Nat.le_trans (Nat.le_trans HKx.out.size HB5.out.size) h)
            · rcases hfr j h with h | h
              · exact HFx.out.2 j hj h
              · have := (hgx j hj).2
                have := HB5.out.size
                omega
            · rcases h with h | h | h | h
              · exact .inl (.inl h)
              · exact .inl (.inr (.inl h))
              · exact .inl (.inr (.inr (.inl h)))
              · exact (HFx.out.1 j h).imp (fun h => .inr (.inr (.inr h))) id
end Go.Proofs.YtikegddlbelfaaaGreatDoor
namespace Go.Proofs.YtikegddlbelfaaaGreatDoor
open Go.RowKit

theorem box_three (w : World) (us vs xs : Array Value) (t u v : TypeId) : BoxIs (((w.alloc (.cells us t)).alloc (.cells vs u)).alloc (.cells xs v)) w.heap.size us t ∧ BoxIs (((w.alloc (.cells us t)).alloc (.cells vs u)).alloc (.cells xs v)) (w.heap.size + 1) vs u ∧ BoxIs (((w.alloc (.cells us t)).alloc (.cells vs u)).alloc (.cells xs v)) (w.heap.size + 1 + 1) xs v ∧ Below w.heap.size w (((w.alloc (.cells us t)).alloc (.cells vs u)).alloc (.cells xs v)) := by
  have h2 := BoxIs.new (w.alloc (.cells us t)) vs u
  have hz : (w.alloc (.cells us t)).heap.size = w.heap.size + 1 := by simp
  rw [hz] at h2
  have h3 := BoxIs.new ((w.alloc (.cells us t)).alloc (.cells vs u)) xs v
  have hz2 : ((w.alloc (.cells us t)).alloc (.cells vs u)).heap.size = w.heap.size + 1 + 1 := by simp
  rw [hz2] at h3
  exact ⟨(BoxIs.new w _ _).under (bAlloc (bAlloc (Below.refl _ _) _) _), h2.under (bAlloc (Below.refl _ _) _), h3, bAlloc (bAlloc (bAlloc (Below.refl _ _) _) _) _⟩
theorem Named.deep {s : TSt} (h : Named s) : Deep s.F [] 1025 := by
  intro ls m hm
  rw [List.nil_append] at hm
  by_cases h0 : ls = []
  · rw [h0]; exact Nat.zero_le _
  · have h1 := h.keys ls m hm h0
    have h2 := Wh.path_size (h.path ls m hm h0)
    have h3 := Wh.namesOf_le (pathR s.F ls.reverse)
    have h4 := congrArg List.length h1
    unfold kysOf at h4
    rw [List.length_map] at h4
    omega
def AllT (w : World) (B : Nat) (M : MB) (s : TSt) (e : Ending) (w' : World) : Prop :=
  ∃ (l out : List Inf) (a : Option Addr) (cap : Nat), e = .returned (.tuple #[.slice a l.length cap, .int .i64 0]) ∧ HoldsR w' a 7 (l.map Inf.row) ∧ Reads s [] out ∧ l.Perm out ∧ (∀ ad, a = some ad → w.heap.size ≤ ad.block) ∧ MemT w' B M s ∧ Kp (fun i => i = M.ca ∨ i = M.si) w w'
set_option maxHeartbeats 8000000 in
set_option maxRecDepth 100000 in
theorem allT_any (w w0 : World) (M : MB) (s : TSt) (pg : Nat) (hb0 : Below w0.heap.size w0 w) (hE : Env w0) (hM : MemT w w0.heap.size M s) (hNm : Named s) (hmost : AtMost s.F 4000) (hpg : s.f.page = (pg : Int)) (hpg1 : 1 ≤ pg ∧ pg ≤ 100000) (hsum : s.f.sums = 0) (hid : hasB s.f 512 = false) :
    Calls Tryz.prog 12 #[.iface 28 (ptr M.b), .string ⟨#[]⟩] w (AllT w w0.heap.size M s) := by
  obtain ⟨n, hn, _, hd⟩ := hM.tree.root
  have HRd := Lib.hid (fun sb ob qb W (h : AllS w w0.heap.size M s sb ob qb [] none 0 W) => readT_any w w0 M s sb ob qb pg hb0 hE hNm hmost hpg hpg1 hsum hid 1025 ⟨#[]⟩ [] n [] none 0 W hNm.deep h rfl rfl hn hd (by decide))
  unfold ReadPost at HRd
  have HSo := Lib.hid (fun W B cap a (l : List Inf) (h1 : RowG 43 7 W B a cap (l.map Inf.row)) h2 h3 h4 => sortI_any (w := W) (B := B) (cap := cap) (a := a) l h1 h2 h3 h4)
  unfold SortIPost at HSo
  have HPs : Hid (∀ out, Reads s [] out → (∀ x ∈ out, x.path.size ≤ 9223372036854775807) ∧ out.length ≤ 4000) := Lib.hid (fun out hr => ⟨fun x hx => by
    obtain ⟨ps, rfl, _, h3⟩ := hr
    obtain ⟨p, hp, rfl⟩ := List.mem_map.1 hx
    obtain ⟨h4, t, h5, h6⟩ := (h3 p).1 hp
    have := Wh.path_size (hNm.path p.1 p.2 h4 (by rw [h6]; simpa using h5))
    show (pathR s.F p.1.reverse).size ≤ _
    omega, hr.length hmost⟩)
  have HM := Lib.hid hM
  have HBx := Lib.hid (box_three w #[.iface 28 (ptr M.b)] #[.slice none 0 0] #[.nilFunc] 81 46 51)
  clear hb0 hE hM hNm hmost hpg hsum hid hn hd
  go_enter Tryz.func12, Tryz.ntmps12
  go_upto_region 3 with fail
  obtain ⟨h1, h2, h3, h4⟩ := HBx.out
  obtain ⟨sb, hsb⟩ : ∃ sb, w.heap.size = sb := ⟨_, rfl⟩
  have HSb := Lib.hid hsb
  rw [hsb] at h1 h2 h3 ⊢
  have H1 := Lib.hid h1
  have H2 := Lib.hid h2
  have H3 := Lib.hid h3
  have H4 := Lib.hid h4
  clear h1 h2 h3 h4 hsb HBx
  generalize ((w.alloc _).alloc _).alloc _ = w1 at *
  obtain ⟨ob, hob⟩ : ∃ ob, sb + 1 = ob := ⟨_, rfl⟩
  rw [hob] at H2 H3 ⊢
  obtain ⟨qb, hqb⟩ : ∃ qb, ob + 1 = qb := ⟨_, rfl⟩
  rw [hqb] at H3 ⊢
  have HOb := Lib.hid (And.intro hob hqb)
  clear hob hqb
  have f3 : w1.frozen? ⟨qb, 0, none⟩ = false := Lib.frozen_of_heap H3.out 0
  have f3c : w1.cell? ⟨qb, 0, none⟩ = some .nilFunc := H3.out.cell (j := 0) rfl
  go_upto_region 4 with fail
  clear f3 f3c
  have hqn : qb ≠ sb ∧ qb ≠ ob := by have := HOb.out; omega
  have hks : Kp (fun i => i = qb) w1 (w1.setCell ⟨qb, 0, none⟩ (.func (.func 34) #[] #[ptr sb, ptr ob, ptr qb])) := (Kp.refl (fun i => i = qb) w1).set (b := qb) (.inl rfl) 0 _
  have hlo : w.heap.size ≤ sb ∧ w.heap.size ≤ ob ∧ w.heap.size ≤ qb := by have := HOb.out; have := HSb.out; omega
  have hS : AllS w w0.heap.size M s sb ob qb [] none 0 (w1.setCell ⟨qb, 0, none⟩ (.func (.func 34) #[] #[ptr sb, ptr ob, ptr qb])) := by
    refine ⟨((Kp.of H4.out).mono (fun i h => absurd h (by exact id))).extK hks (fun i h => .inr (by rw [h]; exact hlo.2.2)), (HM.out.below H4.out).kp hks (fun i hi h => ?_), fun i hi => HM.out.lt hi, H1.out.kp hks (fun h => hqn.1 h.symm), BoxIs.putAt H3.out 0 _, H2.out.kp hks (fun h => hqn.2 h.symm), RowG.nil _ _ _ _, fun _ => ⟨rfl, rfl⟩, hlo⟩
    have := HM.out.lt hi
    omega
  have HRx := Lib.hid (HRd.out sb ob qb _ hS)
  have s4 : (w1.setCell ⟨qb, 0, none⟩ (.func (.func 34) #[] #[ptr sb, ptr ob, ptr qb])).cell? ⟨qb, 0, none⟩ = some (.func (.func 34) #[] #[ptr sb, ptr ob, ptr qb]) := hS.qbx.cell (j := 0) rfl
  clear hks hS HRd H1 H2 H3 H4
  generalize w1.setCell ⟨qb, 0, none⟩ (.func (.func 34) #[] #[ptr sb, ptr ob, ptr qb]) = w2 at *
  go_upto_region 7 with (go_at_call 34; refine HRx.out.mono ?_; rintro e w3 ⟨rfl, out, a, cap, hrd, hs3, hfr, hk3⟩)
  rw [List.nil_append] at hs3
  have HS3 := Lib.hid hs3
  have HRe := Lib.hid hrd
  have o3 : w3.cell? ⟨ob, 0, none⟩ = some (.slice a out.length cap) := hs3.obx.cell (j := 0) rfl
  have HSx := Lib.hid (HSo.out w3 w.heap.size cap a out hs3.row hs3.nil (HPs.out out hrd).1 (Nat.le_trans (HPs.out out hrd).2 (by decide)))
  clear hrd hs3 hfr hk3 HRx HSo
  go_wp2_with (first
    | (go_at_call 36; refine HSx.out.mono ?_; rintro e w4 ⟨rfl, l, hp4, hh4, hk4⟩; have HO4 : Hid (BoxIs w4 ob #[.slice a out.length cap] 46) := Lib.hid (HS3.out.obx.kp hk4 HS3.out.ne_ob.2.2.2.1); have o4 : w4.cell? ⟨ob, 0, none⟩ = some (.slice a out.length cap) := HO4.out.cell (j := 0) rfl; have HK4 := Lib.hid hk4; have HP4 := Lib.hid (And.intro hp4 hh4); clear hp4 hh4 hk4 o3))
  go_ret2
  have hbase := HS3.out.row.base
  refine ⟨l, out, a, cap, by rw [HP4.out.1.length_eq]; rfl, HP4.out.2, HRe.out, HP4.out.1, fun ad h => (hbase ad.block ⟨ad, h, rfl⟩).1, HS3.out.mem.kp HK4.out (fun i hi h => ?_), HS3.out.kp.extK HK4.out (fun i h => .inr (hbase i h).1)⟩
  have h1 := HS3.out.own i hi
  have h2 := (hbase i h).1
  omega
end Go.Proofs.YtikegddlbelfaaaGreatDoor
namespace Go.Proofs.YtikegddlbelfaaaGreatDoor
open Go.RowKit

theorem landedN_any (w : World) (hE : Env w) : Calls Tryz.prog 4 #[] w fun e w' => e = .returned (.bool true) ∧ Below w.heap.size w w' := by
  have HC := Lib.hid (check_any ⟨#[47]⟩ w hE (by decide))
  rw [show Wh.pathErr (⟨#[47]⟩ : ByteArray).data.toList = 1 by decide] at HC
  clear hE
  go_enter Tryz.func4, Tryz.ntmps4
  go_wp2_with (go_at_call 15; refine HC.out.mono ?_; rintro e w1 ⟨rfl, hb1⟩)
  go_ret
  exact ⟨rfl, hb1⟩
theorem clock5_any (w : World) :
    Calls Tryz.prog 6 #[.int .i64 5] w fun e w' => e = .returned (.pointer (some ⟨w.heap.size, 0, none⟩)) ∧ w' = w.alloc (.cells #[.int .i64 5] 66) := by
  go_enter Tryz.func6, Tryz.ntmps6
  go_wp2_with fail
  go_ret
  exact ⟨rfl, rfl⟩
theorem hasPrefix_under (p q : ByteArray) : Lib.hasPrefix q.data.toList (p ++ ⟨#[47]⟩ : ByteArray).data.toList = under p q := by
  unfold under
  rw [ByteArray.toList_data_append]
  rfl
set_option maxHeartbeats 4000000 in
set_option maxRecDepth 100000 in
theorem clashes_any (w : World) (mb : Nat) (g : ByteArray → Option Value) (p : ByteArray) (hm : MapF w mb g) (hq : ∀ q v, g q = some v → q.size ≤ 1024) (hp : p.size ≤ 1024) :
    Calls Tryz.prog 10 #[.map (some mb), .string p] w fun e w' => ∃ r : Bool, e = .returned (.bool r) ∧ (r = false → ∀ q v, g q = some v → under p q = false ∧ under q p = false) ∧ Below w.heap.size w w' := by
  have HK := Lib.hid hm
  have HQ := Lib.hid hq
  have HPf := Lib.hid (fun s t W => Tryz.strings_HasPrefix s t W)
  clear hm hq
  go_enter Tryz.func10, Tryz.ntmps10
  go_upto_region 2 with (at_range; refine wpList_rangeN w HK.out rfl _ _ rfl Tryz.underlying36 rfl (fun w1 L hi1 hnd1 hm1 hb1 => ?_); have HIt := Lib.hid hi1; have HB1 := Lib.hid hb1; have HL := Lib.hid hm1; clear hi1 hb1 hnd1 hm1)
  try simp only [Act.put, List.setIfInBounds_toArray, List.set_cons_zero, List.set_cons_succ]
  obtain ⟨r, hr⟩ : ∃ r, w.heap.size = r := ⟨_, rfl⟩
  rw [hr] at HIt ⊢
  have HRz := Lib.hid hr
  clear hr
  go_loopg [4] L.length (fun gk s4 wx => ∃ (acc left : List (ByteArray × Value)), left.length = gk ∧ s4 = .bool false ∧ Hid (L.Perm (acc ++ left)) ∧ Hid (ItN wx mb r left) ∧ Hid (∀ kv ∈ acc, under p kv.1 = false ∧ under kv.1 p = false) ∧ Hid (Below r w wx))
  case atStart => exact ⟨[], L, rfl, rfl, Lib.hid (List.Perm.refl _), HIt, Lib.hid (fun kv h => by simp at h), by rw [← HRz.out]; exact HB1⟩
  case round =>
    clear HIt HB1
    obtain ⟨acc, left, hlg, rfl, HP, HIt, HA, HBx⟩ := hrel
    by_cases h0 : left = []
    · subst h0
      have hnf := fun ty => HIt.out.next_false (P := Tryz.prog) ty
      go_wp2_with fail
      go_ret
      refine ⟨false, rfl, fun _ q v hv => ?_, by rw [HRz.out]; exact HBx.out⟩
      have h1 := HP.out.mem_iff.1 ((HL.out q v).2 hv)
      rw [List.append_nil] at h1
      exact HA.out _ h1
    · have hgp : 0 < gk := by rw [← hlg]; exact List.length_pos_iff.2 h0
      go_upto_region 4 with (at_next; refine wpList_nextN wr HIt.out h0 rfl _ rfl rfl (fun q v left' w1 hp1 hi1 hk1 he1 => ?_); have HI1 := Lib.hid hi1; have HB1 : Hid (Below r w w1) := Lib.hid (HBx.out.trans (hk1.below (fun i e => Nat.le_of_eq e.symm) (Nat.le_trans (Nat.le_of_eq HRz.out.symm) HBx.out.size))); have hen := he1; have HP1 := Lib.hid hp1; have hqs : q.size ≤ 1024 := HQ.out q v ((HL.out q v).1 (HP.out.mem_iff.2 (List.mem_append.2 (.inr (hp1.mem_iff.2 (by simp)))))); clear hi1 hk1 he1 hp1)
      have HF1 := Lib.hid (fun W => HPf.out q (p ++ ⟨#[47]⟩) W)
      have HF2 := Lib.hid (fun W => HPf.out p (q ++ ⟨#[47]⟩) W)
      rw [hasPrefix_under] at HF1 HF2
      cases hu1 : under p q with
      | true =>
        rw [hu1] at HF1
        go_wp2_with (go_at_call 28; refine (HF1.out _).mono ?_; rintro e w2 ⟨rfl, hw⟩; have hw2 := hw.symm; clear hw; subst hw2)
        go_ret
        exact ⟨true, rfl, fun h => absurd h (by decide), by rw [HRz.out]; exact HB1.out⟩
      | false =>
        rw [hu1] at HF1
        cases hu2 : under q p with
        | true =>
          rw [hu2] at HF2
          go_wp2_with (first
            | (go_at_call 28; refine (HF1.out _).mono ?_; rintro e w2 ⟨rfl, hw⟩; have hw2 := hw.symm; clear hw; subst hw2)
            | (go_at_call 28; refine (HF2.out _).mono ?_; rintro e w2 ⟨rfl, hw⟩; have hw2 := hw.symm; clear hw; subst hw2))
          go_ret
          exact ⟨true, rfl, fun h => absurd h (by decide), by rw [HRz.out]; exact HB1.out⟩
        | false =>
          rw [hu2] at HF2
          go_wp2_with (first
            | (go_at_call 28; refine (HF1.out _).mono ?_; rintro e w2 ⟨rfl, hw⟩; have hw2 := hw.symm; clear hw; subst hw2)
            | (go_at_call 28; refine (HF2.out _).mono ?_; rintro e w2 ⟨rfl, hw⟩; have hw2 := hw.symm; clear hw; subst hw2))
          go_roundg left'.length
          case measure =>
            have := HP1.out.length_eq
            rw [List.length_cons] at this
            omega
          case rel =>
            refine ⟨acc ++ [(q, v)], left', rfl, rfl, Lib.hid ?_, HI1, Lib.hid (fun kv hkv => ?_), HB1⟩
            · rw [List.append_assoc]
              exact HP.out.trans (HP1.out.append_left acc)
            · rcases List.mem_append.1 hkv with h | h
              · exact HA.out kv h
              · obtain rfl := List.mem_singleton.1 h
                exact ⟨hu1, hu2⟩
end Go.Proofs.YtikegddlbelfaaaGreatDoor
