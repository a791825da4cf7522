/-
  names.Decode for a right encoding, walked.
-/
import Derived.Test.YtbcadgooelcnhaaDoorDecName
import Derived.Test.YtbcadgooelcnhaaDoorOneLaw
namespace Go.Proofs.YtbcadgooelcnhaaDoor
open Go.RowKit

/-- A slice of texts that may be written, in a block of its own. -/
def SlotsAt (B : Nat) (w : World) (a : Option Addr) (l : List ByteArray) : Prop := l = [] ∨ ∃ b, a = some ⟨b, 0, none⟩ ∧ B ≤ b ∧ b < w.heap.size ∧ StrsAt w b l

theorem SlotsAt.under {B : Nat} {w w' : World} {a : Option Addr} {l : List ByteArray} (h : SlotsAt B w a l) (hb : Below w.heap.size w w') : SlotsAt B w' a l := by
  rcases h with h | ⟨b, ha, hB, hlt, hS⟩
  · exact .inl h
  · exact .inr ⟨b, ha, hB, Nat.lt_of_lt_of_le hlt hb.size, hS.keep hb hlt⟩

theorem SlotsAt.holds {B : Nat} {w : World} {a : Option Addr} {l : List ByteArray} (h : SlotsAt B w a l) : Holds w a (l.map Value.string) := by
  rcases h with h | ⟨b, ha, hB, hlt, hS⟩
  · subst h; exact .inl rfl
  · subst ha; exact hS.holds hlt

theorem StrsAt.new (w : World) (t : TypeId) (l : List ByteArray) : StrsAt (w.alloc (.cells (l.map Value.string).toArray t)) w.heap.size l := by
  intro j x hj
  refine ⟨cell_of_new w t l j x hj, ?_⟩
  have hg := heap_alloc_new w (.cells (l.map Value.string).toArray t)
  simp only [World.frozen?, hg]
  simp

/-- A slice of texts that may be written comes back. -/
def SlotsPost (xs : List ByteArray) (w : World) (e : Ending) (w' : World) : Prop :=
  ∃ a c, e = .returned (.slice a xs.length c) ∧ xs.length ≤ c ∧ SlotsAt w.heap.size w' a xs ∧ Below w.heap.size w w'

set_option maxHeartbeats 1000000 in
theorem split_own (s : ByteArray) (w : World) (hE : Env w) (hs : s.size < 4294967281) :
    Calls Tryd.prog 85 #[.string s] w (SlotsPost (Wh.namesOf s) w) := by
  have HE := Lib.hid hE
  clear hE
  cases h0 : s.toList.isEmpty
  · have e1 : Wh.namesOf s = Wh.pieces 47 s := Wh.namesOf_some (by rw [← Lib.toList_data]; exact h0)
    rw [e1]
    clear e1
    go_enter Tryd.func85, Tryd.ntmps85
    go_wp2_with fail
    refine (split_one 47 s _ HE.out hs).mono ?_
    rintro e w' ⟨rfl, rfl⟩
    have hh := Lib.hid (StrsAt.new w 9 (Wh.pieces 47 s))
    go_wp2_with fail
    go_ret
    exact ⟨_, _, rfl, Nat.le_refl _, .inr ⟨_, rfl, Nat.le_refl _, by simp, hh.out⟩, bAlloc (Below.refl _ _) _⟩
  · have e1 : Wh.namesOf s = [] := Wh.namesOf_none (by rw [← Lib.toList_data]; exact h0)
    rw [e1]
    clear e1
    go_enter Tryd.func85, Tryd.ntmps85
    go_wp2_with fail
    go_ret
    exact ⟨none, 0, rfl, Nat.le_refl _, .inl rfl, Below.refl _ _⟩

/-- The first k are done, the others are as they were. -/
def mix (ys xs : List ByteArray) (k : Nat) : List ByteArray := ys.take k ++ xs.drop k
theorem mix_zero (ys xs : List ByteArray) : mix ys xs 0 = xs := by simp [mix]
theorem mix_end {ys xs : List ByteArray} {k : Nat} (h1 : ys.length ≤ k) (h2 : xs.length ≤ k) : mix ys xs k = ys := by
  simp [mix, List.take_of_length_le h1, List.drop_eq_nil_of_le h2]
theorem mix_at {ys xs : List ByteArray} {k : Nat} {x : ByteArray} (hl : ys.length = xs.length) (h : xs[k]? = some x) : (mix ys xs k)[k]? = some x := by
  have hk := (List.getElem?_eq_some_iff.1 h).1
  unfold mix
  have e : (ys.take k).length = k := by rw [List.length_take]; omega
  rw [List.getElem?_append_right (by omega), e, Nat.sub_self, List.getElem?_drop, Nat.add_zero, h]
theorem mix_set {ys xs : List ByteArray} {k : Nat} {x y : ByteArray} (hl : ys.length = xs.length) (hx : xs[k]? = some x) (hy : ys[k]? = some y) : (mix ys xs k).set k y = mix ys xs (k + 1) := by
  have hk := List.getElem?_eq_some_iff.1 hx
  have hk1 : k < xs.length := hk.1
  unfold mix
  have e : (ys.take k).length = k := by rw [List.length_take]; omega
  rw [List.set_append_right _ _ (by omega), e, Nat.sub_self, List.drop_eq_getElem_cons hk.1, List.set_cons_zero, List.take_add_one, hy, Option.toList_some, List.append_assoc]
  rfl
theorem mix_length {ys xs : List ByteArray} {k : Nat} (hl : ys.length = xs.length) (hk : k ≤ xs.length) : (mix ys xs k).length = xs.length := by
  unfold mix
  rw [List.length_append, List.length_take, List.length_drop]
  omega

theorem total_le {m : Nat} : ∀ {l : List ByteArray}, (∀ e ∈ l, e.size ≤ m) → Wh.total l ≤ (m + 1) * l.length
  | [], _ => by simp [Wh.total]
  | a :: l, h => by
    have h1 := h a (by simp)
    have h2 := total_le (l := l) (fun e he => h e (by simp [he]))
    have e : Wh.total (a :: l) = a.size + 1 + Wh.total l := by simp [Wh.total]
    rw [e, List.length_cons, Nat.mul_add]
    omega

theorem decs_size {x : Wh.Enc} {s e : ByteArray} (h : e ∈ Wh.decsOf x s) : e.size ≤ s.size := by
  unfold Wh.decsOf at h
  obtain ⟨n, hn, rfl⟩ := List.mem_map.1 h
  have hns : n.size ≤ s.size := by
    unfold Wh.namesOf at hn
    split at hn
    · cases hn
    · exact Wh.pieces_size hn
  have : (⟨((Wh.decS x.cs n.data.toList).getD []).toArray⟩ : ByteArray).size = ((Wh.decS x.cs n.data.toList).getD []).length := by simp [ByteArray.size]
  rw [this]
  cases ho : Wh.decS x.cs n.data.toList with
  | none => simp
  | some o =>
    have := Wh.decS_length x.cs _ _ o (Nat.le_refl _) ho
    rw [← Lib.size_eq] at this
    simp
    omega

theorem decs_at {x : Wh.Enc} {s n : ByteArray} {k : Nat} (h : (Wh.namesOf s)[k]? = some n) : (Wh.decsOf x s)[k]? = some ⟨((Wh.decS x.cs n.data.toList).getD []).toArray⟩ := by
  simp [Wh.decsOf, h]

/-- What names.Decode says. -/
def decCode (x : Wh.Enc) (s : ByteArray) : Int := if Wh.pathErr s.data.toList ≠ 0 then 1 else Wh.decErrP x s
def decGives (x : Wh.Enc) (s : ByteArray) : ByteArray := if Wh.pathErr s.data.toList ≠ 0 then ⟨#[]⟩ else Wh.decText x s

set_option maxHeartbeats 4000000 in
set_option maxRecDepth 100000 in
theorem decode_path (x : Wh.Enc) (a : Option Addr) (c : Nat) (s : ByteArray) (w : World) (hE : Env w) (hX : EncOk x a w) (he : Wh.encErr x = 0) (hp : Wh.pathErr s.data.toList = 0) :
    Calls Tryd.prog 54 #[encVal x a c, .string s] w fun e w' => e = .returned (.tuple #[.string (Wh.decText x s), .int .i64 (Wh.decErrP x s)]) ∧ Below w.heap.size w w' := by
  have hpa := Wh.pathErr_zero hp
  have hsz := Wh.path_size hpa
  have HC := Lib.hid (fun W (hb : Below w.heap.size w W) => checkEnc x a c W (hE.under hb) (hX.under hb))
  have HP := Lib.hid (fun W (hb : Below w.heap.size w W) => check_any s W (hE.under hb) (by omega))
  rw [he] at HC
  rw [hp] at HP
  have HB := Lib.hid (encBox_new w 61 x a c)
  have HSp := Lib.hid (fun W (hb : Below w.heap.size w W) => split_own s W (hE.under hb) (by omega))
  have HDn := Lib.hid (fun n W hn => decodeName_any x a c n W hn)
  have hnl := Wh.namesOf_le s
  have hyl : (Wh.decsOf x s).length = (Wh.namesOf s).length := by simp [Wh.decsOf]
  have HG := Lib.hid (fun n k (h : (Wh.namesOf s)[k]? = some n) => decs_at (x := x) h)
  have HNm := Lib.hid (fun n (hn : n ∈ Wh.namesOf s) => show n.size ≤ 255 by
    have := List.all_eq_true.1 (Wh.namesOf_names hpa) n hn
    rw [Lib.size_eq]
    exact Wh.name_size this)
  have hjl : (Wh.decJoin x s).length ≤ 1100000 := by
    have h1 := Wh.join_length 47 (Wh.decsOf x s)
    have h2 := total_le (l := Wh.decsOf x s) (m := 1024) (fun e he => Nat.le_trans (decs_size he) hsz)
    have h3 : (1024 + 1) * (Wh.decsOf x s).length ≤ 1025 * 1025 := Nat.mul_le_mul_left _ (by omega)
    unfold Wh.decJoin
    omega
  have HBp := Lib.hid (fun n (hn : n ∈ Wh.namesOf s) h => Wh.decN_piece (x := x) hn h)
  have HBl := Lib.hid (fun h => Wh.decN_len (x := x) (s := s) h)
  have HBq := Lib.hid (fun h => Wh.decN_path (x := x) (s := s) h)
  have HBn := Lib.hid (fun h => Wh.decN_no (x := x) (s := s) h)
  have HGo := Lib.hid (fun q h => Wh.dec_good (x := x) (s := s) (q := q) h)
  have hj0 : Wh.decJoin x s = Lib.join ((Wh.decsOf x s).map (·.data.toList)) [47] := rfl
  have HJ0 := Lib.hid hj0
  have HXo := Lib.hid hX
  have HEo := Lib.hid hE
  have HEe := Lib.hid he
  clear hj0 hE hX he hp hpa
  generalize Wh.decsOf x s = ys at *
  generalize Wh.decText x s = T at *
  generalize Wh.decErrP x s = E at *
  generalize Wh.decJoin x s = J at *
  unfold encVal at *
  have hb1 : Below w.heap.size w (w.alloc (.cells #[.string x.forbid, .string x.head, .string x.tail, .slice a x.names.length c, .bool x.cs, .int .i64 x.max] 61)) := bAlloc (Below.refl _ _) _
  go_enter Tryd.func54, Tryd.ntmps54
  go_wp2_with fail
  refine (HC.out _ hb1).mono ?_
  rintro e w2 ⟨rfl, hb2⟩
  generalize w.alloc (.cells #[.string x.forbid, .string x.head, .string x.tail, .slice a x.names.length c, .bool x.cs, .int .i64 x.max] 61) = w1 at *
  go_wp2_with fail
  refine (HP.out _ (bTrans hb1 hb2)).mono ?_
  rintro e w3 ⟨rfl, hb3⟩
  have HB3 := Lib.hid ((HB.out.under hb2).under hb3)
  have hb03 := bTrans (bTrans hb1 hb2) hb3
  clear hb1 hb2 hb3 HB HC HP
  go_wp2_with fail
  refine (HSp.out _ hb03).mono ?_
  rintro e w4 ⟨a1, c1, rfl, hc1, hS, hb4⟩
  have HS4 := Lib.hid hS
  have hb04 := bTrans hb03 hb4
  have hz4 := hb4.size
  have hz3 := hb03.size
  clear hS HSp
  generalize Wh.namesOf s = ns at *
  go_wp2_with fail
  go_loopg [30] ns.length (fun g s30 wx => ∃ k : Nat, k + g = ns.length ∧ s30 = .int .i64 k ∧ Below w3.heap.size w3 wx ∧ Hid (SlotsAt w3.heap.size wx a1 (mix ys ns k)))
  case atStart => exact ⟨0, by omega, rfl, hb4, by rw [mix_zero]; exact HS4⟩
  case round =>
    clear hb4 HS4 hz4 hb04
    obtain ⟨k, hk, rfl, hb, HSl⟩ := hrel
    have hz := hb.size
    by_cases hlt : k < ns.length
    · obtain ⟨g, rfl⟩ : ∃ g, gk = g + 1 := ⟨gk - 1, by omega⟩
      obtain ⟨n, hn⟩ : ∃ n, ns[k]? = some n := ⟨_, List.getElem?_eq_getElem hlt⟩
      have hmk := mix_at hyl hn
      have hml := mix_length (ys := ys) (xs := ns) (k := k) hyl (by omega)
      obtain ⟨b, rfl, hB, hbl, hSt⟩ : ∃ b, a1 = some ⟨b, 0, none⟩ ∧ w3.heap.size ≤ b ∧ b < wr.heap.size ∧ StrsAt wr b (mix ys ns k) := by
        rcases HSl.out with h | h
        · rw [h] at hml; simp at hml; omega
        · exact h
      obtain ⟨hca, hfa⟩ := hSt k n hmk
      have Hn := Lib.hid hn
      have Hy := Lib.hid (HG.out n k hn)
      have hns := HNm.out n (List.mem_of_getElem? hn)
      have HDx := Lib.hid (HDn.out n wr (by omega))
      have HSt := Lib.hid hSt
      have Hml := Lib.hid hml
      have HBad := Lib.hid (fun h => HBp.out n (List.mem_of_getElem? hn) h)
      obtain ⟨k0, k1, k2, k3, k4, k5, k6⟩ := HB3.out.under hb
      clear hn hmk hSt hml HSl hns
      cases ho : Wh.decS x.cs n.data.toList with
      | none =>
        have HF := Lib.hid (HBad.out ho)
        rw [ho] at HDx
        clear ho HBad
        go_wp2_with fail
        refine HDx.out.mono ?_
        rintro e w5 ⟨rfl, hb5⟩
        go_wp2_with fail
        go_ret2
        rw [HF.out.1, HF.out.2]
        exact ⟨rfl, bTrans (bTrans hb03 hb) hb5⟩
      | some o =>
        rw [ho] at HDx Hy
        clear ho HBad
        simp only [Option.getD_some, Option.isSome_some] at HDx Hy
        generalize (⟨o.toArray⟩ : ByteArray) = y at *
        go_wp2_with fail
        refine HDx.out.mono ?_
        rintro e w5 ⟨rfl, hb5⟩
        have hS5 := HSt.out.keep hb5 hbl
        obtain ⟨hc5, hf5⟩ := hS5 k _ (mix_at hyl Hn.out)
        have hS6 : StrsAt (w5.setCell ⟨b, k, none⟩ (.string y)) b (mix ys ns (k + 1)) := by
          rw [← mix_set hyl Hn.out Hy.out]
          exact hS5.set (by rw [Hml.out]; exact hlt) y
        have hb6 : Below w3.heap.size w3 (w5.setCell ⟨b, k, none⟩ (.string y)) := Below.setCell (p := ⟨b, k, none⟩) (bTrans hb hb5) hB _
        have HS6 : Hid (SlotsAt w3.heap.size (w5.setCell ⟨b, k, none⟩ (.string y)) (some ⟨b, 0, none⟩) (mix ys ns (k + 1))) := Lib.hid (.inr ⟨b, rfl, hB, by have := hb5.size; simp; omega, hS6⟩)
        clear k0 k1 k2 k3 k4 k5 k6 hca hfa hS5 hS6
        go_wp2_with fail
        go_roundg g
        case measure => omega
        case rel => exact ⟨k + 1, by omega, by go_num, hb6, HS6⟩
    · obtain rfl : k = ns.length := by omega
      have hSl := HSl.out
      rw [mix_end (by omega) (Nat.le_refl _)] at hSl
      have hJo := join_any a1 c1 ys ⟨#[47]⟩ wr hSl.holds (by omega) (by omega) (by have := HJ0.out; rw [show (⟨#[47]⟩ : ByteArray).data.toList = [47] from rfl, ← this]; omega)
      rw [show (⟨#[47]⟩ : ByteArray).data.toList = [47] from rfl, ← HJ0.out, hyl] at hJo
      have HJo := Lib.hid hJo
      clear hJo hSl HSl
      have hsJ : (⟨J.toArray⟩ : ByteArray).size = J.length := by simp [ByteArray.size]
      have hdJ : (⟨J.toArray⟩ : ByteArray).data.toList = J := by simp
      have hq : (⟨J.toArray⟩ : ByteArray).size ≤ 1100000 := by rw [hsJ]; exact hjl
      have HdJ := Lib.hid hdJ
      clear hsJ hdJ hjl HJ0
      generalize (⟨J.toArray⟩ : ByteArray) = q at *
      have HSq := Lib.hid (fun W (hb : Below w.heap.size w W) => split_any q W (HEo.out.under hb) (by omega))
      have HCq := Lib.hid (fun W (hb : Below w.heap.size w W) => check_any q W (HEo.out.under hb) (by omega))
      rw [HdJ.out] at HCq
      go_wp2_with fail
      refine HJo.out.mono ?_
      rintro e w5 ⟨rfl, hb5⟩
      have hb05 := bTrans (bTrans hb03 hb) hb5
      have HB5 := Lib.hid ((HB3.out.under hb).under hb5)
      go_wp2_with fail
      refine (HSq.out _ hb05).mono ?_
      rintro e w6 ⟨a6, c6, rfl, _, _, hb6⟩
      have hb06 := bTrans hb05 hb6
      have HB6 := Lib.hid (HB5.out.under hb6)
      clear HSq HB5 hb6 hb5
      by_cases hl : (Wh.namesOf q).length = ns.length
      · have hl2 : (((Wh.namesOf q).length : Int) != (ns.length : Int)) = false := by rw [hl]; simp
        generalize (Wh.namesOf q).length = nq at *
        rcases Wh.pathErr_cases J with hpj | hpj
        · rw [hpj] at HCq
          have HF := Lib.hid (HBq.out (by
            cases h : Wh.isPath J with
            | false => rfl
            | true => simp [Wh.pathErr, h] at hpj))
          clear hpj hl
          go_wp2_with fail
          refine (HCq.out _ hb06).mono ?_
          rintro e w7 ⟨rfl, hb7⟩
          go_wp2_with fail
          go_ret2
          rw [HF.out.1, HF.out.2]
          exact ⟨rfl, bTrans hb06 hb7⟩
        · rw [hpj] at HCq
          have hpq : Wh.isPath q.data.toList = true := by rw [HdJ.out]; exact Wh.pathErr_zero hpj
          have HEq := Lib.hid (fun W (hb : Below w.heap.size w W) => encodePath_any x a c q W (HEo.out.under hb) (HXo.out.under hb) HEe.out hpq)
          unfold encVal at HEq
          have HGq := Lib.hid (fun h2 h3 => HGo.out q (Wh.goodB_iff.2 ⟨hpq, h2, h3⟩))
          have HNq := Lib.hid (fun (h2 : ¬ (Wh.encErrP x q = 0 ∧ Wh.encText x q = s)) => HBn.out (by
            cases h : Wh.goodB x s q with
            | false => rfl
            | true => exact absurd (Wh.goodB_iff.1 h).2 h2))
          clear hpj hl hpq
          go_wp2_with fail
          refine (HCq.out _ hb06).mono ?_
          rintro e w7 ⟨rfl, hb7⟩
          have hb07 := bTrans hb06 hb7
          obtain ⟨k0, k1, k2, k3, k4, k5, k6⟩ := HB6.out.under hb7
          go_wp2_with fail
          refine (HEq.out _ hb07).mono ?_
          rintro e w8 ⟨rfl, hb8⟩
          generalize Wh.encErrP x q = E2 at *
          generalize Wh.encText x q = T2 at *
          clear k0 k1 k2 k3 k4 k5 k6
          by_cases he2 : E2 = 0
          · by_cases ht2 : T2 = s
            · have HF := Lib.hid (HGq.out he2 ht2)
              subst he2 ht2
              go_wp2_with fail
              go_ret2
              rw [HF.out.1, HF.out.2]
              exact ⟨rfl, bTrans hb07 hb8⟩
            · have HF := Lib.hid (HNq.out (fun h => ht2 h.2))
              have q2 := Wh.toList_ne ht2
              subst he2
              clear ht2
              go_wp2_with fail
              go_ret2
              rw [HF.out.1, HF.out.2]
              exact ⟨rfl, bTrans hb07 hb8⟩
          · have HF := Lib.hid (HNq.out (fun h => he2 h.1))
            have q2 := err_ne he2
            clear he2
            go_wp2_with fail
            go_ret2
            rw [HF.out.1, HF.out.2]
            exact ⟨rfl, bTrans hb07 hb8⟩
      · have hl2 : (((Wh.namesOf q).length : Int) != (ns.length : Int)) = true := by rw [bne_iff_ne]; omega
        have HF := Lib.hid (HBl.out hl)
        clear hl
        generalize (Wh.namesOf q).length = nq at *
        go_wp2_with fail
        go_ret2
        rw [HF.out.1, HF.out.2]
        exact ⟨rfl, hb06⟩
end Go.Proofs.YtbcadgooelcnhaaDoor
