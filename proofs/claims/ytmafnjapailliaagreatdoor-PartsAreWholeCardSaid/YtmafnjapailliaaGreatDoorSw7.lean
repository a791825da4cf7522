/-
  sums.stream: the three engines as one; a text appended to a row of bytes.
-/
import Derived.Test.YtmafnjapailliaaGreatDoorSw6
import Derived.Lib.AppendStr
namespace Go.Proofs.YtmafnjapailliaaGreatDoor
open Go.RowKit Wh.Sha

/-- The kinds of engines. -/
inductive EK where
  | md5
  | sha1
  | sha256
/-- What the package's tables hold. -/
structure Tabs where
  k256 : List W
  tb : List W
  tn : List Int
def EK.len : EK → Nat
  | .md5 => 4
  | .sha1 => 5
  | .sha256 => 8
def EK.f (T : Tabs) : EK → List W → List UInt8 → List W
  | .md5, l, p => (comp5 T.tb T.tn ⟨l.getD 0 0, l.getD 1 0, l.getD 2 0, l.getD 3 0⟩ p).list
  | .sha1, l, p => (comp1 ⟨l.getD 0 0, l.getD 1 0, l.getD 2 0, l.getD 3 0, l.getD 4 0⟩ p).list
  | .sha256, l, p => let st : St := ⟨l.getD 0 0, l.getD 1 0, l.getD 2 0, l.getD 3 0, l.getD 4 0, l.getD 5 0, l.getD 6 0, l.getD 7 0⟩; (st.add (rounds (fun i => T.k256.getD i 0) (sch (word p)) 64 st)).list
theorem EK.f_len (T : Tabs) (k : EK) (l : List W) (p : List UInt8) : (k.f T l p).length = k.len := by cases k <;> rfl
def EK.pty : EK → TypeId
  | .md5 => 372
  | .sha1 => 376
  | .sha256 => 380
def EK.box : EK → TypeId
  | .md5 => 375
  | .sha1 => 379
  | .sha256 => 383
def EK.pieceF : EK → FuncId
  | .md5 => 363
  | .sha1 => 369
  | .sha256 => 375

/-- A block that is none of the tables. -/
def NoTab (b : Nat) : Prop := b ≠ 12 ∧ b ≠ 10 ∧ b ≠ 11
structure TabsAt (w : World) (T : Tabs) : Prop where
  a : WordsAt w 12 T.k256 459
  la : T.k256.length = 64
  b : WordsAt w 10 T.tb 459
  lb : T.tb.length = 64
  c : BoxIs w 11 (T.tn.map (Value.int .i64)).toArray 314
  lc : T.tn.length = 16
theorem TabsAt.kp {F : Nat → Prop} {w w' : World} {T : Tabs} (h : TabsAt w T) (hk : Kp F w w') (hF : ∀ i, F i → NoTab i) : TabsAt w' T :=
  ⟨h.a.kp hk (fun e => (hF _ e).1 rfl), h.la, h.b.kp hk (fun e => (hF _ e).2.1 rfl), h.lb, h.c.kp hk (fun e => (hF _ e).2.2 rfl), h.lc⟩

theorem piece_any (k : EK) (T : Tabs) (b o ge : Nat) (p : List UInt8) (l : List W) (w : World) (hT : TabsAt w T) (hp : p.length = 64) (hB : BytesAt w b o p) (hE : WordsAt w ge l k.box) (hl : l.length = k.len) (hbg : b ≠ ge) (hge : NoTab ge) :
    Calls Tryz.prog k.pieceF #[.pointer (some ⟨ge, 0, none⟩), .pointer (some ⟨b, o, none⟩)] w fun e w' => e = .returned (.tuple #[]) ∧ WordsAt w' ge (k.f T l p) k.box ∧ Kp (· = ge) w w' := by
  cases k with
  | md5 =>
    match l, hl with
    | [x0, x1, x2, x3], _ => exact md5_piece b o ge p ⟨x0, x1, x2, x3⟩ T.tb T.tn w hp hB hE hbg hT.b hT.lb hge.2.1 hT.c hT.lc hge.2.2
  | sha1 =>
    match l, hl with
    | [x0, x1, x2, x3, x4], _ => exact sha1_piece b o ge p ⟨x0, x1, x2, x3, x4⟩ w hp hB hE hbg
  | sha256 =>
    match l, hl with
    | [x0, x1, x2, x3, x4, x5, x6, x7], _ => exact sha256_piece b o ge p ⟨x0, x1, x2, x3, x4, x5, x6, x7⟩ T.k256 w hp hB hE hbg hT.a hT.la hge.1

/-- A row of bytes of the call's own: blocks from B on. -/
def RowU (w : World) (B : Nat) (ra : Option Addr) (cap : Nat) (xs : List UInt8) : Prop := w.ownsRow B 5 1 (.slice ra xs.length cap) xs.length (xs.map vb)
theorem RowU.nil (w : World) (B : Nat) : RowU w B none 0 [] := ⟨rfl, .inl ⟨rfl, rfl⟩⟩
/-- The block of a row. -/
def rb (ra : Option Addr) (i : Nat) : Prop := ∃ a, ra = some a ∧ i = a.block
theorem RowU.base {w : World} {B cap : Nat} {ra : Option Addr} {xs : List UInt8} (h : RowU w B ra cap xs) : ∀ i, rb ra i → B ≤ i ∧ i < w.heap.size := by
  rintro i ⟨a, rfl, rfl⟩
  rcases h.2 with ⟨h1, _⟩ | ⟨g, cap', cur, h1, h2, h3, _⟩
  · cases h1
  · injection h1 with h1
    injection h1 with h1
    subst h1
    exact ⟨h2, (Array.getElem?_eq_some_iff.1 h3).1⟩
theorem RowU.kp {F : Nat → Prop} {w w' : World} {B cap : Nat} {ra : Option Addr} {xs : List UInt8} (h : RowU w B ra cap xs) (hk : Kp F w w') (hF : ∀ i, rb ra i → ¬ F i) : RowU w' B ra cap xs := by
  refine ⟨h.1, ?_⟩
  rcases h.2 with h1 | ⟨g, cap', cur, h1, h2, h3, h4⟩
  · exact .inl h1
  · refine .inr ⟨g, cap', cur, h1, h2, ?_, h4⟩
    rw [hk.block g (Array.getElem?_eq_some_iff.1 h3).1 (hF g ?_)]
    · exact h3
    · injection h1 with h1
      exact ⟨_, h1, rfl⟩
theorem RowU.cut {w : World} {B cap : Nat} {ra : Option Addr} {xs : List UInt8} (h : RowU w B ra cap xs) (hne : ra ≠ none) : RowU w B ra cap [] := by
  rcases h.2 with ⟨h1, _⟩ | ⟨g, cap', cur, h1, h2, h3, h4, h5, h6, h7⟩
  · injection h1 with h1
    exact absurd h1 hne
  · refine ⟨rfl, .inr ⟨g, cap, cur, ?_, h2, h3, Nat.zero_le _, ?_, ?_, rfl⟩⟩
    · injection h1 with h1 _ hc
      rw [h1]
    · injection h1 with _ _ hc
      rw [hc]; exact h5
    · injection h1 with _ _ hc
      rw [hc]; exact h6
theorem RowU.bytes {w : World} {B cap : Nat} {a : Addr} {xs : List UInt8} (h : RowU w B (some a) cap xs) : ∃ g, a = ⟨g, 0, none⟩ ∧ BytesAt w g 0 xs := by
  rcases h.2 with ⟨h1, _⟩ | ⟨g, cap', cur, h1, h2, h3, h4, h5, h6, h7⟩
  · cases h1
  · injection h1 with h1
    injection h1 with h1
    refine ⟨g, h1, (Array.getElem?_eq_some_iff.1 h3).1, fun i hi => ?_⟩
    rw [Nat.zero_add, Lib.cell_of_heap h3]
    have h8 : cur.toList[i]? = (xs.map vb)[i]? := by
      rw [← h7, List.getElem?_take, if_pos (by omega)]
    rw [← Array.getElem?_toList, h8, List.getElem?_map, List.getD_eq_getElem?_getD, List.getElem?_eq_getElem hi]
    rfl

/-- What a text's append makes of a row, and where it lies. -/
theorem append_text {w : World} {B cap : Nat} {ra : Option Addr} {xs : List UInt8} (h : RowU w B ra cap xs) (s : ByteArray) (ty : TypeId) (hs : xs.length + s.size ≤ 1000000000) (hB : B ≤ w.heap.size) :
    ∃ ra' cap' w', (Builtin.append_ #[97, 9] ty #[.slice ra xs.length cap, .string s]).run Tryz.prog w = .ok (.slice ra' (xs.length + s.size) cap') w' ∧ RowU w' B ra' cap' (xs ++ s.data.toList) ∧ Kp (rb ra) w w' ∧ (∀ i, rb ra' i → rb ra i ∨ w.heap.size ≤ i) := by
  obtain ⟨i, ht, hi, hz0, hz1, hz2, hz3⟩ := elem_byte
  have hu : Tryz.prog.underlying 9 = some .string := by kernel_rfl
  have hM : xs.length + s.size ≤ maxLen := by unfold maxLen; omega
  obtain ⟨v', w', hr, h2, h3, h4⟩ := Lib.run_append_own_string (P := Tryz.prog) w B 97 9 ty 5 i ht hu hi hz0 hz1 hz2 (.slice ra xs.length cap) xs.length (xs.map vb) h s hM (by omega) hB
  have hsc : xs.map vb ++ Lib.strCells s = (xs ++ s.data.toList).map vb := by
    rw [List.map_append]
    rfl
  have hlen : (xs ++ s.data.toList).length = xs.length + s.size := by
    rw [List.length_append, Lib.size_eq]
  rw [hsc] at h2
  have hk : Kp (rb ra) w w' := ⟨h3.os, h3.tape, h3.output, h3.size, fun k hk hF => h3.block k hk (fun e => hF (by
    cases ra with
    | none => cases e
    | some a => exact ⟨a, rfl, by injection e⟩))⟩
  have hblk : v'.ownBlock = (Value.slice ra xs.length cap).ownBlock ∨ v'.ownBlock = some w.heap.size ∨ v' = .slice none 0 0 := by
    rcases h.2 with ⟨e0, hn0⟩ | ⟨g, cap0, cur, e0, hbg, hg, hnc, hcm, hcs, htake⟩
    · by_cases hs0 : s.size = 0
      · exact .inr (.inr (h4.2 ⟨e0, hs0⟩))
      · rw [e0] at hr
        have hr2 := run_append_nil_string (P := Tryz.prog) w 97 9 ty 5 i (.int .u8 0) ht hu hi hz0 s (by omega) (by omega) (by rw [hz2]; omega)
        rw [hr] at hr2
        injection hr2 with e1 e2
        rw [e1]
        exact .inr (.inl rfl)
    · rw [e0] at hr ⊢
      by_cases hroom : xs.length + s.size ≤ cap0
      · have hcs' : cur.size = cap0 := by simpa using hcs
        have hr2 := Lib.run_append_room_string (P := Tryz.prog) w 97 9 ty 5 i ht hu hi hz1 g xs.length cap0 cur hg s hroom (by omega)
        rw [hr] at hr2
        injection hr2 with e1 e2
        rw [e1]
        exact .inl rfl
      · have holds : ∀ j u, (xs.map vb)[j]? = some u → w.cell? ((⟨g, 0, none⟩ : Addr).add j) = some u := by
          have h' := h
          unfold RowU at h'
          rw [e0] at h'
          exact h'.cells (g := g) rfl
        have hr2 := Lib.run_append_grow_string (P := Tryz.prog) w 97 9 ty 5 i (.int .u8 0) ht hu hi hz0 ⟨g, 0, none⟩ xs.length cap0 (xs.map vb) (by rw [hz1]; simp) holds s (by omega) (by omega) (by rw [hz2]; exact growslice_fits (by omega) (by omega))
        rw [hr] at hr2
        injection hr2 with e1 e2
        rw [e1]
        exact .inr (.inl rfl)
  rcases h2.2 with ⟨e0, hn0⟩ | ⟨g, cap', cur, e0, _⟩
  · subst e0
    refine ⟨none, 0, w', ?_, ?_, hk, fun i hi => by obtain ⟨a, ha, _⟩ := hi; cases ha⟩
    · rw [hr, hn0]
    · unfold RowU
      rw [hlen, hn0]
      rw [hn0] at h2
      exact h2
  · subst e0
    refine ⟨some ⟨g, 0, none⟩, cap', w', hr, ?_, hk, fun i hi => ?_⟩
    · unfold RowU
      rw [hlen]
      exact h2
    · obtain ⟨a, ha, rfl⟩ := hi
      injection ha with ha
      subst ha
      rcases hblk with hb | hb | hb
      · left
        cases ra with
        | none => cases hb
        | some a => exact ⟨a, rfl, by injection hb⟩
      · right
        injection hb with hb
        exact Nat.le_of_eq hb.symm
      · cases hb
end Go.Proofs.YtmafnjapailliaaGreatDoor
