/-
  The texts RowG, Num, Me0, in one.
-/
import Derived.Test.YtmafnjapailliaaGreatDoorSw7
import Derived.Test.YtmafnjapailliaaGreatDoorBoxG
import Derived.Deep.AppendLies
import Derived.Test.YtmafnjapailliaaGreatDoorBase
import Derived.Lib.AppendIntMem
import Derived.Lib.ItoaLen
import Derived.Test.YtmafnjapailliaaGreatDoorMap2
import Derived.Test.YtmafnjapailliaaGreatDoorStoreForm
namespace Go.Proofs.YtmafnjapailliaaGreatDoor
open Go.RowKit

/-- A row of structs of m cells each. -/
def RowG (e : TypeId) (m : Nat) (w : World) (B : Nat) (ra : Option Addr) (cap : Nat) (xs : List (List Value)) : Prop :=
  (∀ r ∈ xs, r.length = m) ∧ w.ownsRow B e m (.slice ra xs.length cap) xs.length xs.flatten
section
variable {e : TypeId} {m : Nat} {w : World} {B cap : Nat} {ra : Option Addr} {xs : List (List Value)}
theorem RowG.nil (e : TypeId) (m : Nat) (w : World) (B : Nat) : RowG e m w B none 0 [] := ⟨by simp, by simp, .inl ⟨rfl, rfl⟩⟩
theorem RowG.lower (h : RowG e m w B ra cap xs) {B' : Nat} (hb : B' ≤ B) : RowG e m w B' ra cap xs := by
  refine ⟨h.1, h.2.1, ?_⟩
  rcases h.2.2 with h1 | ⟨g, c, cur, h1, h2, h3⟩
  · exact .inl h1
  · exact .inr ⟨g, c, cur, h1, Nat.le_trans hb h2, h3⟩
theorem RowG.base (h : RowG e m w B ra cap xs) : ∀ i, rb ra i → B ≤ i ∧ i < w.heap.size := by
  rintro i ⟨a, rfl, rfl⟩
  rcases h.2.2 with ⟨h1, _⟩ | ⟨g, cap', cur, h1, h2, h3, _⟩
  · cases h1
  · injection h1 with h1
    injection h1 with h1
    subst h1
    exact ⟨h2, (Array.getElem?_eq_some_iff.1 h3).1⟩
theorem RowG.kp {F : Nat → Prop} {w' : World} (h : RowG e m w B ra cap xs) (hk : Kp F w w') (hF : ∀ i, rb ra i → ¬ F i) : RowG e m w' B ra cap xs := by
  refine ⟨h.1, h.2.1, ?_⟩
  rcases h.2.2 with h1 | ⟨g, cap', cur, h1, h2, h3, h4⟩
  · exact .inl h1
  · refine .inr ⟨g, cap', cur, h1, h2, ?_, h4⟩
    rw [hk.block g (Array.getElem?_eq_some_iff.1 h3).1 (hF g ?_)]
    · exact h3
    · injection h1 with h1
      exact ⟨_, h1, rfl⟩
theorem RowG.holds (hm : 0 < m) (h : RowG e m w B ra cap xs) : HoldsR w ra m xs := by
  rcases h.2.2 with ⟨hv, h0⟩ | ⟨g, cap', cur, hv, _, hg, hn, _, hsz, htk⟩
  · rw [List.length_eq_zero_iff] at h0
    exact .inl h0
  · injection hv with e1 _ _
    subst e1
    refine .inr ⟨g, 0, rfl, (Array.getElem?_eq_some_iff.1 hg).1, fun k row hk j u hu => ?_⟩
    have hrl : row.length = m := h.1 row (List.mem_of_getElem? hk)
    have hj : j < m := by have := (List.getElem?_eq_some_iff.1 hu).1; omega
    have hkl : k < xs.length := (List.getElem?_eq_some_iff.1 hk).1
    have hf := flat_get m hm xs h.1 (k * m + j)
    have e1 : (k * m + j) / m = k := by rw [Nat.mul_comm, Nat.mul_add_div hm, Nat.div_eq_of_lt hj, Nat.add_zero]
    have e2 : (k * m + j) % m = j := by rw [Nat.mul_comm, Nat.mul_add_mod, Nat.mod_eq_of_lt hj]
    rw [e1, e2, hk, Option.bind_some, hu] at hf
    have hlt : k * m + j < xs.length * m := by
      have : (k + 1) * m ≤ xs.length * m := Nat.mul_le_mul_right m hkl
      rw [Nat.succ_mul] at this
      omega
    rw [← htk, List.getElem?_take_of_lt hlt] at hf
    rw [Nat.zero_add]
    simp only [World.cell?, hg]
    simpa using hf
theorem RowG.some_of (h : RowG e m w B ra cap xs) (h0 : 0 < xs.length) : ∃ g, ra = some ⟨g, 0, none⟩ := by
  rcases h.2.2 with ⟨hv, h1⟩ | ⟨g, c, cur, hv, _⟩
  · omega
  · injection hv with e1 _ _
    exact ⟨g, e1⟩
theorem RowG.le_cap (h : RowG e m w B ra cap xs) : xs.length ≤ cap := by
  rcases h.2.2 with ⟨hv, h1⟩ | ⟨g, c, cur, hv, _, _, h4, _⟩
  · omega
  · injection hv with _ _ e3
    omega
end

/-- One struct that was built is appended, in a region that draws its order. -/
theorem wp_appG {P : Program} {K : Act → World → Prop} {o : Oper} {act : Act} {Q : Exit → Act → World → Prop} {t e te : TypeId} {i : TypeInfo} {z : Value} {m bytes : Nat} {w : World} {B cap : Nat} {ra : Option Addr} {xs : List (List Value)}
    (hR : RowG e m w B ra cap xs) (ht : P.underlying t = some (.slice e)) (hi : P.info? e = some i) (hz : i.zero = some z) (hz1 : i.size = m) (hz2 : i.bytes = bytes) (hz3 : z.cells.size = m) (hm0 : 0 < m) (hby : bytes ≤ 1000)
    (row : List Value) (hrow : row.length = m) (hone : ∀ u ∈ row, u.oneCell' = true) (hs : xs.length ≤ 1000000) (hB : B ≤ w.heap.size) (s x : Operand)
    (ho : o.op = .call { callee := .builtin .append, args := #[s, x], argTypes := #[t, t] }) (hsl : act.eval s = .slice ra xs.length cap) (hx : act.eval x = .slice (some ⟨w.heap.size, 0, none⟩) 1 1)
    (h : ∀ g cap' w', RowG e m w' B (some ⟨g, 0, none⟩) cap' (xs ++ [row]) → Kp (rb ra) w w' → (rb ra g ∨ w.heap.size ≤ g) → K (act.put o.dst (.slice (some ⟨g, 0, none⟩) (xs.length + 1) cap')) w') :
    Oper.wp P o act (w.alloc (.cells row.toArray te)) K Q := by
  have hba : B ≤ (w.alloc (.cells row.toArray te)).heap.size := by simp; omega
  have hal : Below w.heap.size w (w.alloc (.cells row.toArray te)) := bAlloc (Below.refl _ _) _
  have how : RowG e m (w.alloc (.cells row.toArray te)) B ra cap xs := hR.kp (Kp.of (F := fun _ => False) hal) (fun _ _ e => e)
  have hbyt : (xs.length + 1) * bytes ≤ 140737488355328 := by
    have : (xs.length + 1) * bytes ≤ (1000000 + 1) * 1000 := Nat.mul_le_mul (by omega) hby
    omega
  refine wp_append_lies _ s x t ho B e i z m bytes ht hi hz hz1 hz2 hz3 hm0 _ xs.length xs.flatten hsl how.2 ⟨w.heap.size, 0, none⟩ 1 1 row hx (by rw [hrow, Nat.one_mul]) (World.news_of_block (heap_alloc_new w _)) hone (by decide) (by unfold maxLen; omega) hbyt hba _ rfl ?_
  intro g cap' w' hown hgrow hat hlt
  refine h g cap' w' ⟨?_, ?_⟩ ?_ ?_
  · intro r hr
    rcases List.mem_append.1 hr with hr | hr
    · exact hR.1 r hr
    · simp at hr
      rw [hr]; exact hrow
  · rw [List.flatten_append, List.length_append]
    simpa using hown
  · refine (Kp.of (F := rb ra) hal).trans ⟨hgrow.os, hgrow.tape, hgrow.output, hgrow.size, fun k hk hF => hgrow.block k hk (fun e => hF ?_)⟩
    cases ra with
    | none => cases e
    | some a =>
      have h9 : (some k : Option Nat) = some a.block := e
      injection h9 with h9
      exact ⟨a, rfl, h9⟩
  · rcases hat with hat | hat
    · left
      cases ra with
      | none => cases hat
      | some a =>
        have h9 : (some a.block : Option Nat) = some g := hat
        injection h9 with h9
        exact ⟨a, rfl, h9.symm⟩
    · right
      have : (w.alloc (.cells row.toArray te)).heap.size = w.heap.size + 1 := by simp
      omega
/-- One struct that was built is appended. -/
theorem wpList_appG {P : Program} {ops : Array Oper} {rest : List Oper} {o : Oper} {act : Act} {Q : Exit → Act → World → Prop} {t e te : TypeId} {i : TypeInfo} {z : Value} {m bytes : Nat} {w : World} {B cap : Nat} {ra : Option Addr} {xs : List (List Value)}
    (hR : RowG e m w B ra cap xs) (ht : P.underlying t = some (.slice e)) (hi : P.info? e = some i) (hz : i.zero = some z) (hz1 : i.size = m) (hz2 : i.bytes = bytes) (hz3 : z.cells.size = m) (hm0 : 0 < m) (hby : bytes ≤ 1000)
    (row : List Value) (hrow : row.length = m) (hone : ∀ u ∈ row, u.oneCell' = true) (hs : xs.length ≤ 1000000) (hB : B ≤ w.heap.size) (hgd : o.guard = none) (s x : Operand)
    (ho : o.op = .call { callee := .builtin .append, args := #[s, x], argTypes := #[t, t] }) (hsl : act.eval s = .slice ra xs.length cap) (hx : act.eval x = .slice (some ⟨w.heap.size, 0, none⟩) 1 1)
    (h : ∀ g cap' w', RowG e m w' B (some ⟨g, 0, none⟩) cap' (xs ++ [row]) → Kp (rb ra) w w' → (rb ra g ∨ w.heap.size ≤ g) → wpList P ops Q rest (act.put o.dst (.slice (some ⟨g, 0, none⟩) (xs.length + 1) cap')) w') :
    wpList P ops Q (o :: rest) act (w.alloc (.cells row.toArray te)) :=
  wpList_plain hgd fun _ hK => wp_appG hR ht hi hz hz1 hz2 hz3 hm0 hby row hrow hone hs hB s x ho hsl hx (fun g cap' w' h1 h2 h3 => hK _ _ (h g cap' w' h1 h2 h3))
end Go.Proofs.YtmafnjapailliaaGreatDoor
namespace Go.Proofs.YtmafnjapailliaaGreatDoor
open Go.RowKit

/-- The library's table of powers is as it is laid. -/
def EnvT (w : World) : Prop := Lib.TabIs Tryz.prog w "internal/strconv.uint64pow10" .u64 Lib.pow10Tab
theorem EnvT.under {w w' : World} (h : EnvT w) (hb : Below w.heap.size w w') : EnvT w' := Lib.tabBelow_of_tabIs h w' hb

/-- A number, written. -/
def numS (n : Int) : ByteArray := ⟨(Lib.itoa n).toArray⟩

theorem itoa_any (n : Int) (w : World) (hT : EnvT w) (h0 : -9223372036854775808 ≤ n) (h1 : n ≤ 9223372036854775807) :
    Calls Tryz.prog 139 #[.int .i64 n] w fun e w' => e = .returned (.string (numS n)) ∧ Below w.heap.size w w' := by
  refine (Tryz.strconv_Itoa n h0 h1 w hT).mono ?_
  rintro e w' ⟨rfl, k, os, rfl⟩
  exact ⟨rfl, Lib.below_grow _ _ (Nat.le_refl _) _ _⟩

theorem numS_size (n : Int) (h0 : -9223372036854775808 ≤ n) (h1 : n ≤ 9223372036854775807) : (numS n).size ≤ 21 := by
  rw [Lib.size_eq]
  exact Lib.itoa_length_le n h0 h1

theorem numS_add (n : Int) (c : ByteArray) (hc : c.size ≤ 100) (h0 : -9223372036854775808 ≤ n) (h1 : n ≤ 9223372036854775807) :
    ∀ W : World, (Op.stringOp .add (numS n) c).run Tryz.prog W = .ok (.string (numS n ++ c)) W := fun W => by
  have := numS_size n h0 h1
  rw [run_string_add_sum W (numS n) c (by omega)]

end Go.Proofs.YtmafnjapailliaaGreatDoor
namespace Go.Proofs.YtmafnjapailliaaGreatDoor
open Go.RowKit

/-- The world in which it all begins: the library's variables and the sums' tables. -/
structure Gr (w0 : World) (T : Tabs) : Prop where
  env : Env w0
  pow : EnvT w0
  tabs : TabsAt w0 T
/-- A file. -/
structure FileSt where
  data : ByteArray
  time : Int
  id : ByteArray
/-- A version. -/
structure Ver where
  num : Nat
  data : ByteArray
  time : Int
def verCells (A : ByteArray) (now : Int) (v : Ver) : List Value := [.int .i64 v.num, .string A, .string v.data, .int .i64 v.time, .slice none 0 0, .int .i64 now]
theorem ver_rows (A : ByteArray) (now : Int) (l : List Ver) : ∀ r ∈ l.map (verCells A now), r.length = 6 := by
  intro r hr
  obtain ⟨v, _, rfl⟩ := List.mem_map.1 hr
  rfl
theorem ver_one (A : ByteArray) (now : Int) (v : Ver) : ∀ u ∈ verCells A now v, u.oneCell' = true := by
  intro u hu
  simp [verCells] at hu
  rcases hu with rfl | rfl | rfl | rfl | rfl | rfl <;> rfl
/-- What the store holds. -/
structure MSt where
  f : Wh.Feat
  now : Int
  made : Nat
  begun : Int
  ups : Value
  cur : Option FileSt
  num : Nat
  vers : List Ver
/-- Its blocks. -/
structure MB where
  b : Nat
  cb : Nat
  rb : Nat
  kb : Nat
  ca : Nat
  si : Nat
  vb : Nat
  mb : Nat
  nb : Nat
  ra : Option Addr
  cap : Nat
abbrev ptr (b : Nat) : Value := .pointer (some ⟨b, 0, none⟩)
def MSt.cnt (s : MSt) : Int := if s.cur.isSome then 1 else 0
abbrev memArr (f : Wh.Feat) (M : MB) (cnt made begun : Int) (ups : Value) : Array Value := #[.int .i64 f.has, .int .i64 f.sums, .int .i64 f.prec, .int .i64 f.maxName, .int .i64 f.maxPath, .int .i64 f.maxSize, .int .i64 f.page, .int .i64 f.partSize, .string f.forbid,
  ptr M.cb, ptr M.rb, .int .i64 cnt, .int .i64 made, .slice (some ⟨M.ca, 0, none⟩) 14 14, .slice (some ⟨M.si, 0, none⟩) 14 14, .slice none 0 0, .int .i64 begun, ups, .map (some M.vb), .map (some M.mb)]
abbrev nodeArr (name : ByteArray) (dir : Bool) (up : Option Addr) (kids : Option Nat) (data : ByteArray) (time : Int) (id : ByteArray) : Array Value := #[.string name, .bool dir, .pointer up, .map kids, .string data, .int .i64 time, .slice none 0 0, .string id]
/-- Fourteen numbers. -/
def Ints14 (w : World) (b : Nat) : Prop := ∃ arr : Array Value, BoxIs w b arr 3 ∧ arr.size = 14 ∧ ∀ i, i < 14 → ∃ z : Int, arr[i]? = some (.int .i64 z)
/-- A map's element, or the zero. -/
def MapHas (w : World) (b : Nat) (key : ByteArray) (z v : Value) : Prop := ∃ o : Option Value, MapOn w b key o ∧ o.getD z = v

structure MemAt (w : World) (B : Nat) (A : ByteArray) (M : MB) (s : MSt) : Prop where
  box : BoxIs w M.b (memArr s.f M s.cnt s.made s.begun s.ups) 89
  clk : BoxIs w M.cb #[.int .i64 s.now] 72
  root : BoxIs w M.rb (nodeArr ByteArray.empty true none (some M.kb) ByteArray.empty 0 ByteArray.empty) 174
  kids : MapOn w M.kb A (s.cur.map fun _ => ptr M.nb)
  ca : Ints14 w M.ca
  si : Ints14 w M.si
  file : ∀ c, s.cur = some c → BoxIs w M.nb (nodeArr A false (some ⟨M.rb, 0, none⟩) none c.data c.time c.id) 174
  nums : MapHas w M.mb A (.int .i64 0) (.int .i64 s.num)
  vers : MapHas w M.vb A (.slice none 0 0) (.slice M.ra s.vers.length M.cap)
  row : RowG 49 6 w B M.ra M.cap (s.vers.map (verCells A s.now))
  lo : B ≤ M.b ∧ B ≤ M.cb ∧ B ≤ M.rb ∧ B ≤ M.kb ∧ B ≤ M.ca ∧ B ≤ M.si ∧ B ≤ M.vb ∧ B ≤ M.mb ∧ B ≤ M.nb
  ne1 : M.ca ≠ M.si
  ne2 : M.kb ≠ M.vb ∧ M.kb ≠ M.mb ∧ M.vb ≠ M.mb
/-- The blocks that a call of the store may change. -/
def MF (M : MB) (i : Nat) : Prop := i = M.b ∨ i = M.kb ∨ i = M.ca ∨ i = M.si ∨ i = M.vb ∨ i = M.mb ∨ i = M.nb ∨ rb M.ra i

theorem Ints14.kp {F : Nat → Prop} {w w' : World} {b : Nat} (h : Ints14 w b) (hk : Kp F w w') (hF : ¬ F b) : Ints14 w' b := by
  obtain ⟨arr, h1, h2⟩ := h
  exact ⟨arr, h1.kp hk hF, h2⟩
theorem MapHas.kp {F : Nat → Prop} {w w' : World} {b : Nat} {key : ByteArray} {z v : Value} (h : MapHas w b key z v) (hk : Kp F w w') (hF : ¬ F b) : MapHas w' b key z v := by
  obtain ⟨o, h1, h2⟩ := h
  exact ⟨o, h1.kp hk hF, h2⟩
theorem BoxIs.ne {w : World} {b c : Nat} {vs us : Array Value} {t u : TypeId} (h : BoxIs w b vs t) (k : BoxIs w c us u) (hn : t ≠ u) : b ≠ c := by
  rintro rfl
  have := h.symm.trans k
  simp only [Option.some.injEq, Obj.cells.injEq] at this
  exact hn this.2.1
theorem BoxIs.ne_map {w : World} {b c : Nat} {vs : Array Value} {t : TypeId} {key : ByteArray} {o : Option Value} (h : BoxIs w b vs t) (k : MapOn w c key o) : b ≠ c := by
  rintro rfl
  obtain ⟨es, cl, k, _⟩ := k
  have := h.symm.trans k
  simp at this
theorem RowG.ne {e : TypeId} {m : Nat} {w : World} {B cap : Nat} {ra : Option Addr} {xs : List (List Value)} (h : RowG e m w B ra cap xs) {b : Nat} {vs : Array Value} {t : TypeId} (k : BoxIs w b vs t) (hn : t ≠ e) : ¬ rb ra b := by
  rintro ⟨a, rfl, rfl⟩
  rcases h.2.2 with ⟨h1, _⟩ | ⟨g, cap', cur, h1, h2, h3, _⟩
  · cases h1
  · injection h1 with h1
    injection h1 with h1
    subst h1
    exact BoxIs.ne k (show BoxIs w g cur e from h3) hn rfl
theorem RowG.ne_map {e : TypeId} {m : Nat} {w : World} {B cap : Nat} {ra : Option Addr} {xs : List (List Value)} (h : RowG e m w B ra cap xs) {b : Nat} {key : ByteArray} {o : Option Value} (k : MapOn w b key o) : ¬ rb ra b := by
  rintro ⟨a, rfl, rfl⟩
  rcases h.2.2 with ⟨h1, _⟩ | ⟨g, cap', cur, h1, h2, h3, _⟩
  · cases h1
  · injection h1 with h1
    injection h1 with h1
    subst h1
    exact BoxIs.ne_map (show BoxIs w g cur e from h3) k rfl

/-- The blocks are apart. -/
structure Apart (M : MB) (cur : Prop) : Prop where
  b : M.b ≠ M.cb ∧ M.b ≠ M.rb ∧ M.b ≠ M.kb ∧ M.b ≠ M.ca ∧ M.b ≠ M.si ∧ M.b ≠ M.vb ∧ M.b ≠ M.mb ∧ ¬ rb M.ra M.b
  cb : M.cb ≠ M.rb ∧ M.cb ≠ M.kb ∧ M.cb ≠ M.ca ∧ M.cb ≠ M.si ∧ M.cb ≠ M.vb ∧ M.cb ≠ M.mb ∧ ¬ rb M.ra M.cb
  rb : M.rb ≠ M.kb ∧ M.rb ≠ M.ca ∧ M.rb ≠ M.si ∧ M.rb ≠ M.vb ∧ M.rb ≠ M.mb ∧ ¬ rb M.ra M.rb
  kb : M.kb ≠ M.ca ∧ M.kb ≠ M.si ∧ M.kb ≠ M.vb ∧ M.kb ≠ M.mb ∧ ¬ Go.Proofs.YtmafnjapailliaaGreatDoor.rb M.ra M.kb
  ca : M.ca ≠ M.si ∧ M.ca ≠ M.vb ∧ M.ca ≠ M.mb ∧ ¬ Go.Proofs.YtmafnjapailliaaGreatDoor.rb M.ra M.ca
  si : M.si ≠ M.vb ∧ M.si ≠ M.mb ∧ ¬ Go.Proofs.YtmafnjapailliaaGreatDoor.rb M.ra M.si
  vb : M.vb ≠ M.mb ∧ ¬ Go.Proofs.YtmafnjapailliaaGreatDoor.rb M.ra M.vb
  mb : ¬ Go.Proofs.YtmafnjapailliaaGreatDoor.rb M.ra M.mb
  nb : cur → M.b ≠ M.nb ∧ M.cb ≠ M.nb ∧ M.rb ≠ M.nb ∧ M.kb ≠ M.nb ∧ M.ca ≠ M.nb ∧ M.si ≠ M.nb ∧ M.vb ≠ M.nb ∧ M.mb ≠ M.nb ∧ ¬ Go.Proofs.YtmafnjapailliaaGreatDoor.rb M.ra M.nb
set_option maxRecDepth 10000 in
theorem MemAt.apart {w : World} {B : Nat} {A : ByteArray} {M : MB} {s : MSt} (h : MemAt w B A M s) : Apart M (s.cur ≠ none) := by
  obtain ⟨ac, hac, _⟩ := h.ca
  obtain ⟨asi, has, _⟩ := h.si
  obtain ⟨om, hom, _⟩ := h.nums
  obtain ⟨ov, hov, _⟩ := h.vers
  refine ⟨⟨h.box.ne h.clk (by decide), h.box.ne h.root (by decide), h.box.ne_map h.kids, h.box.ne hac (by decide), h.box.ne has (by decide), h.box.ne_map hov, h.box.ne_map hom, h.row.ne h.box (by decide)⟩,
    ⟨h.clk.ne h.root (by decide), h.clk.ne_map h.kids, h.clk.ne hac (by decide), h.clk.ne has (by decide), h.clk.ne_map hov, h.clk.ne_map hom, h.row.ne h.clk (by decide)⟩,
    ⟨h.root.ne_map h.kids, h.root.ne hac (by decide), h.root.ne has (by decide), h.root.ne_map hov, h.root.ne_map hom, h.row.ne h.root (by decide)⟩,
    ⟨(hac.ne_map h.kids).symm, (has.ne_map h.kids).symm, h.ne2.1, h.ne2.2.1, h.row.ne_map h.kids⟩,
    ⟨h.ne1, hac.ne_map hov, hac.ne_map hom, h.row.ne hac (by decide)⟩, ⟨has.ne_map hov, has.ne_map hom, h.row.ne has (by decide)⟩, ⟨h.ne2.2.2, h.row.ne_map hov⟩, h.row.ne_map hom, fun hc => ?_⟩
  obtain ⟨c, hc⟩ := Option.ne_none_iff_exists'.1 hc
  have hf := h.file c hc
  refine ⟨h.box.ne hf (by decide), h.clk.ne hf (by decide), fun e => ?_, (hf.ne_map h.kids).symm, hac.ne hf (by decide), has.ne hf (by decide), (hf.ne_map hov).symm, (hf.ne_map hom).symm, h.row.ne hf (by decide)⟩
  have h9 := h.root
  rw [e] at h9
  have := h9.symm.trans hf
  simp at this

/-- What changes none of the store's blocks leaves it as it is. -/
theorem MemAt.kp {F : Nat → Prop} {w w' : World} {B : Nat} {A : ByteArray} {M : MB} {s : MSt} (h : MemAt w B A M s) (hk : Kp F w w') (hF : ∀ i, MF M i ∨ i = M.cb ∨ i = M.rb → ¬ F i) : MemAt w' B A M s := by
  refine ⟨h.box.kp hk (hF _ (.inl (.inl rfl))), h.clk.kp hk (hF _ (.inr (.inl rfl))), h.root.kp hk (hF _ (.inr (.inr rfl))), h.kids.kp hk (hF _ (.inl (.inr (.inl rfl)))), h.ca.kp hk (hF _ (.inl (.inr (.inr (.inl rfl))))), h.si.kp hk (hF _ (.inl (.inr (.inr (.inr (.inl rfl)))))),
    fun c hc => (h.file c hc).kp hk (hF _ (.inl (.inr (.inr (.inr (.inr (.inr (.inr (.inl rfl))))))))), h.nums.kp hk (hF _ (.inl (.inr (.inr (.inr (.inr (.inr (.inl rfl)))))))), h.vers.kp hk (hF _ (.inl (.inr (.inr (.inr (.inr (.inl rfl))))))),
    h.row.kp hk (fun i hi => hF _ (.inl (.inr (.inr (.inr (.inr (.inr (.inr (.inr hi))))))))), h.lo, h.ne1, h.ne2⟩
theorem MemAt.below {w w' : World} {B : Nat} {A : ByteArray} {M : MB} {s : MSt} (h : MemAt w B A M s) (hb : Below w.heap.size w w') : MemAt w' B A M s := h.kp (Kp.of (F := fun _ => False) hb) (fun _ _ e => e)
/-- The store's blocks are new since the beginning. -/
theorem MemAt.mf {w : World} {B : Nat} {A : ByteArray} {M : MB} {s : MSt} (h : MemAt w B A M s) {i : Nat} (hi : MF M i) : B ≤ i := by
  obtain ⟨h1, h2, h3, h4, h5, h6, h7, h8, h9⟩ := h.lo
  rcases hi with rfl | rfl | rfl | rfl | rfl | rfl | rfl | hi
  all_goals first | assumption | exact (h.row.base i hi).1
/-- What only changes the store's blocks leaves all that was at the beginning. -/
theorem MemAt.from {w0 w w' : World} {A : ByteArray} {M : MB} {s : MSt} (h : MemAt w w0.heap.size A M s) (hb : Below w0.heap.size w0 w) (hk : Kp (MF M) w w') : Below w0.heap.size w0 w' :=
  hb.trans (hk.below (fun _ hi => h.mf hi) hb.size)
end Go.Proofs.YtmafnjapailliaaGreatDoor
