/-
  Rows of the call's own: appending to them, in one step.
-/
import Derived.Test.YtikegddlbelfaaaGreatDoorClean
import Derived.Deep.RegionHeld3
import Derived.Deep.DeepCutAuto
import Derived.Deep.RegionLaw
import Derived.Deep.AppendLies
namespace Go.Proofs.YtikegddlbelfaaaGreatDoor
open Go.RowKit

/-- The type of a slice's elements: one cell each. -/
def ElemOk (P : Program) (t e : TypeId) (z : Value) (bytes : Nat) : Prop :=
  ∃ i : TypeInfo, P.underlying t = some (.slice e) ∧ P.info? e = some i ∧ i.zero = some z ∧ i.size = 1 ∧ i.bytes = bytes ∧ z.cells.size = 1

/-- A row that was made since w0; nothing older has changed. -/
def Own (e : TypeId) (w0 wx : World) (a : Option Addr) (n cap : Nat) (xs : List Value) : Prop :=
  wx.ownsRow w0.heap.size e 1 (.slice a n cap) n xs ∧ Below w0.heap.size w0 wx

theorem Own.nil (e : TypeId) (w0 : World) : Own e w0 w0 none 0 0 [] := ⟨⟨rfl, .inl ⟨rfl, rfl⟩⟩, Below.refl _ _⟩
theorem Own.nil_at (e : TypeId) {w0 wx : World} (hb : Below w0.heap.size w0 wx) : Own e w0 wx none 0 0 [] := ⟨⟨rfl, .inl ⟨rfl, rfl⟩⟩, hb⟩
theorem Own.below {e : TypeId} {w0 wx : World} {a : Option Addr} {n cap : Nat} {xs : List Value} (h : Own e w0 wx a n cap xs) : Below w0.heap.size w0 wx := h.2
theorem Own.holds {e : TypeId} {w0 wx : World} {a : Option Addr} {n cap : Nat} {xs : List Value} (h : Own e w0 wx a n cap xs) : Holds wx a xs := own_holds h.1
theorem Own.cap {e : TypeId} {w0 wx : World} {a : Option Addr} {n cap : Nat} {xs : List Value} (h : Own e w0 wx a n cap xs) : n ≤ cap := by
  obtain ⟨a', cap', hv, hnc, _⟩ := own_form h.1
  injection hv with _ _ hv3
  omega
theorem Own.len {e : TypeId} {w0 wx : World} {a : Option Addr} {n cap : Nat} {xs : List Value} (h : Own e w0 wx a n cap xs) : xs.length = n := by
  have := h.1.1
  omega

/-- Behind calls that leave all that was there as it was. -/
theorem Own.under {e : TypeId} {w0 wx w' : World} {a : Option Addr} {n cap : Nat} {xs : List Value} (h : Own e w0 wx a n cap xs) (hb : Below wx.heap.size wx w') : Own e w0 w' a n cap xs := by
  refine ⟨⟨h.1.1, ?_⟩, bTrans h.2 hb⟩
  rcases h.1.2 with hn | ⟨g, c, cur, hv, h1, h2, h3⟩
  · exact .inl hn
  · refine .inr ⟨g, c, cur, hv, h1, ?_, h3⟩
    have hg := (Array.getElem?_eq_some_iff.1 h2).1
    rw [hb.block g hg]
    exact h2
theorem Own.drew {e : TypeId} {w0 wx : World} {a : Option Addr} {n cap : Nat} {xs : List Value} (h : Own e w0 wx a n cap xs) : Own e w0 wx.drew a n cap xs := h.under ⟨rfl, rfl, rfl, Nat.le_refl _, fun _ _ => rfl⟩

section
variable {P : Program}

/-- append to a row of the call's own: at a plain region's list. -/
theorem wp_app {ops : Array Oper} {rest : List Oper} {o : Oper} {act : Act} {Q : Exit → Act → World → Prop} {t e te : TypeId} {z : Value} {bytes : Nat} {w0 wx : World} {a : Option Addr} {n cap : Nat} {xs : List Value}
    (hE : ElemOk P t e z bytes) (hO : Own e w0 wx a n cap xs) (news : List Value) (m : Nat) (hl : news.length = m) (hm : 0 < m) (h1 : ∀ u ∈ news, u.oneCell' = true)
    (h63 : n + m ≤ 9223372036854775807) (hby : (n + m) * bytes ≤ 140737488355328) (hgd : o.guard = none) (s x : Operand)
    (ho : o.op = .call { callee := .builtin .append, args := #[s, x], argTypes := #[t, t] }) (hs : act.eval s = .slice a n cap) (hx : act.eval x = .slice (some ⟨wx.heap.size, 0, none⟩) m m)
    (h : ∀ g cap' w', Own e w0 w' (some ⟨g, 0, none⟩) (n + m) cap' (xs ++ news) → wpList P ops Q rest (act.put o.dst (.slice (some ⟨g, 0, none⟩) (n + m) cap')) w') :
    wpList P ops Q (o :: rest) act (wx.alloc (.cells news.toArray te)) := by
  obtain ⟨i, ht, hi, hz0, hz1, hz2, hz3⟩ := hE
  have hbz := hO.2.size
  have hba : w0.heap.size ≤ (wx.alloc (.cells news.toArray te)).heap.size := by simp; omega
  refine wpList_append_lies _ hgd s x t ho w0.heap.size e i z 1 bytes ht hi hz0 hz1 hz2 hz3 (by decide) _ n xs hs (hO.1.alloc _) ⟨wx.heap.size, 0, none⟩ m m news hx (by omega) (World.news_of_block (heap_alloc_new wx _)) h1 hm h63 hby hba _ rfl ?_
  intro g cap' w' hown hgrow hat hlt
  exact h g cap' w' ⟨hown, (hO.2.alloc hbz _).grown hgrow hba (fun kk hkk => own_base hO.1 kk hkk)⟩

/-- The same, at a step of a region that draws its order. -/
theorem step_app {ops : Array Oper} {o : Oper} {act : Act} {K : Act → World → Prop} {Q : Exit → Act → World → Prop} {E : Prop} {t e te : TypeId} {z : Value} {bytes : Nat} {w0 wx : World} {a : Option Addr} {n cap : Nat} {xs : List Value}
    (hE : ElemOk P t e z bytes) (hO : Own e w0 wx a n cap xs) (news : List Value) (m : Nat) (hl : news.length = m) (hm : 0 < m) (h1 : ∀ u ∈ news, u.oneCell' = true)
    (h63 : n + m ≤ 9223372036854775807) (hby : (n + m) * bytes ≤ 140737488355328) (hgd : o.guard = none) (s x : Operand)
    (ho : o.op = .call { callee := .builtin .append, args := #[s, x], argTypes := #[t, t] }) (hs : act.eval s = .slice a n cap) (hx : act.eval x = .slice (some ⟨wx.heap.size, 0, none⟩) m m)
    (h : ∀ g cap' w', Own e w0 w' (some ⟨g, 0, none⟩) (n + m) cap' (xs ++ news) → K (act.put o.dst (.slice (some ⟨g, 0, none⟩) (n + m) cap')) w') :
    if Region.wanted o (yielded ops act.tmps) = true then Oper.wp P o act (wx.alloc (.cells news.toArray te)).drew K Q else E := by
  obtain ⟨i, ht, hi, hz0, hz1, hz2, hz3⟩ := hE
  have hbz := hO.2.size
  have hba : w0.heap.size ≤ (wx.alloc (.cells news.toArray te)).drew.heap.size := by simp; omega
  have hnw : (wx.alloc (.cells news.toArray te)).drew.heap[wx.heap.size]? = some (.cells news.toArray te) := heap_alloc_new wx _
  have hb1 : Below w0.heap.size w0 (wx.alloc (.cells news.toArray te)).drew := by
    have := hO.2.alloc hbz (.cells news.toArray te)
    exact ⟨this.os, this.tape, this.output, this.size, this.block⟩
  have how : (wx.alloc (.cells news.toArray te)).drew.ownsRow w0.heap.size e 1 (.slice a n cap) n xs := hO.1.alloc _
  refine step_append_lies _ hgd s x t ho w0.heap.size e i z 1 bytes ht hi hz0 hz1 hz2 hz3 (by decide) _ n xs hs how ⟨wx.heap.size, 0, none⟩ m m news hx (by omega) (World.news_of_block hnw) h1 hm h63 hby hba _ rfl ?_
  intro g cap' w' hown hgrow hat hlt
  exact h g cap' w' ⟨hown, hb1.grown hgrow hba (fun kk hkk => own_base hO.1 kk hkk)⟩
end

/-- A byte, as a value. -/
abbrev vb (b : UInt8) : Value := .int .u8 b.toNat
theorem elem_byte : ElemOk Tryz.prog 89 5 (.int .u8 0) 1 := by
  obtain ⟨i0, hi, hz0, hz1, hz2⟩ := info_parts (show (Tryz.prog.info? 5).map (fun i => (i.zero, i.size, i.bytes)) = some (some (.int .u8 0), 1, 1) by kernel_rfl)
  exact ⟨i0, Tryz.underlying89, hi, hz0, hz1, hz2, rfl⟩
theorem elem_str : ElemOk Tryz.prog 22 9 (.string ByteArray.empty) 16 := by
  obtain ⟨i0, hi, hz0, hz1, hz2⟩ := info_parts info_str
  exact ⟨i0, Tryz.underlying22, hi, hz0, hz1, hz2, rfl⟩
theorem one_bytes (news : List UInt8) : ∀ u ∈ news.map vb, u.oneCell' = true := by
  intro u hu
  obtain ⟨b, _, rfl⟩ := List.mem_map.1 hu
  rfl

/-- Bytes of the call's own. -/
def OwnB (w0 wx : World) (a : Option Addr) (cap : Nat) (out : List UInt8) : Prop := Own 5 w0 wx a out.length cap (out.map vb)
theorem OwnB.nil {w0 wx : World} (hb : Below w0.heap.size w0 wx) : OwnB w0 wx none 0 [] := Own.nil_at _ hb
theorem OwnB.under {w0 wx w' : World} {a : Option Addr} {cap : Nat} {out : List UInt8} (h : OwnB w0 wx a cap out) (hb : Below wx.heap.size wx w') : OwnB w0 w' a cap out := Own.under h hb
theorem OwnB.below {w0 wx : World} {a : Option Addr} {cap : Nat} {out : List UInt8} (h : OwnB w0 wx a cap out) : Below w0.heap.size w0 wx := h.2

set_option maxRecDepth 100000 in
theorem wp_appB {ops : Array Oper} {rest : List Oper} {o : Oper} {act : Act} {Q : Exit → Act → World → Prop} {te : TypeId} {w0 wx : World} {a : Option Addr} {cap : Nat} {out : List UInt8}
    (hO : OwnB w0 wx a cap out) (news : List UInt8) (hm : 0 < news.length) (hby : out.length + news.length ≤ 140737488355328) (hgd : o.guard = none) (s x : Operand)
    (ho : o.op = .call { callee := .builtin .append, args := #[s, x], argTypes := #[89, 89] }) (hs : act.eval s = .slice a out.length cap) (hx : act.eval x = .slice (some ⟨wx.heap.size, 0, none⟩) news.length news.length)
    (h : ∀ a' cap' w', OwnB w0 w' a' cap' (out ++ news) → wpList Tryz.prog ops Q rest (act.put o.dst (.slice a' (out.length + news.length) cap')) w') :
    wpList Tryz.prog ops Q (o :: rest) act (wx.alloc (.cells (news.map vb).toArray te)) := by
  refine wp_app elem_byte hO (news.map vb) news.length (by simp) hm (one_bytes news) (by omega) (by omega) hgd s x ho hs hx ?_
  intro g cap' w' hh
  refine h _ cap' w' ?_
  unfold OwnB
  rw [List.map_append, List.length_append]
  exact hh

/-- One byte more. -/
theorem wp_app1B {ops : Array Oper} {rest : List Oper} {o : Oper} {act : Act} {Q : Exit → Act → World → Prop} {te : TypeId} {w0 wx : World} {a : Option Addr} {cap : Nat} {out : List UInt8}
    (hO : OwnB w0 wx a cap out) (y : UInt8) (hby : out.length + 1 ≤ 140737488355328) (hgd : o.guard = none) (s x : Operand)
    (ho : o.op = .call { callee := .builtin .append, args := #[s, x], argTypes := #[89, 89] }) (hs : act.eval s = .slice a out.length cap) (hx : act.eval x = .slice (some ⟨wx.heap.size, 0, none⟩) 1 1)
    (h : ∀ a' cap' w', OwnB w0 w' a' cap' (out ++ [y]) → wpList Tryz.prog ops Q rest (act.put o.dst (.slice a' (out.length + 1) cap')) w') :
    wpList Tryz.prog ops Q (o :: rest) act (wx.alloc (.cells #[Value.int .u8 y.toNat] te)) :=
  wp_appB hO [y] (Nat.succ_pos _) hby hgd s x ho hs hx h

set_option maxRecDepth 100000 in
theorem step_appB {ops : Array Oper} {o : Oper} {act : Act} {K : Act → World → Prop} {Q : Exit → Act → World → Prop} {E : Prop} {te : TypeId} {w0 wx : World} {a : Option Addr} {cap : Nat} {out : List UInt8}
    (hO : OwnB w0 wx a cap out) (news : List UInt8) (hm : 0 < news.length) (hby : out.length + news.length ≤ 140737488355328) (hgd : o.guard = none) (s x : Operand)
    (ho : o.op = .call { callee := .builtin .append, args := #[s, x], argTypes := #[89, 89] }) (hs : act.eval s = .slice a out.length cap) (hx : act.eval x = .slice (some ⟨wx.heap.size, 0, none⟩) news.length news.length)
    (h : ∀ a' cap' w', OwnB w0 w' a' cap' (out ++ news) → K (act.put o.dst (.slice a' (out.length + news.length) cap')) w') :
    if Region.wanted o (yielded ops act.tmps) = true then Oper.wp Tryz.prog o act (wx.alloc (.cells (news.map vb).toArray te)).drew K Q else E := by
  refine step_app elem_byte hO (news.map vb) news.length (by simp) hm (one_bytes news) (by omega) (by omega) hgd s x ho hs hx ?_
  intro g cap' w' hh
  refine h _ cap' w' ?_
  unfold OwnB
  rw [List.map_append, List.length_append]
  exact hh

set_option maxRecDepth 100000 in
theorem convB {w0 wx : World} {a : Option Addr} {cap : Nat} {out : List UInt8} (hO : OwnB w0 wx a cap out) :
    (convert 89 9 (.slice a out.length cap)).run Tryz.prog wx = .ok (.string ⟨out.toArray⟩) wx := by
  have h := hO.1
  have hh := own_holds h
  rcases h.2 with ⟨hv, h0⟩ | ⟨g, cap', cur, hv, _⟩
  · injection hv with e1 e2 e3
    rw [List.length_eq_zero_iff] at h0
    subst e1 h0
    rw [List.length_nil, run_convert_bytes_string wx 89 9 5 none 0 cap Tryz.underlying89 Tryz.underlying5 Tryz.underlying9]
    simp [Conv.bytesToString]
    rfl
  · injection hv with e1 e2 e3
    subst e1
    refine run_convert_bytes_back wx 89 9 5 ⟨g, 0, none⟩ cap out Tryz.underlying89 Tryz.underlying5 Tryz.underlying9 fun j hj => ?_
    have e : (⟨g, 0, none⟩ : Addr).add j = ⟨g, j, none⟩ := by unfold Addr.add; split <;> simp_all
    rw [e]
    rcases hh with hh | ⟨g', o, hg, _, hc⟩
    · have : (out.map vb).length = 0 := by rw [hh]; rfl
      simp at this
      subst this
      simp at hj
    · injection hg with hg
      injection hg with hg1 hg2
      have := hc j (vb out[j]) (by simp [List.getElem?_eq_getElem hj])
      rw [← hg1, ← hg2, Nat.zero_add] at this
      exact this

/-- As step_appB, and other blocks are as they were. -/
theorem step_appB2 {ops : Array Oper} {o : Oper} {act : Act} {K : Act → World → Prop} {Q : Exit → Act → World → Prop} {E : Prop} {te : TypeId} {w0 wx : World} {a : Option Addr} {cap : Nat} {out : List UInt8}
    (hO : OwnB w0 wx a cap out) (news : List UInt8) (hm : 0 < news.length) (hby : out.length + news.length ≤ 140737488355328) (hgd : o.guard = none) (s x : Operand)
    (ho : o.op = .call { callee := .builtin .append, args := #[s, x], argTypes := #[89, 89] }) (hs : act.eval s = .slice a out.length cap) (hx : act.eval x = .slice (some ⟨wx.heap.size, 0, none⟩) news.length news.length)
    (h : ∀ a' cap' w', OwnB w0 w' a' cap' (out ++ news) → (∀ p : Addr, p.block < wx.heap.size → (∀ ad, a = some ad → ad.block ≠ p.block) → w'.cell? p = wx.cell? p) → K (act.put o.dst (.slice a' (out.length + news.length) cap')) w') :
    if Region.wanted o (yielded ops act.tmps) = true then Oper.wp Tryz.prog o act (wx.alloc (.cells (news.map vb).toArray te)).drew K Q else E := by
  obtain ⟨i, ht, hi, hz0, hz1, hz2, hz3⟩ := elem_byte
  have hbz := hO.2.size
  have hba : w0.heap.size ≤ (wx.alloc (.cells (news.map vb).toArray te)).drew.heap.size := by simp; omega
  have hnw : (wx.alloc (.cells (news.map vb).toArray te)).drew.heap[wx.heap.size]? = some (.cells (news.map vb).toArray te) := heap_alloc_new wx _
  have hb1 : Below w0.heap.size w0 (wx.alloc (.cells (news.map vb).toArray te)).drew := by
    have := hO.2.alloc hbz (.cells (news.map vb).toArray te)
    exact ⟨this.os, this.tape, this.output, this.size, this.block⟩
  have how : (wx.alloc (.cells (news.map vb).toArray te)).drew.ownsRow w0.heap.size 5 1 (.slice a out.length cap) out.length (out.map vb) := hO.1.alloc _
  refine step_append_lies _ hgd s x 89 ho w0.heap.size 5 i (.int .u8 0) 1 1 ht hi hz0 hz1 hz2 hz3 (by decide) _ out.length (out.map vb) hs how ⟨wx.heap.size, 0, none⟩ news.length news.length (news.map vb) hx (by simp) (World.news_of_block hnw) (one_bytes news) hm (by unfold maxLen; omega) (by omega) hba _ rfl ?_
  intro g cap' w' hown hgrow hat hlt
  refine h _ cap' w' ⟨?_, hb1.grown hgrow hba (fun kk hkk => own_base hO.1 kk hkk)⟩ (fun p hp hne => ?_)
  · rw [List.map_append, List.length_append]
    exact hown
  · rw [hgrow.cell_far p (by simp; omega) (by
      cases a with
      | none => simp [Value.ownBlock]
      | some ad => simp [Value.ownBlock]; exact fun e => hne ad rfl e.symm)]
    exact ((Below.refl p.block.succ wx).alloc (by omega) _).cell (p := p) (Nat.lt_succ_self _)

/-- As wp_appB, the new values written out. -/
theorem wp_appV {ops : Array Oper} {rest : List Oper} {o : Oper} {act : Act} {Q : Exit → Act → World → Prop} {te : TypeId} {w0 wx : World} {a : Option Addr} {cap : Nat} {out : List UInt8}
    (hO : OwnB w0 wx a cap out) (news : List UInt8) (vals : List Value) (hv : vals = news.map vb) (m : Nat) (hm : news.length = m) (hm0 : 0 < m) (hby : out.length + m ≤ 140737488355328) (hgd : o.guard = none) (s x : Operand)
    (ho : o.op = .call { callee := .builtin .append, args := #[s, x], argTypes := #[89, 89] }) (hs : act.eval s = .slice a out.length cap) (hx : act.eval x = .slice (some ⟨wx.heap.size, 0, none⟩) m m)
    (h : ∀ a' cap' w', OwnB w0 w' a' cap' (out ++ news) → wpList Tryz.prog ops Q rest (act.put o.dst (.slice a' (out.length + m) cap')) w') :
    wpList Tryz.prog ops Q (o :: rest) act (wx.alloc (.cells vals.toArray te)) := by
  subst hv hm
  exact wp_appB hO news hm0 hby hgd s x ho hs hx h

/-- As step_appB2, the new values written out. -/
theorem step_appV2 {ops : Array Oper} {o : Oper} {act : Act} {K : Act → World → Prop} {Q : Exit → Act → World → Prop} {E : Prop} {te : TypeId} {w0 wx : World} {a : Option Addr} {cap : Nat} {out : List UInt8}
    (hO : OwnB w0 wx a cap out) (news : List UInt8) (vals : List Value) (hv : vals = news.map vb) (m : Nat) (hm : news.length = m) (hm0 : 0 < m) (hby : out.length + m ≤ 140737488355328) (hgd : o.guard = none) (s x : Operand)
    (ho : o.op = .call { callee := .builtin .append, args := #[s, x], argTypes := #[89, 89] }) (hs : act.eval s = .slice a out.length cap) (hx : act.eval x = .slice (some ⟨wx.heap.size, 0, none⟩) m m)
    (h : ∀ a' cap' w', OwnB w0 w' a' cap' (out ++ news) → (∀ p : Addr, p.block < wx.heap.size → (∀ ad, a = some ad → ad.block ≠ p.block) → w'.cell? p = wx.cell? p) → K (act.put o.dst (.slice a' (out.length + m) cap')) w') :
    if Region.wanted o (yielded ops act.tmps) = true then Oper.wp Tryz.prog o act (wx.alloc (.cells vals.toArray te)).drew K Q else E := by
  subst hv hm
  exact step_appB2 hO news hm0 hby hgd s x ho hs hx h

theorem OwnB.at_lt {w0 wx : World} {a : Option Addr} {cap : Nat} {out : List UInt8} (h : OwnB w0 wx a cap out) : ∀ ad, a = some ad → ad.block < wx.heap.size := by
  intro ad ha
  subst ha
  exact (h.1.lt ad.block rfl).2

/-- Texts of the call's own. -/
def OwnS (w0 wx : World) (a : Option Addr) (cap : Nat) (out : List ByteArray) : Prop := Own 9 w0 wx a out.length cap (out.map Value.string)
theorem OwnS.nil {w0 wx : World} (hb : Below w0.heap.size w0 wx) : OwnS w0 wx none 0 [] := Own.nil_at _ hb
theorem OwnS.under {w0 wx w' : World} {a : Option Addr} {cap : Nat} {out : List ByteArray} (h : OwnS w0 wx a cap out) (hb : Below wx.heap.size wx w') : OwnS w0 w' a cap out := Own.under h hb
theorem OwnS.below {w0 wx : World} {a : Option Addr} {cap : Nat} {out : List ByteArray} (h : OwnS w0 wx a cap out) : Below w0.heap.size w0 wx := h.2

set_option maxRecDepth 100000 in
theorem wp_appS {ops : Array Oper} {rest : List Oper} {o : Oper} {act : Act} {Q : Exit → Act → World → Prop} {te : TypeId} {w0 wx : World} {a : Option Addr} {cap : Nat} {out : List ByteArray}
    (hO : OwnS w0 wx a cap out) (y : ByteArray) (hby : out.length + 1 ≤ 8796093022208) (hgd : o.guard = none) (s x : Operand)
    (ho : o.op = .call { callee := .builtin .append, args := #[s, x], argTypes := #[22, 22] }) (hs : act.eval s = .slice a out.length cap) (hx : act.eval x = .slice (some ⟨wx.heap.size, 0, none⟩) 1 1)
    (h : ∀ g cap' w', OwnS w0 w' (some ⟨g, 0, none⟩) cap' (out ++ [y]) → wpList Tryz.prog ops Q rest (act.put o.dst (.slice (some ⟨g, 0, none⟩) (out.length + 1) cap')) w') :
    wpList Tryz.prog ops Q (o :: rest) act (wx.alloc (.cells #[Value.string y] te)) := by
  refine wp_app elem_str hO [Value.string y] 1 rfl (by decide) (by simp [Value.oneCell']) (by omega) (by omega) hgd s x ho hs hx ?_
  intro g cap' w' hh
  refine h g cap' w' ?_
  unfold OwnS
  rw [List.map_append, List.length_append]
  exact hh
end Go.Proofs.YtikegddlbelfaaaGreatDoor
