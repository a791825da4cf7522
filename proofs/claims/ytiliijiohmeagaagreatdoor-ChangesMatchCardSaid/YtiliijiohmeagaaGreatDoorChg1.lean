/-
  Rows of changes of the call's own.
-/
import Derived.Test.YtiliijiohmeagaaGreatDoorPlainMark
import Derived.Test.YtiliijiohmeagaaGreatDoorRows2
import Derived.Test.YtiliijiohmeagaaGreatDoorOwn
namespace Go.Proofs.YtiliijiohmeagaaGreatDoor
open Go.RowKit

/-- A change's cells. -/
def chgCells (s : Wh.Change) : List Value := [.int .i64 s.kind, .string s.path]

theorem chg_rows (xs : List Wh.Change) : ∀ r ∈ xs.map chgCells, r.length = 2 := by
  intro r hr
  obtain ⟨s, _, rfl⟩ := List.mem_map.1 hr
  rfl
theorem chg_flat (xs : List Wh.Change) : (xs.map chgCells).flatten.length = xs.length * 2 := by
  rw [flat_len 2 _ (chg_rows xs), List.length_map]

def OwnCh (w0 wx : World) (a : Option Addr) (cap : Nat) (xs : List Wh.Change) : Prop :=
  wx.ownsRow w0.heap.size 97 2 (.slice a xs.length cap) xs.length (xs.map chgCells).flatten ∧ Below w0.heap.size w0 wx
theorem OwnCh.nil {w0 wx : World} (hb : Below w0.heap.size w0 wx) : OwnCh w0 wx none 0 [] := ⟨⟨rfl, .inl ⟨rfl, rfl⟩⟩, hb⟩
theorem OwnCh.below {w0 wx : World} {a : Option Addr} {cap : Nat} {xs : List Wh.Change} (h : OwnCh w0 wx a cap xs) : Below w0.heap.size w0 wx := h.2
theorem OwnCh.cap {w0 wx : World} {a : Option Addr} {cap : Nat} {xs : List Wh.Change} (h : OwnCh w0 wx a cap xs) : xs.length ≤ cap := by
  rcases h.1.2 with ⟨hv, h0⟩ | ⟨g, c, cur, hv, _, _, hn, _⟩
  · omega
  · injection hv with _ _ h3
    omega
theorem OwnCh.under {w0 wx w' : World} {a : Option Addr} {cap : Nat} {xs : List Wh.Change} (h : OwnCh w0 wx a cap xs) (hb : Below wx.heap.size wx w') : OwnCh w0 w' a cap xs := by
  refine ⟨⟨h.1.1, ?_⟩, bTrans h.2 hb⟩
  rcases h.1.2 with hn | ⟨g, c, cur, hv, h1, h2, h3⟩
  · exact .inl hn
  · refine .inr ⟨g, c, cur, hv, h1, ?_, h3⟩
    rw [hb.block g (Array.getElem?_eq_some_iff.1 h2).1]
    exact h2
theorem OwnCh.block {w0 wx : World} {a : Option Addr} {cap : Nat} {xs : List Wh.Change} (h : OwnCh w0 wx a cap xs) (h0 : 0 < xs.length) : ∃ g cur, a = some ⟨g, 0, none⟩ ∧ w0.heap.size ≤ g ∧ wx.heap[g]? = some (.cells cur 97 (0, 0)) := by
  rcases h.1.2 with ⟨hv, h1⟩ | ⟨g, c, cur, hv, h1, h2, _⟩
  · omega
  · injection hv with e1 _ _
    exact ⟨g, cur, e1, h1, h2⟩
theorem OwnCh.holds {w0 wx : World} {a : Option Addr} {cap : Nat} {xs : List Wh.Change} (h : OwnCh w0 wx a cap xs) : HoldsR wx a 2 (xs.map chgCells) := by
  rcases h.1.2 with ⟨hv, h0⟩ | ⟨g, c, cur, hv, _, hg, hn, _, hsz, htk⟩
  · rw [List.length_eq_zero_iff] at h0
    subst h0
    exact .inl rfl
  · injection hv with e1 _ _
    subst e1
    refine .inr ⟨g, 0, rfl, (Array.getElem?_eq_some_iff.1 hg).1, fun k row hk j u hu => ?_⟩
    have hrl : row.length = 2 := chg_rows xs row (List.mem_of_getElem? hk)
    have hj : j < 2 := by have := (List.getElem?_eq_some_iff.1 hu).1; omega
    have hkl : k < xs.length := by have := (List.getElem?_eq_some_iff.1 hk).1; simpa using this
    have hf := flat_get 2 (by decide) (xs.map chgCells) (chg_rows xs) (k * 2 + j)
    rw [show (k * 2 + j) / 2 = k by omega, show (k * 2 + j) % 2 = j by omega, hk, Option.bind_some, hu] at hf
    rw [← htk, List.getElem?_take_of_lt (by omega)] at hf
    rw [Nat.zero_add]
    simp only [World.cell?, hg]
    simpa using hf

theorem elemCh : ∃ i : TypeInfo, Tryz.prog.underlying 45 = some (.slice 97) ∧ Tryz.prog.info? 97 = some i ∧ i.zero = some (.agg #[.int .i64 0, .string ByteArray.empty]) ∧ i.size = 2 ∧ i.bytes = 24 := by
  obtain ⟨i0, hi, hz0, hz1, hz2⟩ := info_parts (show (Tryz.prog.info? 97).map (fun i => (i.zero, i.size, i.bytes)) = some (some (.agg #[.int .i64 0, .string ByteArray.empty]), 2, 24) by kernel_rfl)
  exact ⟨i0, Tryz.underlying45, hi, hz0, hz1, hz2⟩

set_option maxRecDepth 100000 in
theorem wp_appCh {ops : Array Oper} {rest : List Oper} {o : Oper} {act : Act} {Q : Exit → Act → World → Prop} {te : TypeId} {w0 wx : World} {a : Option Addr} {cap : Nat} {xs : List Wh.Change}
    (hO : OwnCh w0 wx a cap xs) (s : Wh.Change) (hby : xs.length < 5864062014634) (hgd : o.guard = none) (p q : Operand)
    (ho : o.op = .call { callee := .builtin .append, args := #[p, q], argTypes := #[45, 45] }) (hs : act.eval p = .slice a xs.length cap) (hx : act.eval q = .slice (some ⟨wx.heap.size, 0, none⟩) 1 1)
    (h : ∀ g cap' w', OwnCh w0 w' (some ⟨g, 0, none⟩) cap' (xs ++ [s]) → wpList Tryz.prog ops Q rest (act.put o.dst (.slice (some ⟨g, 0, none⟩) (xs.length + 1) cap')) w') :
    wpList Tryz.prog ops Q (o :: rest) act (wx.alloc (.cells #[.int .i64 s.kind, .string s.path] te)) := by
  obtain ⟨i, ht, hi, hz0, hz1, hz2⟩ := elemCh
  have hbz := hO.2.size
  have hba : w0.heap.size ≤ (wx.alloc (.cells #[.int .i64 s.kind, .string s.path] te)).heap.size := by simp; omega
  refine wpList_append_lies _ hgd p q 45 ho w0.heap.size 97 i _ 2 24 ht hi hz0 hz1 hz2 rfl (by decide) _ xs.length (xs.map chgCells).flatten hs (hO.1.alloc _) ⟨wx.heap.size, 0, none⟩ 1 1 (chgCells s) hx rfl (World.news_of_block (heap_alloc_new wx (.cells #[.int .i64 s.kind, .string s.path] te))) (by simp [chgCells, Value.oneCell']) (by decide) (by unfold maxLen; omega) (by omega) hba _ rfl ?_
  intro g cap' w' hown hgrow hat hlt
  refine h g cap' w' ⟨?_, ?_⟩
  · rw [List.map_append, List.flatten_append, List.length_append]
    simpa using hown
  · refine (hO.2.alloc hbz _).grown hgrow hba (fun kk hkk => ?_)
    rcases hO.1.2 with ⟨hv, _⟩ | ⟨g', c, cur, hv, hg, _⟩
    · rw [hv] at hkk
      simp [Value.ownBlock] at hkk
    · rw [hv] at hkk
      simp [Value.ownBlock] at hkk
      omega
end Go.Proofs.YtiliijiohmeagaaGreatDoor
