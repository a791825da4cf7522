/-
  append to a row of the call's own, inside a region that draws its order and is walked along one order.
-/
import Derived.Test.YtjcpcmiijadmcaaDoorOwn
import Derived.Test.YtjcpcmiijadmcaaDoorSeq
namespace Go.Proofs.YtjcpcmiijadmcaaDoor
open Go.RowKit

theorem seq_app {P : Program} {ops : Array Oper} {Q : Exit → Act → World → Prop} {S : World → Prop} {r : List (Nat × Bool)} {i : Nat} {o : Oper} {act : Act} {t e te : TypeId} {z : Value} {bytes : Nat} {w0 wx : World} {a : Option Addr} {n cap : Nat} {xs : List Value}
    (hi0 : ops[i]? = some o) (hE : ElemOk P t e z bytes) (hO : Own e w0 wx a n cap xs) (news : List Value) (m : Nat) (hl : news.length = m) (hm : 0 < m) (h1 : ∀ u ∈ news, u.oneCell' = true)
    (h63 : n + m ≤ 9223372036854775807) (hby : (n + m) * bytes ≤ 140737488355328) (hgd : o.guard = none) (s x : Operand)
    (ho : o.op = .call { callee := .builtin .append, args := #[s, x], argTypes := #[t, t] }) (hs : act.eval s = .slice a n cap) (hx : act.eval x = .slice (some ⟨wx.heap.size, 0, none⟩) m m)
    (hS : ∀ w', Below w0.heap.size w0 w' → S w')
    (h : ∀ g cap' w', Own e w0 w' (some ⟨g, 0, none⟩) (n + m) cap' (xs ++ news) → wpSeq P ops Q S r (act.put o.dst (.slice (some ⟨g, 0, none⟩) (n + m) cap')) w') :
    wpSeq P ops Q S ((i, false) :: r) act (wx.alloc (.cells news.toArray te)) := by
  obtain ⟨inf, ht, hi, hz0, hz1, hz2, hz3⟩ := hE
  have hbz := hO.2.size
  have hba : w0.heap.size ≤ (wx.alloc (.cells news.toArray te)).heap.size := by simp; omega
  refine wpOp_step hi0 fun K hK => ?_
  refine step_append_lies _ hgd s x t ho w0.heap.size e inf z 1 bytes ht hi hz0 hz1 hz2 hz3 (by decide) _ n xs hs (hO.1.alloc _) ⟨wx.heap.size, 0, none⟩ m m news hx (by omega) (World.news_of_block (heap_alloc_new wx _)) h1 hm h63 hby hba _ rfl ?_
  intro g cap' w' hown hgrow hat hlt
  have hO' : Own e w0 w' (some ⟨g, 0, none⟩) (n + m) cap' (xs ++ news) := ⟨hown, (hO.2.alloc hbz _).grown hgrow hba (fun kk hkk => own_base hO.1 kk hkk)⟩
  exact hK _ _ ⟨hS _ hO'.2, h g cap' w' hO'⟩

theorem Own.fresh (e : TypeId) {w0 wx : World} (hb : Below w0.heap.size w0 wx) (vs : List Value) (h : vs.length ≤ 1000) : Own e w0 (wx.alloc (.cells vs.toArray e)) (some ⟨wx.heap.size, 0, none⟩) vs.length vs.length vs := by
  refine ⟨⟨by simp, .inr ⟨wx.heap.size, vs.length, vs.toArray, rfl, hb.size, ?_, Nat.le_refl _, ?_, by simp, by simp [List.take_of_length_le]⟩⟩, bAlloc hb _⟩
  · show (wx.heap.push _)[wx.heap.size]? = _
    exact Array.getElem?_push_size
  · exact Nat.le_trans h (by decide)
end Go.Proofs.YtjcpcmiijadmcaaDoor
