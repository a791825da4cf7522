/-
  strings.Builder: a builder of the call's own, beside other work.
-/
import Derived.Test.YtfenmeacimfiaaaGreatDoorOwn
import Derived.Shelf.Strings.BuilderK
import Derived.ShutString
namespace Go.Proofs.YtfenmeacimfiaaaGreatDoor
open Go.RowKit

/-- A builder in block b that holds out; nothing older than w0 has changed, and the builder is younger than w0. -/
def Bld (w0 : World) (b : Nat) (out : List UInt8) (wx : World) : Prop :=
  Lib.IsBuilderF 139 5 w0.heap.size b (Lib.byteCells out) wx ∧ Below w0.heap.size w0 wx

theorem Bld.below {w0 wx : World} {b : Nat} {out : List UInt8} (h : Bld w0 b out wx) : Below w0.heap.size w0 wx := h.2
theorem Bld.lt {w0 wx : World} {b : Nat} {out : List UInt8} (h : Bld w0 b out wx) : b < wx.heap.size := h.1.elim (fun x => x.lt) (fun x => x.lt)

theorem rowF_under {e : TypeId} {base : Nat} {wx w' : World} {v : Value} {n : Nat} {xs : List Value} (h : wx.ownsRowF base e 1 v n xs) (hb : Below wx.heap.size wx w') : w'.ownsRowF base e 1 v n xs := by
  refine ⟨h.1, ?_⟩
  rcases h.2 with hn | ⟨g, c, cur, fz, hv, h1, h2, h3⟩
  · exact .inl hn
  · refine .inr ⟨g, c, cur, fz, hv, h1, ?_, h3⟩
    rw [hb.block g (Array.getElem?_eq_some_iff.1 h2).1]
    exact h2
theorem atF_under {T e : TypeId} {B b : Nat} {p : Value} {bs : List Value} {wx w' : World} (h : Lib.BuilderAtF T e B b p bs wx) (hb : Below wx.heap.size wx w') : Lib.BuilderAtF T e B b p bs w' := by
  have hlt := h.lt
  obtain ⟨hB, v, hk, hown, hne⟩ := h
  exact ⟨hB, v, by rw [hb.block b hlt]; exact hk, rowF_under hown hb, hne⟩
theorem Bld.under {w0 wx w' : World} {b : Nat} {out : List UInt8} (h : Bld w0 b out wx) (hb : Below wx.heap.size wx w') : Bld w0 b out w' :=
  ⟨h.1.elim (fun x => .inl (atF_under x hb)) (fun x => .inr (atF_under x hb)), bTrans h.2 hb⟩

theorem Bld.fresh (w : World) : Bld w w.heap.size [] (w.alloc (.cells #[.pointer none, .slice none 0 0] 139)) := by
  refine ⟨.inl ⟨Nat.le_refl _, .slice none 0 0, heap_alloc_new w _, ⟨rfl, .inl ⟨rfl, rfl⟩⟩, by simp [Value.ownBlock]⟩, bAlloc (Below.refl _ _) _⟩

theorem writeString_any (s : ByteArray) {w0 w : World} {b : Nat} {out : List UInt8} (h : Bld w0 b out w) (hl : out.length + s.size ≤ 140737488355328) :
    Calls Tryz.prog 64 #[.pointer (some ⟨b, 0, none⟩), .string s] w fun e w' => e = .returned (.tuple #[.int .i64 s.size, .nilIface]) ∧ Bld w0 b (out ++ s.data.toList) w' ∧ Lib.OthersKept 5 (some b) w w' := by
  refine (Any.Builder_WriteString_k { Tryz.lays156 with } Tryz.Builder_Extra_156 w0.heap.size b (Lib.byteCells out) s w h.1 (by simpa [Lib.byteCells] using hl) h.2.size).mono ?_
  rintro e w' ⟨rfl, h1, h2, h3⟩
  refine ⟨rfl, ⟨.inr ?_, h.2.trans h2⟩, h3⟩
  have : Lib.byteCells (out ++ s.data.toList) = Lib.byteCells out ++ Lib.strCells s := by
    simp [Lib.byteCells, Lib.strCells]
  rw [this]
  exact h1

theorem buildString_any {w0 w : World} {b : Nat} {out : List UInt8} (h : Bld w0 b out w) :
    Calls Tryz.prog 65 #[.pointer (some ⟨b, 0, none⟩)] w fun e w' => e = .returned (.string ⟨out.toArray⟩) ∧ Bld w0 b out w' := by
  refine (Any.Builder_String_any_k { Tryz.lays156 with } Tryz.Builder_Extra_156 w0.heap.size b out w h.1 h.2.size).mono ?_
  rintro e w' ⟨rfl, h1, h2, _⟩
  exact ⟨rfl, h1, h.2.trans h2⟩

theorem kept_below {e : TypeId} {b : Option Nat} {w w' : World} (h : Below w.heap.size w w') : Lib.OthersKept e b w w' := by
  intro k o hk _ _
  rw [h.block k (Array.getElem?_eq_some_iff.1 hk).1]
  exact hk
end Go.Proofs.YtfenmeacimfiaaaGreatDoor
