/-
  Lists of faults: the clone.
-/
import Derived.Test.YtiliijiohmeagaaGreatDoorFault2
import Derived.Deep.AppendLies
namespace Go.Proofs.YtiliijiohmeagaaGreatDoor
open Go.RowKit

theorem infoFault : (Tryz.prog.info? 257).map (fun i => (i.zero, i.size, i.bytes)) = some (some (.agg #[.int .i64 0, .int .i64 0, .int .i64 0, .int .i64 0]), 4, 32) := by kernel_rfl

/-- Some slice comes back; nothing old has changed. -/
def SomeSlice (w : World) (e : Ending) (w' : World) : Prop := (∃ a n c, e = .returned (.slice a n c)) ∧ Below w.heap.size w w'

theorem fault_rows (xs : List Wh.Fault) : ∀ r ∈ xs.map faultCells, r.length = 4 := by
  intro r hr
  obtain ⟨x, _, rfl⟩ := List.mem_map.1 hr
  rfl

theorem fault_one (xs : List Wh.Fault) : ∀ u ∈ (xs.map faultCells).flatten, u.oneCell' = true := by
  intro u hu
  obtain ⟨r, hr, hu⟩ := List.mem_flatten.1 hu
  obtain ⟨x, _, rfl⟩ := List.mem_map.1 hr
  simp [faultCells] at hu
  rcases hu with rfl | rfl | rfl | rfl <;> rfl

theorem own_form_slice {w : World} {base : Nat} {e : TypeId} {size n : Nat} {v : Value} {xs : List Value} (h : w.ownsRow base e size v n xs) : ∃ a c, v = .slice a n c := by
  rcases h.2 with ⟨rfl, rfl⟩ | ⟨g, cap, cur, rfl, _⟩
  · exact ⟨_, _, rfl⟩
  · exact ⟨_, _, rfl⟩

set_option maxHeartbeats 1000000 in
theorem cloneFaults_any (xs : List Wh.Fault) (a : Option Addr) (c : Nat) (w : World) (hl : xs.length ≤ 1000) (hH : HoldsR w a 4 (xs.map faultCells)) :
    Calls Tryz.prog 130 #[.slice a xs.length c] w (SomeSlice w) := by
  obtain ⟨i0, hi, hz0, hz1, hz2⟩ := info_parts infoFault
  cases a with
  | none =>
    clear hi hz0 hz1 hz2
    have hnil := fun W n c => Lib.run_eql_slice_nil (P := Tryz.prog) W 65 257 none n c 0 0 Tryz.underlying65
    go_enter Tryz.func130, Tryz.ntmps130
    go_wp2_with fail
    go_ret
    exact ⟨⟨_, _, _, rfl⟩, Below.refl _ _⟩
  | some ad =>
    have hnil := fun W n c => Lib.run_eql_slice_nil (P := Tryz.prog) W 65 257 (some ad) n c 0 0 Tryz.underlying65
    have hown : (w.alloc (.cells #[] 257)).ownsRow w.heap.size 257 4 (.slice (some ⟨w.heap.size, 0, none⟩) 0 0) 0 [] :=
      ⟨rfl, .inr ⟨w.heap.size, 0, #[], rfl, Nat.le_refl _, heap_alloc_new w _, Nat.le_refl _, Nat.zero_le _, rfl, rfl⟩⟩
    have hb0 : Below w.heap.size w (w.alloc (.cells #[] 257)) := bAlloc (Below.refl _ _) _
    have hnews := (hH.under hb0).flat (by decide) (fault_rows xs)
    have hlen : (xs.map faultCells).flatten.length = xs.length * 4 := by rw [flat_len 4 _ (fault_rows xs), List.length_map]
    have HOwn := Lib.hid hown
    have HNews := Lib.hid hnews
    have HLen := Lib.hid hlen
    have HI := Lib.hid (And.intro hi (And.intro hz0 (And.intro hz1 hz2)))
    clear hown hnews hlen hi hz0 hz1 hz2 hH
    go_enter Tryz.func130, Tryz.ntmps130
    go_wp2_with (at_builtin; refine wpList_append_own _ rfl _ _ 65 rfl w.heap.size 257 i0 (.agg #[.int .i64 0, .int .i64 0, .int .i64 0, .int .i64 0]) 4 32 Tryz.underlying65 HI.out.1 HI.out.2.1 HI.out.2.2.1 HI.out.2.2.2 rfl (by decide) _ _ _ rfl HOwn.out ad xs.length c (xs.map faultCells).flatten rfl HLen.out HNews.out (fault_one xs) (by unfold maxLen; omega) (by omega) (by simp) ?_; intro v' w' hown' hgrow _)
    obtain ⟨a', c', rfl⟩ := own_form_slice hown'
    go_wp2_with fail
    go_ret
    exact ⟨⟨_, _, _, rfl⟩, hb0.grown hgrow (by simp) (fun kk hkk => by cases hkk; exact Nat.le_refl _)⟩
end Go.Proofs.YtiliijiohmeagaaGreatDoor
