/-
  What slices.SortFunc makes of the reference's list of changes.
-/
import Derived.Test.YtiliijiohmeagaaGreatDoorPlainMark
import Derived.Shelf.SlSortCmp.WholeK
namespace Wh
open Go Go.Proofs Go.Sort

instance : Inhabited Change := ⟨⟨0, ByteArray.empty⟩⟩

/-- The order of changes. -/
def cmpC (a b : Change) : Int := ordB a.path b.path

theorem ltC (a b : Change) : ltOf cmpC a b = decide (ordB a.path b.path < 0) := rfl

theorem swoC : SWO (ltOf cmpC) where
  irrefl x := by rw [ltC, ordB_self]; rfl
  trans x y z h1 h2 := by
    rw [ltC, decide_eq_true_eq] at *
    exact ordB_trans h1 h2
  ntrans x y z h1 h2 := by
    rw [ltC, decide_eq_false_iff_not] at *
    intro h
    rcases Int.lt_trichotomy (ordB y.path x.path) 0 with q | q | q
    · exact h2 (ordB_trans q h)
    · have := ordB_zero q
      rw [this] at h2
      exact h2 h
    · rw [ordB_swap] at q
      omega

theorem sorted_up {d d' : Array Change} (hp : PermIn 0 d.size d d') (hs : SortedIn (ltOf cmpC) 0 d.size d') (hn : d.toList.Pairwise (fun a b => a.path ≠ b.path)) :
    UpC d'.toList ∧ ∀ c, c ∈ d'.toList ↔ c ∈ d.toList := by
  obtain ⟨h1, _, h2⟩ := hp
  have hperm : d'.toList.Perm d.toList := by
    have e1 : d'.extract 0 d.size = d' := by rw [← h1]; simp
    have e2 : d.extract 0 d.size = d := by simp
    rw [e1, e2] at h2
    exact h2
  have hn' : d'.toList.Pairwise (fun a b => a.path ≠ b.path) := (hperm.pairwise_iff (fun h => Ne.symm h)).2 hn
  refine ⟨?_, fun c => hperm.mem_iff⟩
  unfold UpC
  rw [List.pairwise_iff_getElem] at hn' ⊢
  intro i j hi hj hij
  have hne := hn' i j hi hj hij
  have hi' : i < d'.size := by simpa using hi
  have hj' : j < d'.size := by simpa using hj
  have h3 := hs i j (Nat.zero_le _) hij (by rw [← h1]; exact hj')
  rw [ltC, decide_eq_false_iff_not, getElem!_pos d' i hi', getElem!_pos d' j hj'] at h3
  rw [ordB_swap] at h3
  have h0 : ordB d'[i].path d'[j].path ≠ 0 := fun h => hne (ordB_zero h)
  simp only [Array.getElem_toList] at *
  omega
end Wh
