/-
  Plain facts on paths.
-/
import Derived.Test.YtikegddlbelfaaaGreatDoorPlain
namespace Wh
open Go

theorem pathErr_cases (l : List UInt8) : pathErr l = 1 ∨ pathErr l = 0 := by
  unfold pathErr
  split
  · exact .inr rfl
  · exact .inl rfl

theorem pathErr_zero {l : List UInt8} (h : pathErr l = 0) : isPath l = true := by
  unfold pathErr at h
  split at h
  · assumption
  · omega

theorem pathsErr_one (s : ByteArray) : pathsErr [s] = pathErr s.data.toList := by simp [pathsErr, pathErr]

theorem path_size {s : ByteArray} (h : isPath s.data.toList = true) : s.size ≤ 1024 := by
  rw [Lib.size_eq]
  exact isPath_le h

theorem pieces_join (c : UInt8) (s : ByteArray) : Lib.join ((pieces c s).map (·.data.toList)) [c] = s.data.toList := by
  rw [pieces_data, join_splitC]

theorem namesOf_join (s : ByteArray) : Lib.join ((namesOf s).map (·.data.toList)) [47] = s.data.toList := by
  unfold namesOf
  split
  · rename_i h
    simp at h
    simp [h, Lib.join_nil]
  · exact pieces_join 47 s

theorem namesOf_names {s : ByteArray} (h : isPath s.data.toList = true) : (namesOf s).all (fun x => isName x.data.toList) = true := by
  cases h0 : s.data.toList.isEmpty
  · rw [namesOf_some h0, ← isPath_split h0 (path_size h)]
    exact h
  · rw [namesOf_none h0]
    rfl

theorem joinText_path {s : ByteArray} (h : isPath s.data.toList = true) : joinText (namesOf s) = s ∧ joinErr (namesOf s) = 0 := by
  have h1 := join_good (namesOf_names h) (by rw [namesOf_join, ← Lib.size_eq]; exact path_size h)
  rw [namesOf_join] at h1
  exact ⟨h1.1, h1.2⟩

theorem namesOf_le (s : ByteArray) : (namesOf s).length ≤ s.size + 1 := by
  unfold namesOf
  split
  · simp
  · exact pieces_le 47 s

theorem namesOf_size {s x : ByteArray} (h : x ∈ namesOf s) : x.size ≤ s.size := by
  unfold namesOf at h
  split at h
  · simp at h
  · exact pieces_size h
theorem extract_none (s : ByteArray) : s.extract 0 0 = ⟨#[]⟩ := by
  apply ByteArray.ext
  rw [ByteArray.data_extract]
  simp

theorem extract_whole (s : ByteArray) : s.extract 0 s.size = s := by
  apply ByteArray.ext
  rw [ByteArray.data_extract]
  show s.data.extract 0 s.data.size = s.data
  simp
end Wh
