/-
  Parts of the proof: PlainSearch, SortNd.
-/
import Derived.Test.YtchfhojighopkaaGreatDoorGuAJ
import Derived.Shelf.SlGeneric
import Derived.Shelf.SlSortCmp.Whole1
import Derived.Ground.SlsfProg
import Derived.Test.YtchfhojighopkaaGreatDoorProg
namespace Wh
open Go

theorem bytesLess_irrefl : ∀ a : List UInt8, Op.bytesLess a a = false
 | [] => rfl
 | x :: a => by
  rw [Op.bytesLess, bytesLess_irrefl a]
  simp

theorem bytesLess_trans : ∀ a b c : List UInt8, Op.bytesLess a b = true → Op.bytesLess b c = true → Op.bytesLess a c = true
 | _, [], _ => by simp [Op.bytesLess]
 | _, _ :: _, [] => by simp [Op.bytesLess]
 | [], _ :: _, _ :: _ => by simp [Op.bytesLess]
 | x :: a, y :: b, z :: c => by
  have ih := bytesLess_trans a b c
  simp only [Op.bytesLess, Bool.or_eq_true, Bool.and_eq_true, decide_eq_true_eq, beq_iff_eq]
  intro h1 h2
  rcases h1 with h1 | ⟨rfl, h1⟩
  ·rcases h2 with h2 | ⟨rfl, h2⟩
   ·left
    rw [UInt8.lt_iff_toNat_lt] at *
    omega
   ·exact .inl h1
  ·rcases h2 with h2 | ⟨rfl, h2⟩
   ·exact .inl h2
   ·exact .inr ⟨rfl, ih h1 h2⟩

section
variable {xs : List ByteArray} {x y : ByteArray} {i j h : Nat}
end

end Wh
namespace Go.Proofs
open Go.Shelf
def Tryz.sortNd_ren : Go.Shelf.Ren := ⟨fun | 6 => 167 | 15 => 171 | 14 => 170 | 28 => 181 | 29 => 127 | 20 => 173 | 21 => 174 | 22 => 175 | 23 => 176 | 24 => 177 | 25 => 178 | 26 => 179 | 27 => 180 | 46 => 183 | 47 => 184 | 48 => 185 | 49 => 186 | 50 => 187 | 57 => 188 | n => n, fun | 22 => 263 | 24 => 105 | 25 => 266 | 3 => 3 | 39 => 40 | 0 => 0 | 53 => 164 | 55 => 167 | 4 => 4 | 46 => 270 | 45 => 269 | 50 => 274 | 5 => 5 | 9 => 9 | 66 => 276 | 70 => 280 | 76 => 282 | 77 => 283 | n => n, fun | n => n⟩
theorem Tryz.sortNd : Go.Proofs.SlLaysF.n6 Tryz.prog Tryz.sortNd_ren := {
 mixed := by kernel_rfl
 f6 := ⟨Tryz.f167.name, by decide, Tryz.func167.trans (congrArg some (by kernel_rfl))⟩
 f14 := ⟨Tryz.f170.name, by decide, Tryz.func170.trans (congrArg some (by kernel_rfl))⟩
 f15 := Tryz.func171.trans (congrArg some (by kernel_rfl))
 f20 := ⟨Tryz.f173.name, by decide, Tryz.func173.trans (congrArg some (by kernel_rfl))⟩
 f21 := ⟨Tryz.f174.name, by decide, Tryz.func174.trans (congrArg some (by kernel_rfl))⟩
 f22 := ⟨Tryz.f175.name, by decide, Tryz.func175.trans (congrArg some (by kernel_rfl))⟩
 f23 := ⟨Tryz.f176.name, by decide, Tryz.func176.trans (congrArg some (by kernel_rfl))⟩
 f24 := ⟨Tryz.f177.name, by decide, Tryz.func177.trans (congrArg some (by kernel_rfl))⟩
 f25 := ⟨Tryz.f178.name, by decide, Tryz.func178.trans (congrArg some (by kernel_rfl))⟩
 f26 := ⟨Tryz.f179.name, by decide, Tryz.func179.trans (congrArg some (by kernel_rfl))⟩
 f27 := ⟨Tryz.f180.name, by decide, Tryz.func180.trans (congrArg some (by kernel_rfl))⟩
 f28 := Tryz.func181.trans (congrArg some (by kernel_rfl))
 f29 := Tryz.func127.trans (congrArg some (by kernel_rfl))
 f46 := ⟨Tryz.f183.name, by decide, Tryz.func183.trans (congrArg some (by kernel_rfl))⟩
 f47 := Tryz.func184.trans (congrArg some (by kernel_rfl))
 f48 := Tryz.func185.trans (congrArg some (by kernel_rfl))
 f49 := ⟨Tryz.f186.name, by decide, Tryz.func186.trans (congrArg some (by kernel_rfl))⟩
 f50 := ⟨Tryz.f187.name, by decide, Tryz.func187.trans (congrArg some (by kernel_rfl))⟩
 f57 := ⟨Tryz.f188.name, by decide, Tryz.func188.trans (congrArg some (by kernel_rfl))⟩
 t0 := Tryz.underlying0
 a0 := Tryz.isAgg0
 z0 := Tryz.sizeOf0
 v0 := Tryz.zeroValue0
 t3 := Tryz.underlying3
 a3 := Tryz.isAgg3
 z3 := Tryz.sizeOf3
 v3 := Tryz.zeroValue3
 t4 := Tryz.underlying4
 a4 := Tryz.isAgg4
 z4 := Tryz.sizeOf4
 v4 := Tryz.zeroValue4
 t5 := Tryz.underlying5
 a5 := Tryz.isAgg5
 z5 := Tryz.sizeOf5
 v5 := Tryz.zeroValue5
 t9 := Tryz.underlying9
 a9 := Tryz.isAgg9
 z9 := Tryz.sizeOf9
 v9 := Tryz.zeroValue9
 t22 := Tryz.underlying263
 a22 := Tryz.isAgg263
 z22 := Tryz.sizeOf263
 v22 := Tryz.zeroValue263
 a24 := Tryz.isAgg105
 z24 := Tryz.sizeOf105
 t25 := Tryz.underlying266
 a25 := Tryz.isAgg266
 z25 := Tryz.sizeOf266
 v25 := Tryz.zeroValue266
 t39 := Tryz.underlying40
 a39 := Tryz.isAgg40
 z39 := Tryz.sizeOf40
 v39 := Tryz.zeroValue40
 t45 := Tryz.underlying269
 a45 := Tryz.isAgg269
 z45 := Tryz.sizeOf269
 v45 := Tryz.zeroValue269
 t46 := Tryz.underlying270
 a46 := Tryz.isAgg270
 z46 := Tryz.sizeOf270
 v46 := Tryz.zeroValue270
 t50 := Tryz.underlying274
 a50 := Tryz.isAgg274
 z50 := Tryz.sizeOf274
 v50 := Tryz.zeroValue274
 t53 := Tryz.underlying164
 a53 := Tryz.isAgg164
 z53 := Tryz.sizeOf164
 v53 := Tryz.zeroValue164
 t55 := Tryz.underlying167
 a55 := Tryz.isAgg167
 z55 := Tryz.sizeOf167
 v55 := Tryz.zeroValue167
 t66 := Tryz.underlying276
 a66 := Tryz.isAgg276
 z66 := Tryz.sizeOf276
 v66 := Tryz.zeroValue276
 t70 := Tryz.underlying280
 a70 := Tryz.isAgg280
 z70 := Tryz.sizeOf280
 v70 := Tryz.zeroValue280
 t76 := Tryz.underlying282
 a76 := Tryz.isAgg282
 z76 := Tryz.sizeOf282
 v76 := Tryz.zeroValue282
 t77 := Tryz.underlying283
 a77 := Tryz.isAgg283
 z77 := Tryz.sizeOf283
 v77 := Tryz.zeroValue283 }
end Go.Proofs
