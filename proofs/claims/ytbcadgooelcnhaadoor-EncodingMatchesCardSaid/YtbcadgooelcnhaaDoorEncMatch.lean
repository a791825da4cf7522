/-
  The law EncodingMatches, walked.
-/
import Derived.Test.YtbcadgooelcnhaaDoorDecLaw
import Derived.Test.YtbcadgooelcnhaaDoorPlainPermit
namespace Go.Proofs.YtbcadgooelcnhaaDoor
open Go.RowKit

set_option maxHeartbeats 1000000 in
theorem encMatch1_any (s : ByteArray) (c : UInt8) (w : World) :
    Calls Tryd.prog 58 #[.string s, .int .u8 (c.toNat : Int)] w fun e w' => e = .returned (.bool (s.data.toList.contains c)) ∧ w' = w := by
  have HC := Lib.hid (Lib.contains_iff_indexByte s.data.toList c)
  have hback : ((c.toNat : Int)).toNat.toUInt8 = c := by simp
  have HI := fun W => Tryd.strings_IndexByte s c.toNat W
  rw [hback] at HI
  have HI := Lib.hid HI
  clear hback
  go_enter Tryd.func58, Tryd.ntmps58
  go_wp2_with (go_at_call 59; refine (HI.out _).mono ?_; rintro e w' ⟨rfl, rfl⟩)
  go_ret
  exact ⟨ret_bool (by rw [HC.out]), rfl⟩

theorem enters_encMatch1 : ∀ args w, (callFunc 58 args).run Tryd.prog w = .ok (.enter 58 args) w := enters_of Tryd.func58 (by kernel_rfl) rfl
theorem enters_encMatch2 : ∀ args w, (callFunc 62 args).run Tryd.prog w = .ok (.enter 62 args) w := enters_of Tryd.func62 (by kernel_rfl) rfl

set_option maxHeartbeats 1000000 in
theorem encMatch2_any (f : ByteArray) (c : UInt8) (b1 b2 : Nat) (w : World) (h1 : w.cell? ⟨b1, 0, none⟩ = some (.func (.func 58) #[] #[])) (h2 : w.cell? ⟨b2, 0, none⟩ = some (.string f)) (hc : f.data.toList.contains c = false) :
    Calls Tryd.prog 62 #[.int .u8 (c.toNat : Int), .pointer (some ⟨b1, 0, none⟩), .pointer (some ⟨b2, 0, none⟩)] w fun e w' => e = .returned (.bool false) ∧ w' = w := by
  have hq := fun W => encMatch1_any f c W
  rw [hc] at hq
  have HQ := Lib.hid hq
  have hen := enters_encMatch1
  clear hq hc
  go_enter Tryd.func62, Tryd.ntmps62
  go_wp2_with (go_at_call 58; refine (HQ.out _).mono ?_; rintro e w' ⟨rfl, rfl⟩)
  go_ret
  exact ⟨rfl, rfl⟩

set_option maxHeartbeats 1000000 in
theorem indexFunc_none (F : FuncId) (c1 c2 : Value) (a : Option Addr) (c : Nat) (xs : List UInt8) (w : World) (hen : ∀ args w, (callFunc F args).run Tryd.prog w = .ok (.enter F args) w)
    (hl : xs.length ≤ 9223372036854775807) (hH : Holds w a (xs.map vb)) (hp : ∀ b ∈ xs, Calls Tryd.prog F #[.int .u8 (b.toNat : Int), c1, c2] w fun e w' => e = .returned (.bool false) ∧ w' = w) :
    Calls Tryd.prog 98 #[.slice a xs.length c, .func (.func F) #[] #[c1, c2]] w fun e w' => e = .returned (.int .i64 (-1)) ∧ w' = w := by
  have HH := Lib.hid hH
  have HP := Lib.hid hp
  clear hH hp
  go_enter Tryd.func98, Tryd.ntmps98
  go_wp2_with fail
  go_loopg [8] xs.length (fun g i wx => ∃ k : Nat, k + g = xs.length ∧ i = .int .i64 k ∧ wx = w)
  case atStart => exact ⟨0, by omega, rfl, rfl⟩
  case round =>
    obtain ⟨k, hk, rfl, rfl⟩ := hrel
    by_cases hlt : k < xs.length
    · obtain ⟨g, rfl⟩ : ∃ g, gk = g + 1 := ⟨gk - 1, by omega⟩
      obtain ⟨x, hx⟩ : ∃ x, xs[k]? = some x := ⟨_, List.getElem?_eq_getElem hlt⟩
      obtain ⟨ba, off, ha, hba, hca⟩ := HH.out.at (k := k) (u := vb x) (by simp [hx])
      have HC := Lib.hid (HP.out x (List.mem_of_getElem? hx))
      clear hx
      subst ha
      go_wp2_with fail
      refine HC.out.mono ?_
      rintro e w' ⟨rfl, rfl⟩
      go_wp2_with fail
      go_roundg g
      case measure => omega
      case rel => exact ⟨k + 1, by omega, by go_num, rfl⟩
    · go_wp2_with fail
      go_ret
      exact ⟨rfl, rfl⟩

set_option maxHeartbeats 1000000 in
theorem containsFunc_none (F : FuncId) (c1 c2 : Value) (a : Option Addr) (c : Nat) (xs : List UInt8) (w : World) (hen : ∀ args w, (callFunc F args).run Tryd.prog w = .ok (.enter F args) w)
    (hl : xs.length ≤ 9223372036854775807) (hH : Holds w a (xs.map vb)) (hp : ∀ b ∈ xs, Calls Tryd.prog F #[.int .u8 (b.toNat : Int), c1, c2] w fun e w' => e = .returned (.bool false) ∧ w' = w) :
    Calls Tryd.prog 61 #[.slice a xs.length c, .func (.func F) #[] #[c1, c2]] w fun e w' => e = .returned (.bool false) ∧ w' = w := by
  have H := Lib.hid (indexFunc_none F c1 c2 a c xs w hen hl hH hp)
  clear hH hp
  go_enter Tryd.func61, Tryd.ntmps61
  go_wp2_with (go_at_call 98; refine H.out.mono ?_; rintro e w' ⟨rfl, rfl⟩)
  go_ret
  exact ⟨rfl, rfl⟩
end Go.Proofs.YtbcadgooelcnhaaDoor
