/-
  plan.quoted, wherryref1.quotePath: a path in quotes.
-/
import Derived.Test.YtfenmeacimfiaaaGreatDoorOwn
namespace Wh
/-- A byte that is written by its number. -/
def specialB (c : UInt8) : Bool := decide (c.toNat < 32) || c == 34 || c == 92
def octB (c : UInt8) : List UInt8 := [92, UInt8.ofNat (48 + c.toNat / 64), UInt8.ofNat (48 + c.toNat / 8 % 8), UInt8.ofNat (48 + c.toNat % 8)]
def quoteB (c : UInt8) : List UInt8 := if specialB c then octB c else [c]
/-- A text in quotes. -/
def quoteL (l : List UInt8) : List UInt8 := 34 :: (l.flatMap quoteB ++ [34])

theorem quoteB_len (c : UInt8) : 1 ≤ (quoteB c).length ∧ (quoteB c).length ≤ 4 := by
  unfold quoteB
  split <;> simp [octB]

theorem quoteTo_step {l : List UInt8} {k : Nat} {c : UInt8} (h : l[k]? = some c) : (l.take (k + 1)).flatMap quoteB = (l.take k).flatMap quoteB ++ quoteB c := by
  rw [List.take_add_one, h]
  simp
end Wh

namespace Go.Proofs.YtfenmeacimfiaaaGreatDoor
open Go.RowKit

theorem OwnB.fresh (w : World) (bs : List UInt8) (h : bs.length ≤ 1000) : OwnB w (w.alloc (.cells (bs.map vb).toArray 5)) (some ⟨w.heap.size, 0, none⟩) bs.length bs := by
  refine ⟨⟨by simp, .inr ⟨w.heap.size, bs.length, (bs.map vb).toArray, rfl, Nat.le_refl _, ?_, Nat.le_refl _, ?_, by simp, by simp [List.take_of_length_le]⟩⟩, bAlloc (Below.refl _ _) _⟩
  · show (w.heap.push _)[w.heap.size]? = _
    exact Array.getElem?_push_size
  · exact Nat.le_trans h (by decide)

set_option maxHeartbeats 1000000 in
set_option maxRecDepth 100000 in
theorem special_any (c : UInt8) (w : World) : Calls Tryz.prog 143 #[.int .u8 c.toNat] w fun e w' => e = .returned (.bool (Wh.specialB c)) ∧ w' = w := by
  have h1 : ((c.toNat : Int) == 34) = (c == 34) := by
    have : ∀ n : Fin 256, (((n.1 : Nat) : Int) == 34) = (UInt8.ofNat n.1 == 34) := by decide +kernel
    have := this ⟨c.toNat, c.toNat_lt⟩
    simpa using this
  have h2 : ((c.toNat : Int) == 92) = (c == 92) := by
    have : ∀ n : Fin 256, (((n.1 : Nat) : Int) == 92) = (UInt8.ofNat n.1 == 92) := by decide +kernel
    have := this ⟨c.toNat, c.toNat_lt⟩
    simpa using this
  have HS : Hid (Wh.specialB c = ((c == 34) || (c == 92) || decide (c.toNat < 32))) := Lib.hid (by
    unfold Wh.specialB
    cases decide (c.toNat < 32) <;> cases (c == 34) <;> cases (c == 92) <;> rfl)
  generalize (c == 34) = b1 at *
  generalize (c == 92) = b2 at *
  by_cases h3 : c.toNat < 32
  case' pos => have h4 : (c.toNat : Int) < 32 := by omega
  case' neg => have h4 : ¬ (c.toNat : Int) < 32 := by omega
  all_goals
    have HS2 := HS.out
    simp only [h3, decide_true, decide_false] at HS2
    have HS3 := Lib.hid HS2
    clear HS HS2
    cases b1 <;> cases b2
    all_goals
      go_enter Tryz.func143, Tryz.ntmps143
      go_wp2_with fail
      go_ret
      exact ⟨by rw [HS3.out]; first | rfl | (simp [h4]; done), rfl⟩

theorem wp_app4B {ops : Array Oper} {rest : List Oper} {o : Oper} {act : Act} {Q : Exit → Act → World → Prop} {te : TypeId} {w0 wx : World} {a : Option Addr} {cap : Nat} {out : List UInt8}
    (hO : OwnB w0 wx a cap out) (y1 y2 y3 y4 : UInt8) (hby : out.length + 4 ≤ 140737488355328) (hgd : o.guard = none) (s x : Operand)
    (ho : o.op = .call { callee := .builtin .append, args := #[s, x], argTypes := #[137, 137] }) (hs : act.eval s = .slice a out.length cap) (hx : act.eval x = .slice (some ⟨wx.heap.size, 0, none⟩) 4 4)
    (h : ∀ a' cap' w', OwnB w0 w' a' cap' (out ++ [y1, y2, y3, y4]) → wpList Tryz.prog ops Q rest (act.put o.dst (.slice a' (out.length + 4) cap')) w') :
    wpList Tryz.prog ops Q (o :: rest) act (wx.alloc (.cells #[Value.int .u8 y1.toNat, Value.int .u8 y2.toNat, Value.int .u8 y3.toNat, Value.int .u8 y4.toNat] te)) :=
  wp_appB hO [y1, y2, y3, y4] (by simp) hby hgd s x ho hs hx h

theorem oct_facts (c : UInt8) : ∃ o1 o2 o3 : UInt8, ((48 : Int) + (c.toNat : Int) / 64) % 256 = ((o1.toNat : Nat) : Int) ∧ ((48 : Int) + bits BinOp.and IntKind.u8 ((c.toNat : Int) / 8) 7) % 256 = ((o2.toNat : Nat) : Int) ∧ ((48 : Int) + bits BinOp.and IntKind.u8 (c.toNat : Int) 7) % 256 = ((o3.toNat : Nat) : Int) ∧ Wh.octB c = [92, o1, o2, o3] := by
  have h : ∀ n : Fin 256, ((48 : Int) + ((n.1 : Nat) : Int) / 64) % 256 = (((UInt8.ofNat (48 + n.1 / 64)).toNat : Nat) : Int) ∧ ((48 : Int) + bits BinOp.and IntKind.u8 (((n.1 : Nat) : Int) / 8) 7) % 256 = (((UInt8.ofNat (48 + n.1 / 8 % 8)).toNat : Nat) : Int) ∧ ((48 : Int) + bits BinOp.and IntKind.u8 ((n.1 : Nat) : Int) 7) % 256 = (((UInt8.ofNat (48 + n.1 % 8)).toNat : Nat) : Int) := by decide +kernel
  obtain ⟨h1, h2, h3⟩ := h ⟨c.toNat, c.toNat_lt⟩
  exact ⟨_, _, _, h1, h2, h3, rfl⟩

theorem oct_facts2 {c o1 o2 o3 : UInt8} (h : Wh.octB c = [92, o1, o2, o3]) : (48 : Int) + (c.toNat : Int) / 64 = ((o1.toNat : Nat) : Int) ∧ (48 : Int) + (c.toNat : Int) / 8 % 8 = ((o2.toNat : Nat) : Int) ∧ (48 : Int) + (c.toNat : Int) % 8 = ((o3.toNat : Nat) : Int) := by
  have h2 : ∀ n : Fin 256, (48 : Int) + ((n.1 : Nat) : Int) / 64 = (((UInt8.ofNat (48 + n.1 / 64)).toNat : Nat) : Int) ∧ (48 : Int) + ((n.1 : Nat) : Int) / 8 % 8 = (((UInt8.ofNat (48 + n.1 / 8 % 8)).toNat : Nat) : Int) ∧ (48 : Int) + ((n.1 : Nat) : Int) % 8 = (((UInt8.ofNat (48 + n.1 % 8)).toNat : Nat) : Int) := by decide +kernel
  unfold Wh.octB at h
  injection h with _ h
  injection h with e1 h
  injection h with e2 h
  injection h with e3 h
  rw [← e1, ← e2, ← e3]
  exact h2 ⟨c.toNat, c.toNat_lt⟩

theorem byte_facts (c : UInt8) : ((c.toNat : Int) == 34) = (c == 34) ∧ ((c.toNat : Int) == 92) = (c == 92) := by
  have h : ∀ n : Fin 256, (((n.1 : Nat) : Int) == 34) = (UInt8.ofNat n.1 == 34) ∧ (((n.1 : Nat) : Int) == 92) = (UInt8.ofNat n.1 == 92) := by decide +kernel
  have := h ⟨c.toNat, c.toNat_lt⟩
  simpa using this

set_option maxHeartbeats 1000000 in
set_option maxRecDepth 100000 in
theorem quotePath_any (s : ByteArray) (w : World) (hs : s.size ≤ 100000000) : Calls Tryz.prog 147 #[.string s] w fun e w' => e = .returned (.string ⟨(Wh.quoteL s.data.toList).toArray⟩) ∧ Below w.heap.size w w' := by
  have HF := Lib.hid (OwnB.fresh w [34] (by decide))
  go_enter Tryz.func147, Tryz.ntmps147
  go_wp2_with fail
  go_loopg [3, 9] s.size (fun g s3 s9 wx => ∃ (k : Nat) (out : List UInt8) (a : Option Addr) (cap : Nat), k + g = s.size ∧ s9 = .int .i64 k ∧ s3 = .slice a out.length cap ∧ out.length ≤ 4 * k + 1 ∧ Hid (OwnB w wx a cap out) ∧ Hid (out = 34 :: (s.data.toList.take k).flatMap Wh.quoteB))
  case atStart => exact ⟨0, [34], _, _, by omega, rfl, rfl, by decide, HF, Lib.hid (by simp)⟩
  case round =>
    obtain ⟨k, out, a, cap, hk, rfl, rfl, hlen, HW, HO⟩ := hrel
    by_cases hlt : k < s.size
    · obtain ⟨g, rfl⟩ : ∃ g, gk = g + 1 := ⟨gk - 1, by omega⟩
      obtain ⟨ch, hch⟩ : ∃ ch : UInt8, s[k]'hlt = ch := ⟨_, rfl⟩
      have Hcl : Hid (s.data.toList[k]? = some ch) := Lib.hid (by rw [← hch]; exact Lib.data_getElem? s k hlt)
      obtain ⟨x1, x2⟩ := byte_facts ch
      have HP : Hid (out ++ Wh.quoteB ch = 34 :: (s.data.toList.take (k + 1)).flatMap Wh.quoteB) := Lib.hid (by
        rw [Wh.quoteTo_step Hcl.out, HO.out]
        rfl)
      cases hsp : Wh.specialB ch
      · have hsp2 := hsp
        unfold Wh.specialB at hsp2
        simp only [Bool.or_eq_false_iff, decide_eq_false_iff_not] at hsp2
        obtain ⟨⟨h32, h34⟩, h92⟩ := hsp2
        rw [h34] at x1
        rw [h92] at x2
        have h32' : ¬ (ch.toNat : Int) < 32 := by omega
        clear h34 h92
        have HP2 : Hid (out ++ [ch] = 34 :: (s.data.toList.take (k + 1)).flatMap Wh.quoteB) := Lib.hid (by
          rw [← HP.out]
          unfold Wh.quoteB
          rw [hsp]
          rfl)
        clear HP hsp
        go_wp2_with (at_builtin; refine wp_app1B HW.out ch (by omega) rfl (.tmp 38) (.tmp 40) rfl rfl rfl ?_)
        intro a2 cap2 w6 hO6
        have HO6 := Lib.hid hO6
        clear hO6
        go_wp2_with fail
        go_roundg g
        case measure => omega
        case rel => exact ⟨k + 1, out ++ [ch], a2, cap2, by omega, by go_num, by simp, by simp; omega, HO6, HP2⟩
      · obtain ⟨o1, o2, o3, q1, q2, q3, hq⟩ := oct_facts ch
        have HP2 : Hid (out ++ [92, o1, o2, o3] = 34 :: (s.data.toList.take (k + 1)).flatMap Wh.quoteB) := Lib.hid (by
          rw [← HP.out, ← hq]
          unfold Wh.quoteB
          rw [hsp]
          rfl)
        obtain ⟨q4, q5, q6⟩ := oct_facts2 hq
        have hsp2 := hsp
        unfold Wh.specialB at hsp2
        simp only [Bool.or_eq_true, decide_eq_true_eq] at hsp2
        clear HP hsp hq
        rcases (by rcases hsp2 with (h | h) | h
                   · exact .inl h
                   · by_cases h3 : ch.toNat < 32
                     · exact .inl h3
                     · exact .inr (.inl ⟨h3, h⟩)
                   · by_cases h3 : ch.toNat < 32
                     · exact .inl h3
                     · cases h4 : (ch == 34)
                       · exact .inr (.inr ⟨h3, rfl, h⟩)
                       · exact .inr (.inl ⟨h3, rfl⟩) : ch.toNat < 32 ∨ (¬ ch.toNat < 32 ∧ (ch == 34) = true) ∨ (¬ ch.toNat < 32 ∧ (ch == 34) = false ∧ (ch == 92) = true)) with h3 | ⟨h3, h4⟩ | ⟨h3, h4, h5⟩
        case' inl => have h3' : (ch.toNat : Int) < 32 := by omega
        case' inr.inl =>
          have h3' : ¬ (ch.toNat : Int) < 32 := by omega
          rw [h4] at x1
        case' inr.inr =>
          have h3' : ¬ (ch.toNat : Int) < 32 := by omega
          rw [h4] at x1
          rw [h5] at x2
        all_goals
          go_wp2_with (at_builtin; refine wp_app4B HW.out 92 o1 o2 o3 (by omega) rfl (.tmp 25) (.tmp 36) rfl rfl rfl ?_)
          intro a2 cap2 w6 hO6
          have HO6 := Lib.hid hO6
          clear hO6
          go_wp2_with fail
          go_roundg g
          case measure => omega
          case rel => exact ⟨k + 1, out ++ [92, o1, o2, o3], a2, cap2, by omega, by go_num, by simp, by simp; omega, HO6, HP2⟩
    · obtain rfl : k = s.size := by omega
      have HP2 : Hid (out ++ [34] = Wh.quoteL s.data.toList) := Lib.hid (by
        rw [HO.out, List.take_of_length_le (by rw [Lib.size_eq]; exact Nat.le_refl _)]
        rfl)
      go_wp2_with (at_builtin; refine wp_app1B HW.out 34 (by omega) rfl (.tmp 43) (.tmp 44) rfl rfl rfl ?_)
      intro a2 cap2 w6 hO6
      have hl : (out ++ [34]).length = out.length + 1 := by simp
      have hcv := convB hO6
      rw [hl, HP2.out] at hcv
      have HO6 := Lib.hid hO6
      clear hO6 hl
      go_wp2_with fail
      go_ret
      exact ⟨rfl, HO6.out.below⟩
end Go.Proofs.YtfenmeacimfiaaaGreatDoor
