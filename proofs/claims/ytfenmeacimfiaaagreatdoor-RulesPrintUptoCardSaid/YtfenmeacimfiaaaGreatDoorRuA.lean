/-
 The texts Ru1, Ru2, Ru3, Ru4, in one.
-/
import Derived.Test.YtfenmeacimfiaaaGreatDoorRrB
import Derived.Shelf.Strings.SlTrimAscii
import Derived.Test.YtfenmeacimfiaaaGreatDoorGlbB
namespace Go.Proofs.YtfenmeacimfiaaaGreatDoor
open Go.RowKit Wh.G

open Classical in
/-- The error of a right reading's glob. -/
noncomputable def ckP (rt D : Bool) (l : List GP) : Int :=
 if h : ∃ (n : Nat) (xs : List (P n)), (∀ q ∈ xs, Clean n q) ∧ gpL n xs = l then ckG rt D (Classical.choose h) (Classical.choose (Classical.choose_spec h)) else 0
theorem ckP_eq {n : Nat} {xs : List (P n)} (h : ∀ q ∈ xs, Clean n q) (rt D : Bool) : ckP rt D (gpL n xs) = ckG rt D n xs := by
 have hx : ∃ (m : Nat) (ys : List (P m)), (∀ q ∈ ys, Clean m q) ∧ gpL m ys = gpL n xs := ⟨n, xs, h, rfl⟩
 unfold ckP
 rw [dif_pos hx]
 have hs := Classical.choose_spec (Classical.choose_spec hx)
 exact ckG_same (gpL_same hs.1 h hs.2) rt D
/-- What ParseGlob says of a text. -/
inductive PG where
 | err (e : Int)
 | ok (rt D : Bool) (l : List GP)
noncomputable def pgR (t : List UInt8) : PG :=
 if t.length = 0 then .err 21 else if 200 < t.length then .err 8 else
 match readG t with
 | .err _ => .err 9
 | .ok rt D l => if ckP rt D l = 0 then .ok rt D l else .err (ckP rt D l)
def PgForm (n z : Nat) (r : PG) (v : Value) (w' : World) : Prop := match r with
 | .err e => e ≠ 0 ∧ ∃ pl : Int, v = .tuple #[gl0, .int .i64 pl, .int .i64 e]
 | .ok rt D l => ∃ s : Sl (P n), MadeL n z w' s ∧ gpL n s.xs = l ∧ szL n s.xs ≤ 60000 ∧ v = .tuple #[.agg (glV rt D s.a s.xs.length s.c), .int .i64 0, .int .i64 0]
theorem pg_form {n z : Nat} {T : ByteArray} {v : Value} {w' : World} (h : PgPost n z T v w') : PgForm n z (pgR T.data.toList) v w' := by
 unfold PgPost at h
 unfold pgR
 rw [← Lib.size_eq]
 by_cases h0 : T.size = 0
 ·rw [if_pos h0] at h ⊢
  exact ⟨by decide, 0, h⟩
 rw [if_neg h0] at h ⊢
 by_cases h200 : 200 < T.size
 ·rw [if_pos h200] at h ⊢
  exact ⟨by decide, 0, h⟩
 rw [if_neg h200] at h ⊢
 cases hr : readG T.data.toList with
 | err k =>
  rw [hr] at h
  exact ⟨by decide, k, h⟩
 | ok rt D l =>
  rw [hr] at h
  obtain ⟨s, hm, hg, hv⟩ := h
  have hc := ckP_eq hm.cl rt D
  rw [hg] at hc
  show PgForm n z (if ckP rt D l = 0 then .ok rt D l else .err (ckP rt D l)) v w'
  rw [hc]
  by_cases hc0 : ckG rt D n s.xs = 0
  ·rw [if_pos hc0] at hv ⊢
   refine ⟨s, hm, hg, ?_, hv⟩
   rw [szL_gp _ _ hm.cl, hg]
   have := readG_sz hr
   rw [← Lib.size_eq] at this
   omega
  ·rw [if_neg hc0] at hv ⊢
   exact ⟨hc0, 0, hv⟩

/-- A rule, in plain words. -/
structure PRule where
 inc : Bool
 rooted : Bool
 dirs : Bool
 parts : List GP
/-- What a line says that is neither empty nor a remark. -/
noncomputable def ruleR : List UInt8 → Sum PRule Int
 | [] => .inr 9
 | [_] => .inr 9
 | c :: d :: r => if c ≠ 43 ∧ c ≠ 45 then .inr 9 else if d ≠ 32 ∧ d ≠ 9 then .inr 9 else
  match pgR (Lib.trimLeftS (d :: r) [32, 9]) with
  | .err e => .inr e
  | .ok rt D l => .inl ⟨c == 43, rt, D, l⟩
inductive LineR where
 | skip
 | reset
 | err (e : Int)
 | rule (r : PRule)
noncomputable def lineT : List UInt8 → LineR
 | [] => .skip
 | c :: r => if c = 35 ∨ c = 59 then .skip else if c :: r = [33] then .reset else
  match ruleR (c :: r) with
  | .inr e => .err e
  | .inl p => .rule p
noncomputable def lineR (l : List UInt8) : LineR := lineT (Lib.trimS l [32, 9])
inductive RR where
 | err (i : Nat) (e : Int)
 | ok (l : List PRule)
noncomputable def rulesGo : Nat → List PRule → List (List UInt8) → RR
 | _, acc, [] => if 200 < acc.length then .err 0 8 else .ok acc
 | i, acc, l :: ls => match lineR l with
  | .skip => rulesGo (i + 1) acc ls
  | .reset => rulesGo (i + 1) [] ls
  | .err e => .err i e
  | .rule r => rulesGo (i + 1) (acc ++ [r]) ls
noncomputable def rulesR (t : List UInt8) : RR := if 65536 < t.length then .err 0 8 else rulesGo 0 [] (Wh.splitC 10 t)
theorem lineR_nil : lineR [] = .skip := by
 unfold lineR
 have : Lib.trimS [] [32, 9] = [] := by simp [Lib.trimS, Lib.trimLeftS, Lib.trimRightS]
 rw [this]
 rfl
/-- An empty line at the end says nothing. -/
theorem rulesGo_last : ∀ (ls : List (List UInt8)) (i : Nat) (acc : List PRule), rulesGo i acc (ls ++ [[]]) = rulesGo i acc ls
 | [], i, acc => by
  show (match lineR [] with | .skip => rulesGo (i + 1) acc [] | .reset => rulesGo (i + 1) [] [] | .err e => .err i e | .rule r => rulesGo (i + 1) (acc ++ [r]) []) = _
  rw [lineR_nil]
  rfl
 | l :: ls, i, acc => by
  rw [List.cons_append]
  show (match lineR l with | .skip => rulesGo (i + 1) acc (ls ++ [[]]) | .reset => rulesGo (i + 1) [] (ls ++ [[]]) | .err e => .err i e | .rule r => rulesGo (i + 1) (acc ++ [r]) (ls ++ [[]])) = _
  rw [rulesGo_last ls, rulesGo_last ls]
  conv => rhs; unfold rulesGo
  cases lineR l with
  | skip => rfl
  | reset => rfl
  | err e => rfl
  | rule r => exact rulesGo_last ls _ _
theorem rulesGo_cons (i : Nat) (acc : List PRule) (l : List UInt8) (ls : List (List UInt8)) : rulesGo i acc (l :: ls) = match lineR l with
  | .skip => rulesGo (i + 1) acc ls
  | .reset => rulesGo (i + 1) [] ls
  | .err e => .err i e
  | .rule r => rulesGo (i + 1) (acc ++ [r]) ls := rfl

/-! The two functions of Go's library. -/
theorem trim_any (s : ByteArray) (w : World) (hs : s.size ≤ 9223372036854775807) :
  Calls Tryz.prog 60 #[.string s, .string ⟨#[32, 9]⟩] w fun e w' => e = .returned (.string ⟨(Lib.trimS s.data.toList [32, 9]).toArray⟩) ∧ Below w.heap.size w w' :=
 Any.strings_Trim_laid Tryz.lays160 (by kernel_rfl) s ⟨#[32, 9]⟩ w hs (by decide) (ascii_of_all (by decide))
theorem trimLeft_any (s : ByteArray) (w : World) :
  Calls Tryz.prog 62 #[.string s, .string ⟨#[32, 9]⟩] w fun e w' => e = .returned (.string ⟨(Lib.trimLeftS s.data.toList [32, 9]).toArray⟩) ∧ Below w.heap.size w w' :=
 Any.strings_TrimLeft_laid Tryz.lays161 (by kernel_rfl) s ⟨#[32, 9]⟩ w (by decide) (ascii_of_all (by decide))
theorem trimS_len (l cs : List UInt8) : (Lib.trimS l cs).length ≤ l.length := by
 have key : ∀ (m : List UInt8), (m.dropWhile (cs.contains ·)).length ≤ m.length := fun m => (List.dropWhile_sublist _).length_le
 have h1 := key l.reverse
 have h2 := key (l.reverse.dropWhile (cs.contains ·)).reverse
 rw [List.length_reverse] at h1 h2
 exact Nat.le_trans h2 h1
theorem trimLeftS_len (l cs : List UInt8) : (Lib.trimLeftS l cs).length ≤ l.length := by
 unfold Lib.trimLeftS
 exact (List.dropWhile_sublist _).length_le
end Go.Proofs.YtfenmeacimfiaaaGreatDoor
namespace Go.Proofs.YtfenmeacimfiaaaGreatDoor
open Go.RowKit Wh.G

abbrev ruTy : TypeId := 47
abbrev rlTy : TypeId := 41
theorem elemRu : ∃ i : TypeInfo, Tryz.prog.underlying rlTy = some (.slice ruTy) ∧ Tryz.prog.info? ruTy = some i ∧ i.zero = some (.agg #[.bool false, .bool false, .bool false, .slice none 0 0]) ∧ i.size = 4 ∧ i.bytes = 40 := by
 obtain ⟨i0, hi, hz0, hz1, hz2⟩ := info_parts (show (Tryz.prog.info? ruTy).map (fun i => (i.zero, i.size, i.bytes)) = some (some (.agg #[.bool false, .bool false, .bool false, .slice none 0 0]), 4, 40) by kernel_rfl)
 exact ⟨i0, Tryz.underlying41, hi, hz0, hz1, hz2⟩
/-- Rules under construction. -/
structure RuAt (n z : Nat) (W : World) (a : Option Addr) (cap : Nat) (rs : List (RuleOf n)) : Prop where
 own : OwnG ruTy 4 ruleCells z W a cap rs
 made : ∀ q ∈ rs, MadeL n z W q.parts
 off : ∀ q ∈ rs, ∀ k, FPL n q.parts k → (Value.slice a rs.length cap).ownBlock ≠ some k
theorem RuAt.nil (n z : Nat) (W : World) : RuAt n z W none 0 [] := ⟨OwnG.nil _ _ _ _ _, fun _ h => (by cases h), fun _ h => (by cases h)⟩
theorem RuAt.under {n z : Nat} {W W' : World} {a : Option Addr} {cap : Nat} {xs : List (RuleOf n)} (h : RuAt n z W a cap xs) (hs : Below W.heap.size W W') : RuAt n z W' a cap xs :=
 ⟨h.own.under hs, fun q hq => (h.made q hq).same hs.size (fun k hf => hs.block k ((h.made q hq).fp k hf).2), h.off⟩
theorem ruleCells_len {n : Nat} (r : RuleOf n) : (ruleCells r).length = 4 := rfl
theorem ruleOne {n : Nat} : ∀ (r : RuleOf n), ∀ v ∈ ruleCells r, v.oneCell' = true := by
 intro r v hv
 simp only [ruleCells, List.mem_cons, List.not_mem_nil, or_false] at hv
 rcases hv with rfl | rfl | rfl | rfl <;> rfl
theorem RuAt.snoc {n z : Nat} {W w' : World} {a : Option Addr} {cap cap' g : Nat} {xs : List (RuleOf n)} {p : RuleOf n} (h : RuAt n z W a cap xs) (hp : MadeL n z W p.parts) (hoff : ∀ k, FPL n p.parts k → (Value.slice a xs.length cap).ownBlock ≠ some k)
  (hO : OwnG ruTy 4 ruleCells z w' (some ⟨g, 0, none⟩) cap' (xs ++ [p])) (hg : W.grownBy w' (Value.slice a xs.length cap).ownBlock) (hat : (Value.slice a xs.length cap).ownBlock = some g ∨ g = W.heap.size) : RuAt n z w' (some ⟨g, 0, none⟩) cap' (xs ++ [p]) := by
 have key : ∀ q : RuleOf n, MadeL n z W q.parts → (∀ k, FPL n q.parts k → (Value.slice a xs.length cap).ownBlock ≠ some k) → MadeL n z w' q.parts ∧ ∀ k, FPL n q.parts k → g ≠ k := fun q hq ho => by
  refine ⟨hq.same hg.size (fun k hf => hg.block k (hq.fp k hf).2 (fun e => ho k hf e.symm)), fun k hf e => ?_⟩
  subst e
  rcases hat with hat | hat
  ·exact ho g hf hat
  ·have := (hq.fp g hf).2
   omega
 have all : ∀ q ∈ xs ++ [p], MadeL n z w' q.parts ∧ ∀ k, FPL n q.parts k → g ≠ k := fun q hq => by
  rcases List.mem_append.1 hq with hq | hq
  ·exact key q (h.made q hq) (h.off q hq)
  ·rw [List.mem_singleton.1 hq]
   exact key p hp hoff
 exact ⟨hO, fun q hq => (all q hq).1, fun q hq k hf e => (all q hq).2 k hf (by injection e)⟩
/-- A rule, in plain words. -/
def prOf {n : Nat} (r : RuleOf n) : PRule := ⟨r.inc, r.rooted, r.dirs, gpL n r.parts.xs⟩
/-- What ParseRules returns. -/
def RsPost (n z : Nat) (r : RR) (v : Value) (w' : World) : Prop := match r with
 | .err i e => e ≠ 0 ∧ v = .tuple #[.slice none 0 0, .int .i64 i, .int .i64 e]
 | .ok l => ∃ (a : Option Addr) (cap : Nat) (rs : List (RuleOf n)), v = .tuple #[.slice a rs.length cap, .int .i64 0, .int .i64 0] ∧ RuAt n z w' a cap rs ∧ rs.map prOf = l ∧ ∀ r ∈ rs, szL n r.parts.xs ≤ 60000
/-- What readRule returns. -/
def RdRule (n z : Nat) (r : Sum PRule Int) (v : Value) (w' : World) : Prop := match r with
 | .inr e => e ≠ 0 ∧ ∃ (b1 b2 b3 : Bool) (a : Option Addr) (N c : Nat), v = .tuple #[.agg #[.bool b1, .bool b2, .bool b3, .slice a N c], .int .i64 e]
 | .inl p => ∃ q : RuleOf n, v = .tuple #[.agg (ruleArr q), .int .i64 0] ∧ MadeL n z w' q.parts ∧ prOf q = p ∧ szL n q.parts.xs ≤ 60000
/-- A rule's box is filled. -/
theorem rule_put {W : World} {r : Nat} {v0 v1 v2 v3 : Value} (h : BoxIs W r #[v0, v1, v2, v3] ruTy) (u0 u1 u2 u3 : Value) :
  BoxIs ((((W.setCell ⟨r, 0, none⟩ u0).setCell ⟨r, 1, none⟩ u1).setCell ⟨r, 2, none⟩ u2).setCell ⟨r, 3, none⟩ u3) r #[u0, u1, u2, u3] ruTy ∧
  Side r W ((((W.setCell ⟨r, 0, none⟩ u0).setCell ⟨r, 1, none⟩ u1).setCell ⟨r, 2, none⟩ u2).setCell ⟨r, 3, none⟩ u3) :=
 ⟨(((h.put 0 u0).put 1 u1).put 2 u2).put 3 u3, ((((Side.refl r W).set 0 u0).set 1 u1).set 2 u2).set 3 u3⟩

/-- Whether a line is no rule by its first two bytes. -/
def badL : List UInt8 → Bool
 | [] => true
 | [_] => true
 | c :: d :: _ => !(c == 43 || c == 45) || !(d == 32 || d == 9)
theorem ruleR_bad {l : List UInt8} (h : badL l = true) : ruleR l = .inr 9 := by
 match l, h with
 | [], _ => rfl
 | [_], _ => rfl
 | c :: d :: r, h =>
  simp only [badL, Bool.or_eq_true, Bool.not_eq_true', Bool.or_eq_false_iff, beq_eq_false_iff_ne] at h
  show (if c ≠ 43 ∧ c ≠ 45 then _ else if d ≠ 32 ∧ d ≠ 9 then _ else _) = _
  by_cases h1 : c ≠ 43 ∧ c ≠ 45
  ·rw [if_pos h1]
  ·rw [if_neg h1, if_pos (h.resolve_left h1)]
theorem ruleR_good {c d : UInt8} {r : List UInt8} (h : badL (c :: d :: r) = false) : ruleR (c :: d :: r) = match pgR (Lib.trimLeftS (d :: r) [32, 9]) with
  | .err e => .inr e
  | .ok rt D l => .inl ⟨c == 43, rt, D, l⟩ := by
 simp only [badL, Bool.or_eq_false_iff, Bool.not_eq_false', Bool.or_eq_true, beq_iff_eq] at h
 show (if c ≠ 43 ∧ c ≠ 45 then _ else if d ≠ 32 ∧ d ≠ 9 then _ else _) = _
 rw [if_neg (fun h2 => h.1.elim (fun e => h2.1 e) (fun e => h2.2 e)), if_neg (fun h2 => h.2.elim (fun e => h2.1 e) (fun e => h2.2 e))]
 all_goals (cases pgR (Lib.trimLeftS (d :: r) [32, 9]) <;> rfl)
theorem data_two {s : ByteArray} (h : 1 < s.size) {c d : UInt8} (hc : s[0]'(by omega) = c) (hd : s[1] = d) : ∃ r, s.data.toList = c :: d :: r := by
 have h0 := Lib.data_getElem? s 0 (by omega)
 have h1 := Lib.data_getElem? s 1 h
 match hl : s.data.toList with
 | [] => rw [hl] at h0; cases h0
 | [_] => rw [hl] at h1; cases h1
 | a :: b :: r =>
  rw [hl] at h0 h1
  injection h0 with h0
  injection h1 with h1
  exact ⟨r, by rw [h0, h1, hc, hd]⟩
set_option maxHeartbeats 4000000 in
set_option maxRecDepth 100000 in
theorem readRule_any (dep : Nat) (s : ByteArray) (w : World) (h0 : 0 < s.size) (hs : s.size ≤ 65536) (hD : s.size < dep) (hE : Env w) :
  Calls Tryz.prog 61 #[.string s] w fun e w' => ∃ v, e = .returned v ∧ Below w.heap.size w w' ∧ RdRule dep w.heap.size (ruleR s.data.toList) v w' := by
 have HE := Lib.hid hE
 clear hE
 obtain ⟨R, hR⟩ : ∃ R, ruleR s.data.toList = R := ⟨_, rfl⟩
 rw [hR]
 obtain ⟨c, hc⟩ : ∃ c : UInt8, s[0]'h0 = c := ⟨_, rfl⟩
 have hc' : s[0] = c := hc
 have HB0 := Lib.hid (bAlloc (Below.refl w.heap.size w) (.cells #[.bool false, .bool false, .bool false, .slice none 0 0] ruTy))
 have HZ := Lib.hid (BoxIs.new w #[.bool false, .bool false, .bool false, .slice none 0 0] ruTy)
 have e43 := u8_eq c 43
 have e45 := u8_eq c 45
 change ((c.toNat : Int) == 43) = _ at e43
 change ((c.toNat : Int) == 45) = _ at e45
 have n43 : ((c.toNat : Int) != 43) = !(c == 43) := by rw [bne, e43]
 have n45 : ((c.toNat : Int) != 45) = !(c == 45) := by rw [bne, e45]
 have h0I : (0 : Int) < (s.size : Int) := by omega
 go_enter Tryz.func61, Tryz.ntmps61
 go_upto_region 1 with fail
 obtain ⟨ga, hga⟩ : ∃ ga, ga = w.heap.size := ⟨_, rfl⟩
 rw [← hga]
 rw [← hga] at HZ
 have hwg : w.heap.size ≤ ga := by omega
 have hgw : ga ≤ w.heap.size := by omega
 clear hga
 have HB1 := HB0
 generalize w.alloc _ = w1 at *
 obtain ⟨bad, hbad⟩ : ∃ bad, badL s.data.toList = bad := ⟨_, rfl⟩
 have HBad := Lib.hid hbad
 have HRv := Lib.hid hR
 clear hbad hR
 go_cut [25] (fun s25 wx => s25 = .bool bad ∧ Hid (Below w.heap.size w wx) ∧ Hid (BoxIs wx ga #[.bool false, .bool false, .bool false, .slice none 0 0] ruTy))
 case first =>
  by_cases h1 : s.size = 1
  ·have h1I : ((s.size : Int) == 1) = true := by simp [h1]
   have HN : Hid (bad = true) := Lib.hid (by
    rw [← HBad.out]
    match hl : s.data.toList with
    | [] => rfl
    | [_] => rfl
    | a :: b :: r =>
     exfalso
     rw [Lib.size_eq, hl] at h1
     simp at h1)
   clear h1
   cases h43 : (c == 43)
   ·cases h45 : (c == 45)
    ·rw [h43] at e43 n43
     rw [h45] at e45 n45
     clear h43 h45
     go_wp2_with fail
     go_meet
     exact ⟨by rw [HN.out], HB1, HZ⟩
    ·rw [h43] at e43 n43
     rw [h45] at e45 n45
     clear h43 h45
     go_wp2_with fail
     go_meet
     exact ⟨by rw [HN.out], HB1, HZ⟩
   ·rw [h43] at e43 n43
    clear h43
    go_wp2_with fail
    go_meet
    exact ⟨by rw [HN.out], HB1, HZ⟩
  ·have h1I : ((s.size : Int) == 1) = false := by
    have : ¬ (s.size : Int) = 1 := by omega
    simpa using this
   obtain ⟨d, hd⟩ : ∃ d : UInt8, s[1]'(by omega) = d := ⟨_, rfl⟩
   obtain ⟨r, hl⟩ := data_two (by omega) hc hd
   have hd' : s[1] = d := hd
   have hs1 : (1 : Int) < (s.size : Int) := by omega
   have hbd : bad = (!(c == 43 || c == 45) || !(d == 32 || d == 9)) := by rw [← HBad.out, hl]; rfl
   have hcon : (⟨#[32, 9]⟩ : ByteArray).data.toList.contains d = (d == 32 || d == 9) := by
    show [32, 9].contains d = _
    rw [Bool.eq_iff_iff]
    simp
   have HHb := Lib.hid (fun W => hasByte_any ⟨#[32, 9]⟩ d W)
   rw [hcon] at HHb
   generalize (d == 32 || d == 9) = db at *
   clear hl hcon
   cases h43 : (c == 43)
   ·cases h45 : (c == 45)
    ·rw [h43] at e43 n43
     rw [h45] at e45 n45
     have HN : Hid (bad = true) := Lib.hid (by rw [hbd, h43, h45]; rfl)
     clear h43 h45 hbd
     go_wp2_with fail
     go_meet
     exact ⟨by rw [HN.out], HB1, HZ⟩
    ·rw [h43] at e43 n43
     rw [h45] at e45 n45
     have HN : Hid (bad = !db) := Lib.hid (by rw [hbd, h43, h45]; rfl)
     clear h43 h45 hbd
     go_wp2_with (go_at_call 131; refine (HHb.out _).mono ?_; rintro e w' ⟨rfl, rfl⟩)
     go_meet
     exact ⟨by rw [HN.out], HB1, HZ⟩
   ·rw [h43] at e43 n43
    have HN : Hid (bad = !db) := Lib.hid (by rw [hbd, h43]; rfl)
    clear h43 hbd
    go_wp2_with (go_at_call 131; refine (HHb.out _).mono ?_; rintro e w' ⟨rfl, rfl⟩)
    go_meet
    exact ⟨by rw [HN.out], HB1, HZ⟩
 case rest =>
  obtain ⟨rfl, HB2, HZ2⟩ := hcut
  clear HB0 HB1 HZ
  cases bad
  rotate_left 1
  ·have HRb : Hid (R = .inr 9) := Lib.hid (by rw [← HRv.out]; exact ruleR_bad HBad.out)
   have g0 := HZ2.out.cell (j := 0) rfl
   have g1 := HZ2.out.cell (j := 1) rfl
   have g2 := HZ2.out.cell (j := 2) rfl
   have g3 := HZ2.out.cell (j := 3) rfl
   have f0 := Lib.frozen_of_heap HZ2.out 0
   have f1 := Lib.frozen_of_heap HZ2.out 1
   have f2 := Lib.frozen_of_heap HZ2.out 2
   have f3 := Lib.frozen_of_heap HZ2.out 3
   have HFn := Lib.hid (rule_put HZ2.out (.bool false) (.bool false) (.bool false) (.slice none 0 0))
   go_wp2_with fail
   clear g0 g1 g2 g3 f0 f1 f2 f3
   generalize (((World.setCell _ _ _).setCell _ _).setCell _ _).setCell _ _ = wf at *
   have d0 := HFn.out.1.cell (j := 0) rfl
   have d1 := HFn.out.1.cell (j := 1) rfl
   have d2 := HFn.out.1.cell (j := 2) rfl
   have d3 := HFn.out.1.cell (j := 3) rfl
   refine bodyPost_ret (v := .tuple #[.agg #[.bool false, .bool false, .bool false, .slice none 0 0], .int .i64 9]) ?_ rfl ?_
   ·simp [results, Tryz.f61]
    go_simp
   ·refine ⟨_, rfl, HB2.out.trans (HFn.out.2.below hwg HB2.out.size), ?_⟩
    rw [HRb.out]
    exact ⟨by decide, false, false, false, none, 0, 0, rfl⟩
  ·have h2 : 1 < s.size := by
    refine Nat.lt_of_not_le fun h => ?_
    have h1 := HBad.out
    match hl : s.data.toList with
    | [] => rw [hl] at h1; cases h1
    | [_] => rw [hl] at h1; cases h1
    | a :: b :: r =>
     rw [Lib.size_eq, hl] at h
     simp at h
   obtain ⟨d, hd⟩ : ∃ d : UInt8, s[1] = d := ⟨_, rfl⟩
   obtain ⟨r, hl⟩ := data_two h2 hc hd
   have hbl := HBad.out
   rw [hl] at hbl
   have hRg := HRv.out
   rw [hl, ruleR_good hbl] at hRg
   have hex : (s.extract 1 s.size).data.toList = d :: r := by
    rw [ext_left]
    unfold left
    rw [Lib.size_eq, List.take_length, hl]
    rfl
   obtain ⟨T2, hT2⟩ : ∃ T2 : ByteArray, T2 = ⟨(Lib.trimLeftS (d :: r) [32, 9]).toArray⟩ := ⟨_, rfl⟩
   have hTz : T2.size ≤ s.size := by
    rw [hT2, Lib.size_eq]
    have h3 := trimLeftS_len (d :: r) [32, 9]
    have h4 := congrArg List.length hl
    rw [← Lib.size_eq] at h4
    simp only [List.length_cons] at h3 h4
    show (Lib.trimLeftS (d :: r) [32, 9]).length ≤ s.size
    omega
   have HTl := Lib.hid (fun W => trimLeft_any (s.extract 1 s.size) W)
   rw [hex, ← hT2] at HTl
   have HPg := Lib.hid (fun W (hb : Below w.heap.size w W) => parseGlob_any dep T2 W (by unfold maxLen; omega) (by omega) (HE.out.under hb))
   have HT2d : Hid (pgR T2.data.toList = pgR (Lib.trimLeftS (d :: r) [32, 9])) := Lib.hid (by rw [hT2])
   have HRg := Lib.hid hRg
   have h2I : (1 : Int) ≤ (s.size : Int) := by omega
   clear hT2 hex hbl hRg hl hd HBad HRv
   have HTl2 := Lib.hid (HTl.out wc)
   go_upto_region 4 with (first | (go_at_call 62; refine HTl2.out.mono ?_; rintro e w3 ⟨rfl, hb3⟩; have HB3 := Lib.hid (HB2.out.trans (hb3.mono HB2.out.size)); have HZ3 := Lib.hid (HZ2.out.under hb3); clear hb3; have HPg3 := Lib.hid (HPg.out w3 HB3.out); have hgz := HZ3.out.lt) | (go_at_call 12; refine HPg3.out.mono ?_; rintro e w4 ⟨v4, rfl, hb4, hp4⟩; have HF4 := Lib.hid (pg_form hp4); obtain ⟨rt, D, pl, er, a, N, c4, rfl⟩ := pg_one hp4; have HB4 := Lib.hid (HB3.out.trans (hb4.mono HB3.out.size)); have HZ4 := Lib.hid (HZ3.out.under hb4); have hz34 := hb4.size; clear hb4 hp4))
   have HBx := Lib.hid (bAlloc (Below.refl w4.heap.size w4) (.cells #[.bool rt, .bool D, .slice a N c4] glTy))
   have HX5 := Lib.hid (BoxIs.new w4 #[.bool rt, .bool D, .slice a N c4] glTy)
   have HZ5 := Lib.hid (HZ4.out.under HBx.out)
   have HB5 := Lib.hid (HB4.out.trans (HBx.out.mono HB4.out.size))
   obtain ⟨xb, hxb⟩ : ∃ xb, xb = w4.heap.size := ⟨_, rfl⟩
   have hgx : ga ≠ xb := by have := HZ4.out.lt; omega
   rw [← hxb] at HX5 ⊢
   clear hxb
   have hw3z : w.heap.size ≤ w3.heap.size := HB3.out.size
   generalize w4.alloc _ = w5 at *
   have k0 := HX5.out.cell (j := 0) rfl
   have k1 := HX5.out.cell (j := 1) rfl
   have k2 := HX5.out.cell (j := 2) rfl
   have g0 := HZ5.out.cell (j := 0) rfl
   have g1 := HZ5.out.cell (j := 1) rfl
   have g2 := HZ5.out.cell (j := 2) rfl
   have g3 := HZ5.out.cell (j := 3) rfl
   have f0 := Lib.frozen_of_heap HZ5.out 0
   have f1 := Lib.frozen_of_heap HZ5.out 1
   have f2 := Lib.frozen_of_heap HZ5.out 2
   have f3 := Lib.frozen_of_heap HZ5.out 3
   obtain ⟨cb, hcb⟩ : ∃ cb, (c == 43) = cb := ⟨_, rfl⟩
   rw [hcb] at e43 HRg
   have HCb := Lib.hid hcb
   clear hcb n43 e45 n45 HTl HPg HTl2 HPg3
   have HFn := Lib.hid (rule_put HZ5.out (.bool cb) (.bool rt) (.bool D) (.slice a N c4))
   go_region
   clear g0 g1 g2 g3 f0 f1 f2 f3 k0 k1 k2
   have HFn2 : Hid (BoxIs (((((w5.setCell ⟨ga, 0, none⟩ (.bool cb)).setCell ⟨ga, 1, none⟩ (.bool rt)).setCell ⟨ga, 2, none⟩ (.bool D)).setCell ⟨ga, 3, none⟩ (.slice a N c4)).drewN 1) ga #[.bool cb, .bool rt, .bool D, .slice a N c4] ruTy ∧ Side ga w5 (((((w5.setCell ⟨ga, 0, none⟩ (.bool cb)).setCell ⟨ga, 1, none⟩ (.bool rt)).setCell ⟨ga, 2, none⟩ (.bool D)).setCell ⟨ga, 3, none⟩ (.slice a N c4)).drewN 1)) := Lib.hid ⟨HFn.out.1, HFn.out.2.drew 1⟩
   have hf4 := HF4.out
   clear HFn HX5
   have HFn3 : Hid (BoxIs ((((w5.setCell ⟨ga, 0, none⟩ (.bool cb)).setCell ⟨ga, 1, none⟩ (.bool rt)).setCell ⟨ga, 2, none⟩ (.bool D)).setCell ⟨ga, 3, none⟩ (.slice a N c4)).drew ga #[.bool cb, .bool rt, .bool D, .slice a N c4] ruTy ∧ Side ga w5 ((((w5.setCell ⟨ga, 0, none⟩ (.bool cb)).setCell ⟨ga, 1, none⟩ (.bool rt)).setCell ⟨ga, 2, none⟩ (.bool D)).setCell ⟨ga, 3, none⟩ (.slice a N c4)).drew) := Lib.hid HFn2.out
   clear HFn2
   generalize ((((w5.setCell _ _).setCell _ _).setCell _ _).setCell _ _).drew = wf at *
   have d0 := HFn3.out.1.cell (j := 0) rfl
   have d1 := HFn3.out.1.cell (j := 1) rfl
   have d2 := HFn3.out.1.cell (j := 2) rfl
   have d3 := HFn3.out.1.cell (j := 3) rfl
   go_wp2_with fail
   refine bodyPost_ret (v := .tuple #[.agg #[.bool cb, .bool rt, .bool D, .slice a N c4], .int .i64 er]) ?_ rfl ?_
   ·simp [results, Tryz.f61]
    go_simp
   ·refine ⟨_, rfl, HB5.out.trans (HFn3.out.2.below hwg HB5.out.size), ?_⟩
    have hrg := HRg.out
    rw [← HT2d.out] at hrg
    cases hpg : pgR T2.data.toList with
    | err e =>
     rw [hpg] at hf4 hrg
     obtain ⟨he, pl2, hv⟩ := hf4
     simp only [Value.tuple.injEq, Array.mk.injEq, List.cons.injEq, Value.agg.injEq, Value.bool.injEq, Value.slice.injEq, Value.int.injEq, true_and, and_true] at hv
     rw [← hrg]
     exact ⟨he, cb, rt, D, a, N, c4, by rw [hv.2.2]⟩
    | ok rt2 D2 l =>
     rw [hpg] at hf4 hrg
     obtain ⟨s2, hm, hgl, hsz, hv⟩ := hf4
     obtain ⟨sa, sc, xs⟩ := s2
     simp only [Value.tuple.injEq, Array.mk.injEq, List.cons.injEq, Value.agg.injEq, Value.bool.injEq, Value.slice.injEq, Value.int.injEq, true_and, and_true] at hv
     obtain ⟨⟨q1, q2, q3, q4, q5⟩, q6, q7⟩ := hv
     subst q1 q2 q3 q5 q7
     rw [← hrg]
     refine ⟨⟨cb, rt, D, ⟨a, c4, xs⟩⟩, by rw [q4], ?_, ?_, hsz⟩
     ·have hm5 := hm.same HBx.out.size (fun q hq => HBx.out.block q (hm.fp q hq).2)
      have hm6 := hm5.same HFn3.out.2.size (fun q hq => HFn3.out.2.block q (hm5.fp q hq).2 (by have := (hm5.fp q hq).1; omega))
      exact hm6.mono hw3z
     ·show PRule.mk cb rt D (gpL dep xs) = _
      rw [hgl]
end Go.Proofs.YtfenmeacimfiaaaGreatDoor
namespace Go.Proofs.YtfenmeacimfiaaaGreatDoor
open Go.RowKit Wh.G

/-- Lines of a text in memory. -/
def LinesAt (T : ByteArray) (w : World) (e : Ending) (w' : World) : Prop :=
 ∃ (b c : Nat) (vs : Array Value) (ys : List ByteArray), e = .returned (.slice (some ⟨b, 0, none⟩) ys.length c) ∧ BoxIs w' b vs 9 ∧ (∀ (j : Nat) (x : ByteArray), ys[j]? = some x → vs[j]? = some (.string x)) ∧ Below w.heap.size w w' ∧ (ys = Wh.pieces 10 T ∨ Wh.pieces 10 T = ys ++ [⟨#[]⟩])
set_option maxHeartbeats 1000000 in
set_option maxRecDepth 100000 in
theorem lines_any (T : ByteArray) (w : World) (hs : T.size ≤ 100000) (hE : Env w) :
  Calls Tryz.prog 59 #[.string T] w (LinesAt T w) := by
 have HSp := Lib.hid (split_one 10 T w hE (by omega))
 have HRow := Lib.hid (BoxIs.new w ((Wh.pieces 10 T).map Value.string).toArray 9)
 have HRw := Lib.hid (bAlloc (Below.refl w.heap.size w) (.cells ((Wh.pieces 10 T).map Value.string).toArray 9))
 have hle := Wh.pieces_le 10 T
 have hpos := Wh.pieces_pos 10 T
 unfold LinesAt
 generalize Wh.pieces 10 T = xs at *
 clear hE
 rcases List.eq_nil_or_concat xs with rfl | ⟨ys, x, hxs⟩
 ·simp at hpos
 rw [List.concat_eq_append] at hxs
 subst hxs
 have hcell : Hid ((((ys ++ [x]).map Value.string).toArray)[ys.length]? = some (.string x)) := Lib.hid (by simp)
 obtain ⟨N, hN⟩ : ∃ N, (ys ++ [x]).length = N := ⟨_, rfl⟩
 have hN2 : N = ys.length + 1 := by rw [← hN]; simp
 rw [hN] at HSp hle hpos
 have HN := Lib.hid hN
 clear hN
 have hn1 : (N : Int) - 1 = (ys.length : Int) := by omega
 have hn2 : (0 : Int) ≤ (ys.length : Int) := by omega
 have hn3 : (ys.length : Int) < (N : Int) := by omega
 have hn4 : (ys.length : Int) ≤ (N : Int) := by omega
 go_enter Tryz.func59, Tryz.ntmps59
 go_upto_region 2 with (go_at_call 22; refine HSp.out.mono ?_; rintro e w3 ⟨rfl, hw3⟩; rw [← hw3] at HRow HRw; clear hw3)
 have HAll : Hid (∀ (j : Nat) (y : ByteArray), (ys ++ [x])[j]? = some y → (((ys ++ [x]).map Value.string).toArray)[j]? = some (.string y)) := Lib.hid (fun j y h => by
  rw [List.getElem?_toArray, List.getElem?_map, h]
  rfl)
 have cl := HRow.out.cell hcell.out
 generalize ((ys ++ [x]).map Value.string).toArray = vs at *
 clear HSp
 by_cases h0 : x.size = 0
 ·have he : x.toList.isEmpty = true := by
   rw [Lib.toList_data, List.eq_nil_of_length_eq_zero ((Lib.size_eq x).symm.trans h0)]
   rfl
  have hx : x = ⟨#[]⟩ := by
   cases x with
   | mk d =>
    congr 1
    exact Array.eq_empty_of_size_eq_zero h0
  have HX := Lib.hid hx
  clear h0 hx
  go_wp2_with fail
  go_ret
  exact ⟨w.heap.size, _, vs, ys, rfl, HRow.out, fun j y h => HAll.out j y (by rw [List.getElem?_append_left (List.getElem?_eq_some_iff.1 h).1]; exact h), HRw.out, .inr (by rw [HX.out])⟩
 ·have he : x.toList.isEmpty = false := by
   rw [Lib.toList_data]
   cases h : x.data.toList with
   | nil => exact absurd (by rw [Lib.size_eq, h]; rfl) h0
   | cons c r => rfl
  clear h0
  go_wp2_with fail
  go_ret
  exact ⟨w.heap.size, ys.length + 1, vs, ys ++ [x], by rw [show (ys ++ [x]).length = ys.length + 1 by simp]; rfl, HRow.out, HAll.out, HRw.out, .inl rfl⟩

theorem RuAt.mono {n z z' : Nat} {W : World} {a : Option Addr} {cap : Nat} {xs : List (RuleOf n)} (h : RuAt n z W a cap xs) (hz : z' ≤ z) : RuAt n z' W a cap xs :=
 ⟨h.own.mono hz, fun q hq => (h.made q hq).mono hz, h.off⟩
/-- The lines say what the text says. -/
theorem rules_lines {T : ByteArray} {ys : List ByteArray} (h : ys = Wh.pieces 10 T ∨ Wh.pieces 10 T = ys ++ [⟨#[]⟩]) : rulesGo 0 [] (ys.map (·.data.toList)) = rulesGo 0 [] (Wh.splitC 10 T.data.toList) := by
 rw [← Wh.pieces_data]
 rcases h with rfl | h
 ·rfl
 ·rw [h, List.map_append]
  exact (rulesGo_last _ _ _).symm
theorem lines_len {T : ByteArray} {ys : List ByteArray} (h : ys = Wh.pieces 10 T ∨ Wh.pieces 10 T = ys ++ [⟨#[]⟩]) : ys.length ≤ T.size + 1 := by
 have := Wh.pieces_le 10 T
 rcases h with rfl | h
 ·exact this
 ·rw [h, List.length_append] at this
  omega
theorem lines_mem {T : ByteArray} {ys : List ByteArray} (h : ys = Wh.pieces 10 T ∨ Wh.pieces 10 T = ys ++ [⟨#[]⟩]) {x : ByteArray} (hx : x ∈ ys) : x.size ≤ T.size := by
 rcases h with rfl | h
 ·exact Wh.pieces_size hx
 ·exact Wh.pieces_size (c := 10) (by rw [h]; exact List.mem_append_left _ hx)
/-- The list of rules as read up to now. -/
structure RuS (dep z : Nat) (w3 W : World) (a : Option Addr) (cap : Nat) (rs : List (RuleOf dep)) (i : Nat) (R : RR) (ls : List (List UInt8)) : Prop where
 below : Below w3.heap.size w3 W
 ru : RuAt dep z W a cap rs
 len : rs.length ≤ i
 sz : ∀ r ∈ rs, szL dep r.parts.xs ≤ 60000
 go : rulesGo i (rs.map prOf) (ls.drop i) = R
theorem RuS.under {dep z : Nat} {w3 W W' : World} {a : Option Addr} {cap : Nat} {rs : List (RuleOf dep)} {i : Nat} {R : RR} {ls : List (List UInt8)} (h : RuS dep z w3 W a cap rs i R ls) (hb : Below W.heap.size W W') : RuS dep z w3 W' a cap rs i R ls :=
 ⟨bTrans h.below hb, h.ru.under hb, h.len, h.sz, h.go⟩
theorem RuS.line {dep z : Nat} {w3 W : World} {a : Option Addr} {cap : Nat} {rs : List (RuleOf dep)} {i : Nat} {R : RR} {ls : List (List UInt8)} (h : RuS dep z w3 W a cap rs i R ls) {l : List UInt8} (hl : ls[i]? = some l) : (match lineR l with
  | .skip => rulesGo (i + 1) (rs.map prOf) (ls.drop (i + 1))
  | .reset => rulesGo (i + 1) [] (ls.drop (i + 1))
  | .err e => .err i e
  | .rule r => rulesGo (i + 1) (rs.map prOf ++ [r]) (ls.drop (i + 1))) = R := by
 have h1 := h.go
 obtain ⟨hi, hv⟩ := List.getElem?_eq_some_iff.1 hl
 rw [List.drop_eq_getElem_cons hi, hv, rulesGo_cons] at h1
 exact h1
theorem RuS.skip {dep z : Nat} {w3 W : World} {a : Option Addr} {cap : Nat} {rs : List (RuleOf dep)} {i : Nat} {R : RR} {ls : List (List UInt8)} (h : RuS dep z w3 W a cap rs i R ls) {l : List UInt8} (hl : ls[i]? = some l) (hs : lineR l = .skip) : RuS dep z w3 W a cap rs (i + 1) R ls := by
 have h1 := h.line hl
 rw [hs] at h1
 exact ⟨h.below, h.ru, by have := h.len; omega, h.sz, h1⟩
theorem RuS.reset {dep z : Nat} {w3 W : World} {a : Option Addr} {cap : Nat} {rs : List (RuleOf dep)} {i : Nat} {R : RR} {ls : List (List UInt8)} (h : RuS dep z w3 W a cap rs i R ls) {l : List UInt8} (hl : ls[i]? = some l) (hs : lineR l = .reset) : RuS dep z w3 W none 0 [] (i + 1) R ls := by
 have h1 := h.line hl
 rw [hs] at h1
 exact ⟨h.below, RuAt.nil _ _ _, Nat.zero_le _, fun r hr => (by cases hr), h1⟩
theorem RuS.err {dep z : Nat} {w3 W : World} {a : Option Addr} {cap : Nat} {rs : List (RuleOf dep)} {i : Nat} {R : RR} {ls : List (List UInt8)} (h : RuS dep z w3 W a cap rs i R ls) {l : List UInt8} (hl : ls[i]? = some l) {e : Int} (hs : lineR l = .err e) : R = .err i e := by
 have h1 := h.line hl
 rw [hs] at h1
 exact h1.symm
/-- A rule more. -/
theorem RuS.snoc {dep z : Nat} {w3 W w' : World} {a : Option Addr} {cap cap' g : Nat} {rs : List (RuleOf dep)} {i : Nat} {R : RR} {ls : List (List UInt8)} (h : RuS dep z w3 W a cap rs i R ls) (hz : z = w3.heap.size) {l : List UInt8} (hl : ls[i]? = some l) {q : RuleOf dep} (hs : lineR l = .rule (prOf q)) (hq : MadeL dep z W q.parts) (hqs : szL dep q.parts.xs ≤ 60000)
  (hoff : ∀ k, FPL dep q.parts k → (Value.slice a rs.length cap).ownBlock ≠ some k) (hO : OwnG ruTy 4 ruleCells z w' (some ⟨g, 0, none⟩) cap' (rs ++ [q])) (hg : W.grownBy w' (Value.slice a rs.length cap).ownBlock) (hat : (Value.slice a rs.length cap).ownBlock = some g ∨ g = W.heap.size) : RuS dep z w3 w' (some ⟨g, 0, none⟩) cap' (rs ++ [q]) (i + 1) R ls := by
 have h1 := h.line hl
 rw [hs] at h1
 refine ⟨?_, h.ru.snoc hq hoff hO hg hat, by rw [List.length_append]; have := h.len; simp; omega, fun r hr => ?_, ?_⟩
 ·refine h.below.trans (?_)
  refine ((Below.refl w3.heap.size W).grown hg h.below.size (fun k hk => ?_))
  rw [← hz]
  exact (h.ru.own.base k hk).1
 ·rcases List.mem_append.1 hr with hr | hr
  ·exact h.sz r hr
  ·rw [List.mem_singleton.1 hr]
   exact hqs
 ·rw [List.map_append, List.map_cons, List.map_nil]
  exact h1
theorem lineT_cons {c : UInt8} {r : List UInt8} (h1 : ¬ (c = 35 ∨ c = 59)) (h2 : c :: r ≠ [33]) : lineT (c :: r) = match ruleR (c :: r) with | .inr e => .err e | .inl p => .rule p := by
 show (if c = 35 ∨ c = 59 then LineR.skip else if c :: r = [33] then .reset else _) = _
 rw [if_neg h1, if_neg h2]
 all_goals (cases ruleR (c :: r) <;> rfl)

set_option maxHeartbeats 4000000 in
set_option maxRecDepth 100000 in
theorem parseRules_any (dep : Nat) (T : ByteArray) (w : World) (hs : T.size ≤ maxLen) (hD : T.size < dep) (hE : Env w) :
  Calls Tryz.prog 18 #[.string T] w fun e w' => ∃ v, e = .returned v ∧ Below w.heap.size w w' ∧ RsPost dep w.heap.size (rulesR T.data.toList) v w' := by
 unfold maxLen at hs
 have HE := Lib.hid hE
 by_cases hbig : 65536 < T.size
 ·have hR : rulesR T.data.toList = .err 0 8 := by
   unfold rulesR
   rw [← Lib.size_eq, if_pos hbig]
  rw [hR]
  have hI : (65536 : Int) < (T.size : Int) := by omega
  clear hbig hR hE
  go_enter Tryz.func18, Tryz.ntmps18
  go_wp2_with fail
  go_ret3
  exact ⟨_, rfl, Below.refl _ _, by decide, rfl⟩
 have hI : ¬ (65536 : Int) < (T.size : Int) := by omega
 obtain ⟨R, hR⟩ : ∃ R, rulesR T.data.toList = R := ⟨_, rfl⟩
 rw [hR]
 have HRv : Hid (rulesGo 0 [] (Wh.splitC 10 T.data.toList) = R) := Lib.hid (by
  rw [← hR]
  unfold rulesR
  rw [← Lib.size_eq, if_neg hbig])
 have HLn := Lib.hid (lines_any T w (by omega) hE)
 clear hE hR
 go_enter Tryz.func18, Tryz.ntmps18
 go_wp2_with (go_at_call 59; refine HLn.out.mono ?_; rintro e w3 ⟨b, cp, vs, ys, rfl, hrow, hall, hb3, hys⟩; have HRow := Lib.hid hrow; have HAll := Lib.hid hall; have HB3 := Lib.hid hb3; have HGo := Lib.hid ((rules_lines hys).trans HRv.out); have HMem := Lib.hid (fun x (hx : x ∈ ys) => lines_mem hys hx); have hyl := lines_len hys; clear hrow hall hb3 hys)
 clear HLn HRv
 obtain ⟨N, hN⟩ : ∃ N, ys.length = N := ⟨_, rfl⟩
 rw [hN] at hyl
 have HN := Lib.hid hN
 obtain ⟨ls, hls⟩ : ∃ ls, ys.map (·.data.toList) = ls := ⟨_, rfl⟩
 rw [hls] at HGo
 have HLs : Hid (∀ (i : Nat) (x : ByteArray), ys[i]? = some x → ls[i]? = some x.data.toList) := Lib.hid (fun i x h => by rw [← hls, List.getElem?_map, h]; rfl)
 have HLl : Hid (ls.length = N) := Lib.hid (by rw [← hls, List.length_map]; exact hN)
 rw [hN]
 clear hN hls
 have HS0 : Hid (RuS dep w3.heap.size w3 w3 none 0 [] 0 R ls) := Lib.hid ⟨Below.refl _ _, RuAt.nil _ _ _, Nat.le_refl _, fun r hr => (by cases hr), HGo.out⟩
 clear HGo
 go_loopg [5, 16] N (fun g s5 s16 wx => ∃ (i : Nat) (a : Option Addr) (cap : Nat) (rs : List (RuleOf dep)), i + g = N ∧ s5 = .slice a rs.length cap ∧ s16 = .int .i64 i ∧ Hid (RuS dep w3.heap.size w3 wx a cap rs i R ls))
 case atStart => exact ⟨0, none, 0, [], by omega, rfl, rfl, HS0⟩
 case round =>
  clear HS0
  obtain ⟨i, a, cap, rs, hg, rfl, rfl, HS⟩ := hrel
  by_cases hlt : i < N
  ·obtain ⟨g2, rfl⟩ : ∃ g2, gk = g2 + 1 := ⟨gk - 1, by omega⟩
   obtain ⟨x, hx⟩ : ∃ x, ys[i]? = some x := ⟨_, List.getElem?_eq_getElem (by rw [HN.out]; exact hlt)⟩
   have hxs := HMem.out x (List.mem_of_getElem? hx)
   have HLi := Lib.hid (HLs.out i x hx)
   have ci := (HRow.out.under HS.out.below).cell (HAll.out i x hx)
   have hi1 : (i : Int) < (N : Int) := by omega
   have hi0 : (0 : Int) ≤ (i : Int) := by omega
   obtain ⟨t, ht⟩ : ∃ t : ByteArray, t = ⟨(Lib.trimS x.data.toList [32, 9]).toArray⟩ := ⟨_, rfl⟩
   have htl : lineR x.data.toList = lineT t.data.toList := by rw [ht]; rfl
   have htz : t.size ≤ T.size := by
    have := trimS_len x.data.toList [32, 9]
    rw [← Lib.size_eq] at this
    rw [ht, Lib.size_eq]
    show (Lib.trimS x.data.toList [32, 9]).length ≤ T.size
    omega
   have HTr := Lib.hid (trim_any x wr (by omega))
   rw [← ht] at HTr
   have HTl := Lib.hid htl
   clear hx ht htl
   go_upto_region 12 with (go_at_call 60; refine HTr.out.mono ?_; rintro e w5 ⟨rfl, hb5⟩; have HS5 := Lib.hid (HS.out.under hb5); clear hb5)
   clear ci HTr HS
   by_cases h0 : t.size = 0
   ·have he : t.toList.isEmpty = true := by
     rw [Lib.toList_data, List.eq_nil_of_length_eq_zero ((Lib.size_eq t).symm.trans h0)]
     rfl
    have HS6 := Lib.hid (HS5.out.skip HLi.out (by rw [HTl.out, List.eq_nil_of_length_eq_zero ((Lib.size_eq t).symm.trans h0)]; rfl))
    clear h0
    go_wp2_with fail
    go_roundg g2
    case measure => omega
    case rel => exact ⟨i + 1, a, cap, rs, by omega, rfl, by go_num, HS6⟩
   ·obtain ⟨c, hc⟩ : ∃ c : UInt8, t[0]'(by omega) = c := ⟨_, rfl⟩
    have hc' : t[0] = c := hc
    obtain ⟨r, hl⟩ : ∃ r, t.data.toList = c :: r := by
     have h1 := Lib.data_getElem? t 0 (by omega)
     cases h2 : t.data.toList with
     | nil => rw [h2] at h1; cases h1
     | cons u r =>
      rw [h2] at h1
      injection h1 with h1
      exact ⟨r, by rw [h1, hc]⟩
    have he : t.toList.isEmpty = false := by rw [Lib.toList_data, hl]; rfl
    have ht0 : (0 : Int) < (t.size : Int) := by omega
    have e35 := u8_eq c 35
    have e59 := u8_eq c 59
    change ((c.toNat : Int) == 35) = _ at e35
    change ((c.toNat : Int) == 59) = _ at e59
    have HL := Lib.hid hl
    by_cases hrem : c = 35 ∨ c = 59
    ·have HS6 := Lib.hid (HS5.out.skip HLi.out (by
      rw [HTl.out, hl]
      show (if c = 35 ∨ c = 59 then LineR.skip else _) = _
      rw [if_pos hrem]))
     have key : (c == 35) = true ∨ ((c == 35) = false ∧ (c == 59) = true) := by
      rcases hrem with h | h
      ·exact .inl (by simpa using h)
      ·exact .inr ⟨by rw [h]; decide, by simpa using h⟩
     clear hrem hl
     rcases key with h | ⟨h, h2⟩
     ·rw [h] at e35
      go_wp2_with fail
      go_roundg g2
      case measure => omega
      case rel => exact ⟨i + 1, a, cap, rs, by omega, rfl, by go_num, HS6⟩
     ·rw [h] at e35
      rw [h2] at e59
      go_wp2_with fail
      go_roundg g2
      case measure => omega
      case rel => exact ⟨i + 1, a, cap, rs, by omega, rfl, by go_num, HS6⟩
    ·have h35 : (c == 35) = false := by simpa using fun e => hrem (.inl e)
     have h59 : (c == 59) = false := by simpa using fun e => hrem (.inr e)
     rw [h35] at e35
     rw [h59] at e59
     by_cases hres : c :: r = [33]
     ·have HS6 := Lib.hid (HS5.out.reset HLi.out (by
       rw [HTl.out, hl]
       show (if c = 35 ∨ c = 59 then LineR.skip else if c :: r = [33] then .reset else _) = _
       rw [if_neg hrem, if_pos hres]))
      have hb : (t.toList == [33]) = true := by rw [Lib.toList_data, hl, hres]; rfl
      clear hrem hl hres
      go_wp2_with fail
      go_roundg g2
      case measure => omega
      case rel => exact ⟨i + 1, none, 0, [], by omega, rfl, by go_num, HS6⟩
     ·have hb : (t.toList == [33]) = false := by rw [Lib.toList_data, hl]; simpa using hres
      have HLt : Hid (lineR x.data.toList = match ruleR t.data.toList with | .inr e => .err e | .inl p => .rule p) := Lib.hid (by
       rw [HTl.out, hl]
       exact lineT_cons hrem hres)
      have HRr := Lib.hid (readRule_any dep t w5 (by omega) (by omega) (by omega) ((HE.out.under HB3.out).under HS5.out.below))
      clear hrem hl hres h35 h59
      obtain ⟨RQ, hRQ⟩ : ∃ RQ, ruleR t.data.toList = RQ := ⟨_, rfl⟩
      rw [hRQ] at HLt HRr
      clear hRQ
      cases RQ with
      | inr er =>
       have HRe := Lib.hid (HS5.out.err HLi.out HLt.out)
       go_upto_region 9 with (go_at_call 61; refine HRr.out.mono ?_; rintro e w6 ⟨v6, rfl, hb6, hne, b1, b2, b3, a6, N6, c6, rfl⟩; have HNe := Lib.hid hne; have HB6 := Lib.hid (HB3.out.trans ((HS5.out.below.trans (hb6.mono HS5.out.below.size)).mono HB3.out.size)); clear hb6 hne)
       have HBx := Lib.hid (HB6.out.trans ((bAlloc (Below.refl w6.heap.size w6) (.cells #[.bool b1, .bool b2, .bool b3, .slice a6 N6 c6] ruTy)).mono HB6.out.size))
       generalize w6.alloc _ = w7 at *
       have hz : (er == 0) = false := by simpa using HNe.out
       have hz2 : (er != 0) = true := by simpa using HNe.out
       go_wp2_with fail
       go_ret3
       refine ⟨_, rfl, HBx.out, ?_⟩
       rw [HRe.out]
       exact ⟨HNe.out, rfl⟩
      | inl p =>
       go_upto_region 9 with (go_at_call 61; refine HRr.out.mono ?_; rintro e w6 ⟨v6, rfl, hb6, q, rfl, hm6, hp6, hz6⟩; have HS6 := Lib.hid (HS5.out.under hb6); have HM6 := Lib.hid hm6; have HP6 := Lib.hid hp6; have HZ6 := Lib.hid hz6; have hz56 := hb6.size; clear hb6 hm6 hp6 hz6; obtain ⟨q1, q2, q3, ⟨qa, qc, qx⟩⟩ := q; obtain ⟨qn, hqn⟩ : ∃ qn, qx.length = qn := ⟨_, rfl⟩; rw [show ruleArr (⟨q1, q2, q3, ⟨qa, qc, qx⟩⟩ : RuleOf dep) = #[.bool q1, .bool q2, .bool q3, .slice qa qn qc] by rw [← hqn]]; have HQn := Lib.hid hqn; clear hqn)
       have HB7 := Lib.hid (bAlloc (Below.refl w6.heap.size w6) (.cells #[.bool q1, .bool q2, .bool q3, .slice qa qn qc] ruTy))
       have HX7 := Lib.hid (BoxIs.new w6 #[.bool q1, .bool q2, .bool q3, .slice qa qn qc] ruTy)
       have HS7 := Lib.hid (HS6.out.under HB7.out)
       have HM7 := Lib.hid (HM6.out.same HB7.out.size (fun k hk => HB7.out.block k (HM6.out.fp k hk).2))
       obtain ⟨xb, hxb⟩ : ∃ xb, xb = w6.heap.size := ⟨_, rfl⟩
       rw [← hxb] at HX7 ⊢
       clear hxb
       have hz57 : w5.heap.size ≤ w6.heap.size := hz56
       generalize w6.alloc _ = w7 at *
       have k0 := HX7.out.cell (j := 0) rfl
       have k1 := HX7.out.cell (j := 1) rfl
       have k2 := HX7.out.cell (j := 2) rfl
       have k3 := HX7.out.cell (j := 3) rfl
       have HB8 := Lib.hid (bAlloc (Below.refl w7.heap.size w7) (.cells #[.bool q1, .bool q2, .bool q3, .slice qa qn qc] ruTy))
       have HX8 : Hid (BoxIs (w7.alloc (.cells #[.bool q1, .bool q2, .bool q3, .slice qa qn qc] ruTy)) w7.heap.size (ruleCells (⟨q1, q2, q3, ⟨qa, qc, qx⟩⟩ : RuleOf dep)).toArray ruTy) := Lib.hid (by
        have h1 := BoxIs.new w7 #[.bool q1, .bool q2, .bool q3, .slice qa qn qc] ruTy
        have h2 : (ruleCells (⟨q1, q2, q3, ⟨qa, qc, qx⟩⟩ : RuleOf dep)).toArray = #[.bool q1, .bool q2, .bool q3, .slice qa qn qc] := by rw [← HQn.out]; rfl
        rw [h2]
        exact h1)
       have HS8 := Lib.hid (HS7.out.under HB8.out)
       have HM8 := Lib.hid (HM7.out.same HB8.out.size (fun k hk => HB8.out.block k (HM7.out.fp k hk).2))
       go_wp2_with (at_builtin; refine wpl_app elemRu (by decide) rfl ruleCells_len ruleOne (by decide) HS8.out.below.size HS8.out.ru.own (by have := HS8.out.len; omega) (⟨q1, q2, q3, ⟨qa, qc, qx⟩⟩ : RuleOf dep) HX8.out rfl (.tmp 32) (.tmp 34) rfl rfl rfl ?_)
       intro g cap' w' hown hgr hat hlt'
       have HS9 := Lib.hid (HS8.out.snoc rfl HLi.out (by rw [HLt.out, ← HP6.out]) (HM8.out.mono HS5.out.below.size) HZ6.out (fun k hk e => by
        have h1 := (HM6.out.fp k hk).1
        have h2 := (HS5.out.ru.own.base k e).2.1
        omega) hown hgr (hat.imp id (fun e => by rw [e]; simp)))
       clear hown hgr hat hlt' k0 k1 k2 k3
       go_wp2_with fail
       go_roundg g2
       case measure => omega
       case rel => exact ⟨i + 1, _, cap', rs ++ [⟨q1, q2, q3, ⟨qa, qc, qx⟩⟩], by omega, by rw [List.length_append]; rfl, by go_num, HS9⟩
  ·have hi1 : ¬ (i : Int) < (N : Int) := by omega
   have HGo : Hid ((if 200 < rs.length then RR.err 0 8 else .ok (rs.map prOf)) = R) := Lib.hid (by
    have h1 := HS.out.go
    rw [List.drop_of_length_le (by rw [HLl.out]; omega)] at h1
    rw [← h1]
    show _ = (if 200 < (rs.map prOf).length then RR.err 0 8 else .ok (rs.map prOf))
    rw [List.length_map])
   have hrl := HS.out.len
   by_cases h200 : 200 < rs.length
   ·have h2I : (200 : Int) < (rs.length : Int) := by omega
    have HRe : Hid (RR.err 0 8 = R) := Lib.hid (by
     have h1 := HGo.out
     rw [if_pos h200] at h1
     exact h1)
    clear h200
    go_wp2_with fail
    go_ret3
    refine ⟨_, rfl, HB3.out.trans (HS.out.below.mono HB3.out.size), ?_⟩
    rw [← HRe.out]
    exact ⟨by decide, rfl⟩
   ·have h2I : ¬ (200 : Int) < (rs.length : Int) := by omega
    have HRe : Hid (RR.ok (rs.map prOf) = R) := Lib.hid (by
     have h1 := HGo.out
     rw [if_neg h200] at h1
     exact h1)
    clear h200
    go_wp2_with fail
    go_ret3
    refine ⟨_, rfl, HB3.out.trans (HS.out.below.mono HB3.out.size), ?_⟩
    rw [← HRe.out]
    exact ⟨a, cap, rs, rfl, HS.out.ru.mono HB3.out.size, rfl, HS.out.sz⟩
end Go.Proofs.YtfenmeacimfiaaaGreatDoor
namespace Go.Proofs.YtfenmeacimfiaaaGreatDoor
open Go.RowKit Wh.G

set_option maxHeartbeats 4000000 in
set_option maxRecDepth 100000 in
theorem refParseRules_any (dep : Nat) (T : ByteArray) (w : World) (hs : T.size ≤ maxLen) (hD : T.size < dep) (hE : Env w) :
  Calls Tryz.prog 19 #[.string T] w fun e w' => ∃ v, e = .returned v ∧ Below w.heap.size w w' ∧ RsPost dep w.heap.size (rulesR T.data.toList) v w' := by
 unfold maxLen at hs
 have HE := Lib.hid hE
 by_cases hbig : 65536 < T.size
 ·have hR : rulesR T.data.toList = .err 0 8 := by
   unfold rulesR
   rw [← Lib.size_eq, if_pos hbig]
  rw [hR]
  have hI : (65536 : Int) < (T.size : Int) := by omega
  clear hbig hR hE
  go_enter Tryz.func19, Tryz.ntmps19
  go_wp2_with fail
  go_ret3
  exact ⟨_, rfl, Below.refl _ _, by decide, rfl⟩
 have hI : ¬ (65536 : Int) < (T.size : Int) := by omega
 obtain ⟨R, hR⟩ : ∃ R, rulesR T.data.toList = R := ⟨_, rfl⟩
 rw [hR]
 have HRv : Hid (rulesGo 0 [] (Wh.splitC 10 T.data.toList) = R) := Lib.hid (by
  rw [← hR]
  unfold rulesR
  rw [← Lib.size_eq, if_neg hbig])
 have HSp := Lib.hid (split_one 10 T w hE (by omega))
 have HRow := Lib.hid (BoxIs.new w ((Wh.pieces 10 T).map Value.string).toArray 9)
 have HB3 := Lib.hid (bAlloc (Below.refl w.heap.size w) (.cells ((Wh.pieces 10 T).map Value.string).toArray 9))
 clear hE hR
 go_enter Tryz.func19, Tryz.ntmps19
 go_wp2_with (go_at_call 22; refine HSp.out.mono ?_; rintro e w3 ⟨rfl, hw3⟩; rw [← hw3] at HRow HB3; clear hw3)
 obtain ⟨ys, hys⟩ : ∃ ys, ys = Wh.pieces 10 T := ⟨_, rfl⟩
 have HAll : Hid (∀ (j : Nat) (x : ByteArray), ys[j]? = some x → ((ys.map Value.string).toArray)[j]? = some (.string x)) := Lib.hid (fun j y h => by
  rw [List.getElem?_toArray, List.getElem?_map, h]
  rfl)
 have HGo := Lib.hid ((rules_lines (.inl hys)).trans HRv.out)
 have HMem := Lib.hid (fun x (hx : x ∈ ys) => lines_mem (.inl hys) hx)
 have hyl := lines_len (.inl hys)
 rw [← hys] at HRow ⊢
 clear hys
 generalize (ys.map Value.string).toArray = vs at *
 clear HSp HRv
 obtain ⟨N, hN⟩ : ∃ N, ys.length = N := ⟨_, rfl⟩
 rw [hN] at hyl
 have HN := Lib.hid hN
 obtain ⟨ls, hls⟩ : ∃ ls, ys.map (·.data.toList) = ls := ⟨_, rfl⟩
 rw [hls] at HGo
 have HLs : Hid (∀ (i : Nat) (x : ByteArray), ys[i]? = some x → ls[i]? = some x.data.toList) := Lib.hid (fun i x h => by rw [← hls, List.getElem?_map, h]; rfl)
 have HLl : Hid (ls.length = N) := Lib.hid (by rw [← hls, List.length_map]; exact hN)
 rw [hN]
 clear hN hls
 have HS0 : Hid (RuS dep w3.heap.size w3 w3 none 0 [] 0 R ls) := Lib.hid ⟨Below.refl _ _, RuAt.nil _ _ _, Nat.le_refl _, fun r hr => (by cases hr), HGo.out⟩
 clear HGo
 go_loopg [5, 17] N (fun g s5 s16 wx => ∃ (i : Nat) (a : Option Addr) (cap : Nat) (rs : List (RuleOf dep)), i + g = N ∧ s5 = .slice a rs.length cap ∧ s16 = .int .i64 i ∧ Hid (RuS dep w3.heap.size w3 wx a cap rs i R ls))
 case atStart => exact ⟨0, none, 0, [], by omega, rfl, rfl, HS0⟩
 case round =>
  clear HS0
  obtain ⟨i, a, cap, rs, hg, rfl, rfl, HS⟩ := hrel
  by_cases hlt : i < N
  ·obtain ⟨g2, rfl⟩ : ∃ g2, gk = g2 + 1 := ⟨gk - 1, by omega⟩
   obtain ⟨x, hx⟩ : ∃ x, ys[i]? = some x := ⟨_, List.getElem?_eq_getElem (by rw [HN.out]; exact hlt)⟩
   have hxs := HMem.out x (List.mem_of_getElem? hx)
   have HLi := Lib.hid (HLs.out i x hx)
   have ci := (HRow.out.under HS.out.below).cell (HAll.out i x hx)
   have hi1 : (i : Int) < (N : Int) := by omega
   have hi0 : (0 : Int) ≤ (i : Int) := by omega
   obtain ⟨t, ht⟩ : ∃ t : ByteArray, t = ⟨(Lib.trimS x.data.toList [32, 9]).toArray⟩ := ⟨_, rfl⟩
   have htl : lineR x.data.toList = lineT t.data.toList := by rw [ht]; rfl
   have htz : t.size ≤ T.size := by
    have := trimS_len x.data.toList [32, 9]
    rw [← Lib.size_eq] at this
    rw [ht, Lib.size_eq]
    show (Lib.trimS x.data.toList [32, 9]).length ≤ T.size
    omega
   have HTr := Lib.hid (trim_any x wr (by omega))
   rw [← ht] at HTr
   have HTl := Lib.hid htl
   clear hx ht htl
   go_upto_region 8 with (go_at_call 60; refine HTr.out.mono ?_; rintro e w5 ⟨rfl, hb5⟩; have HS5 := Lib.hid (HS.out.under hb5); clear hb5)
   clear ci HTr HS
   by_cases h0 : t.size = 0
   ·have he : t.toList.isEmpty = true := by
     rw [Lib.toList_data, List.eq_nil_of_length_eq_zero ((Lib.size_eq t).symm.trans h0)]
     rfl
    have HS6 := Lib.hid (HS5.out.skip HLi.out (by rw [HTl.out, List.eq_nil_of_length_eq_zero ((Lib.size_eq t).symm.trans h0)]; rfl))
    clear h0
    go_wp2_with fail
    go_roundg g2
    case measure => omega
    case rel => exact ⟨i + 1, a, cap, rs, by omega, rfl, by go_num, HS6⟩
   ·obtain ⟨c, hc⟩ : ∃ c : UInt8, t[0]'(by omega) = c := ⟨_, rfl⟩
    have hc' : t[0] = c := hc
    obtain ⟨r, hl⟩ : ∃ r, t.data.toList = c :: r := by
     have h1 := Lib.data_getElem? t 0 (by omega)
     cases h2 : t.data.toList with
     | nil => rw [h2] at h1; cases h1
     | cons u r =>
      rw [h2] at h1
      injection h1 with h1
      exact ⟨r, by rw [h1, hc]⟩
    have he : t.toList.isEmpty = false := by rw [Lib.toList_data, hl]; rfl
    have ht0 : (0 : Int) < (t.size : Int) := by omega
    have e35 := u8_eq c 35
    have e59 := u8_eq c 59
    change ((c.toNat : Int) == 35) = _ at e35
    change ((c.toNat : Int) == 59) = _ at e59
    have HL := Lib.hid hl
    by_cases hrem : c = 35 ∨ c = 59
    ·have HS6 := Lib.hid (HS5.out.skip HLi.out (by
      rw [HTl.out, hl]
      show (if c = 35 ∨ c = 59 then LineR.skip else _) = _
      rw [if_pos hrem]))
     have key : (c == 35) = true ∨ ((c == 35) = false ∧ (c == 59) = true) := by
      rcases hrem with h | h
      ·exact .inl (by simpa using h)
      ·exact .inr ⟨by rw [h]; decide, by simpa using h⟩
     clear hrem hl
     rcases key with h | ⟨h, h2⟩
     ·rw [h] at e35
      go_wp2_with fail
      go_roundg g2
      case measure => omega
      case rel => exact ⟨i + 1, a, cap, rs, by omega, rfl, by go_num, HS6⟩
     ·rw [h] at e35
      rw [h2] at e59
      go_wp2_with fail
      go_roundg g2
      case measure => omega
      case rel => exact ⟨i + 1, a, cap, rs, by omega, rfl, by go_num, HS6⟩
    ·have h35 : (c == 35) = false := by simpa using fun e => hrem (.inl e)
     have h59 : (c == 59) = false := by simpa using fun e => hrem (.inr e)
     rw [h35] at e35
     rw [h59] at e59
     by_cases hres : c :: r = [33]
     ·have HS6 := Lib.hid (HS5.out.reset HLi.out (by
       rw [HTl.out, hl]
       show (if c = 35 ∨ c = 59 then LineR.skip else if c :: r = [33] then .reset else _) = _
       rw [if_neg hrem, if_pos hres]))
      have hb : (t.toList == [33]) = true := by rw [Lib.toList_data, hl, hres]; rfl
      clear hrem hl hres
      go_wp2_with fail
      go_roundg g2
      case measure => omega
      case rel => exact ⟨i + 1, none, 0, [], by omega, rfl, by go_num, HS6⟩
     ·have hb : (t.toList == [33]) = false := by rw [Lib.toList_data, hl]; simpa using hres
      have HLt : Hid (lineR x.data.toList = match ruleR t.data.toList with | .inr e => .err e | .inl p => .rule p) := Lib.hid (by
       rw [HTl.out, hl]
       exact lineT_cons hrem hres)
      clear hrem hres h35 h59
      obtain ⟨bad, hbad⟩ : ∃ bad, badL t.data.toList = bad := ⟨_, rfl⟩
      have HBad := Lib.hid hbad
      have e43 := u8_eq c 43
      have e45 := u8_eq c 45
      change ((c.toNat : Int) == 43) = _ at e43
      change ((c.toNat : Int) == 45) = _ at e45
      have n43 : ((c.toNat : Int) != 43) = !(c == 43) := by rw [bne, e43]
      have n45 : ((c.toNat : Int) != 45) = !(c == 45) := by rw [bne, e45]
      go_upto_region 11 with fail
      go_cut [40] (fun s40 wx => s40 = .bool bad ∧ Hid (RuS dep w3.heap.size w3 wx a cap rs i R ls))
      case first =>
       by_cases h1 : t.size = 1
       ·have h1I : (t.size : Int) < 2 := by omega
        have HN : Hid (bad = true) := Lib.hid (by
         rw [← hbad, hl]
         cases r with
         | nil => rfl
         | cons u v =>
          exfalso
          rw [Lib.size_eq, hl] at h1
          simp at h1)
        clear hbad hl
        cases h43 : (c == 43)
        ·cases h45 : (c == 45)
         ·rw [h43] at e43 n43
          rw [h45] at e45 n45
          clear h43 h45
          go_wp2_with fail
          go_meet
          exact ⟨by rw [HN.out], HS5⟩
         ·rw [h43] at e43 n43
          rw [h45] at e45 n45
          clear h43 h45
          go_wp2_with fail
          go_meet
          exact ⟨by rw [HN.out], HS5⟩
        ·rw [h43] at e43 n43
         clear h43
         go_wp2_with fail
         go_meet
         exact ⟨by rw [HN.out], HS5⟩
       ·have h1I : ¬ (t.size : Int) < 2 := by omega
        obtain ⟨d, hd⟩ : ∃ d : UInt8, t[1]'(by omega) = d := ⟨_, rfl⟩
        obtain ⟨r2, hl2⟩ := data_two (by omega) hc hd
        have hd' : t[1] = d := hd
        have hs1 : (1 : Int) < (t.size : Int) := by omega
        have hbd : bad = (!(c == 43 || c == 45) || !(d == 32 || d == 9)) := by rw [← hbad, hl2]; rfl
        have e32 := u8_eq d 32
        have e9 := u8_eq d 9
        change ((d.toNat : Int) == 32) = _ at e32
        change ((d.toNat : Int) == 9) = _ at e9
        have n32 : ((d.toNat : Int) != 32) = !(d == 32) := by rw [bne, e32]
        have n9 : ((d.toNat : Int) != 9) = !(d == 9) := by rw [bne, e9]
        clear hbad hl hl2
        by_cases hf : c = 43 ∨ c = 45
        ·have hcc : (c == 43 || c == 45) = true := by simpa using hf
         rw [hcc] at hbd
         have key : (c == 43) = true ∨ ((c == 43) = false ∧ (c == 45) = true) := by
          rcases hf with h | h
          ·exact .inl (by simpa using h)
          ·exact .inr ⟨by rw [h]; decide, by simpa using h⟩
         clear hf hcc
         cases h32 : (d == 32)
         ·cases h9 : (d == 9)
          ·have HN : Hid (bad = true) := Lib.hid (by rw [hbd, h32, h9]; rfl)
           rw [h32] at e32 n32
           rw [h9] at e9 n9
           clear hbd h32 h9
           rcases key with h | ⟨h, h2⟩
           ·rw [h] at e43 n43
            clear h
            go_wp2_with fail
            go_meet
            exact ⟨by rw [HN.out], HS5⟩
           ·rw [h] at e43 n43
            rw [h2] at e45 n45
            clear h h2
            go_wp2_with fail
            go_meet
            exact ⟨by rw [HN.out], HS5⟩
          ·have HN : Hid (bad = false) := Lib.hid (by rw [hbd, h32, h9]; rfl)
           rw [h32] at e32 n32
           rw [h9] at e9 n9
           clear hbd h32 h9
           rcases key with h | ⟨h, h2⟩
           ·rw [h] at e43 n43
            clear h
            go_wp2_with fail
            go_meet
            exact ⟨by rw [HN.out], HS5⟩
           ·rw [h] at e43 n43
            rw [h2] at e45 n45
            clear h h2
            go_wp2_with fail
            go_meet
            exact ⟨by rw [HN.out], HS5⟩
         ·have HN : Hid (bad = false) := Lib.hid (by rw [hbd, h32]; rfl)
          rw [h32] at e32 n32
          clear hbd h32
          rcases key with h | ⟨h, h2⟩
          ·rw [h] at e43 n43
           clear h
           go_wp2_with fail
           go_meet
           exact ⟨by rw [HN.out], HS5⟩
          ·rw [h] at e43 n43
           rw [h2] at e45 n45
           clear h h2
           go_wp2_with fail
           go_meet
           exact ⟨by rw [HN.out], HS5⟩
        ·have h43 : (c == 43) = false := by simpa using fun e => hf (.inl e)
         have h45 : (c == 45) = false := by simpa using fun e => hf (.inr e)
         have HN : Hid (bad = true) := Lib.hid (by rw [hbd, h43, h45]; rfl)
         rw [h43] at e43 n43
         rw [h45] at e45 n45
         clear hbd hf h43 h45
         go_wp2_with fail
         go_meet
         exact ⟨by rw [HN.out], HS5⟩
      case rest =>
       obtain ⟨rfl, HS6⟩ := hcut
       clear HS5 n43 n45 e45 hbad
       cases bad
       rotate_left 1
       ·have HRe := Lib.hid (HS6.out.err HLi.out (by rw [HLt.out, ruleR_bad HBad.out]))
        have HB6 := Lib.hid (HB3.out.trans (HS6.out.below.mono HB3.out.size))
        go_wp2_with fail
        go_ret3
        refine ⟨_, rfl, HB6.out, ?_⟩
        rw [HRe.out]
        exact ⟨by decide, rfl⟩
       ·have h2 : 1 < t.size := by
         refine Nat.lt_of_not_le fun h => ?_
         have h1 := HBad.out
         rw [hl] at h1
         rw [Lib.size_eq, hl] at h
         cases r with
         | nil => cases h1
         | cons u v => simp at h
        obtain ⟨d, hd⟩ : ∃ d : UInt8, t[1] = d := ⟨_, rfl⟩
        obtain ⟨r2, hl2⟩ := data_two h2 hc hd
        have hbl := HBad.out
        rw [hl2] at hbl
        have HLt2 : Hid (lineR x.data.toList = match pgR (Lib.trimLeftS (d :: r2) [32, 9]) with | .err e => .err e | .ok rt D l => .rule ⟨c == 43, rt, D, l⟩) := Lib.hid (by
         rw [HLt.out, hl2, ruleR_good hbl]
         cases pgR (Lib.trimLeftS (d :: r2) [32, 9]) <;> rfl)
        have hex : (t.extract 1 t.size).data.toList = d :: r2 := by
         rw [ext_left]
         unfold left
         rw [Lib.size_eq, List.take_length, hl2]
         rfl
        obtain ⟨T2, hT2⟩ : ∃ T2 : ByteArray, T2 = ⟨(Lib.trimLeftS (d :: r2) [32, 9]).toArray⟩ := ⟨_, rfl⟩
        have hTz : T2.size ≤ t.size := by
         rw [hT2, Lib.size_eq]
         have h3 := trimLeftS_len (d :: r2) [32, 9]
         have h4 := congrArg List.length hl2
         rw [← Lib.size_eq] at h4
         simp only [List.length_cons] at h3 h4
         show (Lib.trimLeftS (d :: r2) [32, 9]).length ≤ t.size
         omega
        have HTl2 := Lib.hid (trimLeft_any (t.extract 1 t.size) wc)
        rw [hex, ← hT2] at HTl2
        have HPg := Lib.hid (fun W => refParseGlob_any dep T2 W (by unfold maxLen; omega) (by omega))
        have HT2d : Hid (pgR T2.data.toList = pgR (Lib.trimLeftS (d :: r2) [32, 9])) := Lib.hid (by rw [hT2])
        have h2I : (1 : Int) ≤ (t.size : Int) := by omega
        clear hT2 hex hbl hl hl2 hd HBad HLt
        go_upto_region 14 with (first | (go_at_call 62; refine HTl2.out.mono ?_; rintro e w7 ⟨rfl, hb7⟩; have HS7 := Lib.hid (HS6.out.under hb7); clear hb7; have HPg7 := Lib.hid (HPg.out w7)) | (go_at_call 13; refine HPg7.out.mono ?_; rintro e w8 ⟨v8, rfl, hb8, hp8⟩; have HF8 := Lib.hid (pg_form hp8); obtain ⟨rt, D, pl, er, a8, N8, c8, rfl⟩ := pg_one hp8; have HS8 := Lib.hid (HS7.out.under hb8); have hz78 := hb8.size; clear hb8 hp8))
        have HBx := Lib.hid (bAlloc (Below.refl w8.heap.size w8) (.cells #[.bool rt, .bool D, .slice a8 N8 c8] glTy))
        have HX9 := Lib.hid (BoxIs.new w8 #[.bool rt, .bool D, .slice a8 N8 c8] glTy)
        have HS9 := Lib.hid (HS8.out.under HBx.out)
        obtain ⟨xb, hxb⟩ : ∃ xb, xb = w8.heap.size := ⟨_, rfl⟩
        rw [← hxb] at HX9 ⊢
        have HXb := Lib.hid hxb
        clear hxb
        generalize w8.alloc _ = w9 at *
        have hf8 := HF8.out
        obtain ⟨PR, hPR⟩ : ∃ PR, pgR T2.data.toList = PR := ⟨_, rfl⟩
        rw [hPR] at hf8
        rw [← HT2d.out, hPR] at HLt2
        clear hPR HF8 HTl2 HPg HPg7 HT2d
        cases PR with
        | err ee =>
         obtain ⟨hne, pl2, hv⟩ := hf8
         simp only [Value.tuple.injEq, Array.mk.injEq, List.cons.injEq, Value.agg.injEq, Value.bool.injEq, Value.slice.injEq, Value.int.injEq, true_and, and_true] at hv
         obtain ⟨-, -, rfl⟩ := hv
         have HRe := Lib.hid (HS9.out.err HLi.out HLt2.out)
         have HB9 := Lib.hid (HB3.out.trans (HS9.out.below.mono HB3.out.size))
         have hz : (er == 0) = false := by simpa using hne
         have hz2 : (er != 0) = true := by simpa using hne
         have HNe := Lib.hid hne
         clear hne
         go_wp2_with fail
         go_ret3
         refine ⟨_, rfl, HB9.out, ?_⟩
         rw [HRe.out]
         exact ⟨HNe.out, rfl⟩
        | ok rt2 D2 l2 =>
         obtain ⟨s2, hm, hgl, hsz, hv⟩ := hf8
         obtain ⟨sa, sc, qx⟩ := s2
         simp only [Value.tuple.injEq, Array.mk.injEq, List.cons.injEq, Value.agg.injEq, Value.bool.injEq, Value.slice.injEq, Value.int.injEq, true_and, and_true] at hv
         obtain ⟨⟨q1, q2, q3, q4, q5⟩, q6, q7⟩ := hv
         subst q1 q2 q3 q5 q6 q7
         have HM8 := Lib.hid hm
         have HGl := Lib.hid hgl
         have HSz := Lib.hid hsz
         have HQn := Lib.hid q4
         clear hm hgl hsz q4
         obtain ⟨cb, hcb⟩ : ∃ cb, (c == 43) = cb := ⟨_, rfl⟩
         rw [hcb] at e43 HLt2
         clear hcb
         have HM9 := Lib.hid (HM8.out.same HBx.out.size (fun k hk => HBx.out.block k (HM8.out.fp k hk).2))
         have k0 := HX9.out.cell (j := 0) rfl
         have k1 := HX9.out.cell (j := 1) rfl
         have k2 := HX9.out.cell (j := 2) rfl
         have h0N : 0 < t.size := by omega
         go_upto_region 16 with fail
         refine wp_region_seqU (fun W => W.cell? ⟨xb, 0, none⟩ = some (.bool rt) ∧ W.cell? ⟨xb, 1, none⟩ = some (.bool D) ∧ W.cell? ⟨xb, 2, none⟩ = some (.slice a8 N8 c8)) 8 [(0, true), (1, true), (2, true), (3, true), (4, true), (5, true), (6, false), (7, false), (8, true)] (by as_aux_lemma => kernel_rfl) (by as_aux_lemma => kernel_rfl) (by as_aux_lemma => kernel_rfl) (by decide) (by as_aux_lemma => kernel_rfl) (by decide) ⟨k0, k1, k2⟩ ?_
         intro OPS HO
         clear k0 k1 k2
         iterate 6
          refine seqT_take (o := ⟨_, _, _, _, _, _⟩) (v := ?_) (by rw [HO.out]; rfl) (by rfl) ?_ ?_
          rotate_left 1
          ·first | ((intro W _; go_simp) <;> with_reducible rfl) | (intro W hW; have s1 := hW.1; have s2 := hW.2.1; have s3 := hW.2.2; (go_simp <;> with_reducible rfl))
          try simp only [Act.put, List.setIfInBounds_toArray, List.set_cons_zero, List.set_cons_succ]
         refine seqT_do (o := ⟨_, _, _, _, _, _⟩) (by rw [HO.out]; rfl) (by rfl) (fun K hK => ?_)
         have HBy := Lib.hid (bAlloc (Below.refl w9.heap.size w9) (.cells #[.bool cb, .bool rt, .bool D, .slice a8 N8 c8] ruTy))
         have HXy := Lib.hid (HX9.out.under HBy.out)
         have y0 := HXy.out.cell (j := 0) rfl
         have y1 := HXy.out.cell (j := 1) rfl
         have y2 := HXy.out.cell (j := 2) rfl
         go_wp2_with fail
         refine hK.out _ _ (fun _ => ⟨y0, y1, y2⟩) ?_
         clear hK K
         try simp only [Act.put, List.setIfInBounds_toArray, List.set_cons_zero, List.set_cons_succ]
         refine seqT_do (o := ⟨_, _, _, _, _, _⟩) (by rw [HO.out]; rfl) (by rfl) (fun K hK => ?_)
         have HBz : Hid (Below w9.heap.size w9 (w9.alloc (.cells #[.bool cb, .bool rt, .bool D, .slice a8 N8 c8] ruTy)).drew) := Lib.hid (bDrewN (bAlloc (Below.refl w9.heap.size w9) (.cells #[.bool cb, .bool rt, .bool D, .slice a8 N8 c8] ruTy)) 1)
         have HS10 := Lib.hid (HS9.out.under HBz.out)
         have HM10 := Lib.hid (HM9.out.same HBz.out.size (fun k hk => HBz.out.block k (HM9.out.fp k hk).2))
         have HXr : Hid (BoxIs (w9.alloc (.cells #[.bool cb, .bool rt, .bool D, .slice a8 N8 c8] ruTy)).drew w9.heap.size (ruleCells (⟨cb, rt, D, ⟨a8, c8, qx⟩⟩ : RuleOf dep)).toArray ruTy) := Lib.hid (by
          have h1 := BoxIs.new w9 #[.bool cb, .bool rt, .bool D, .slice a8 N8 c8] ruTy
          have h2 : (ruleCells (⟨cb, rt, D, ⟨a8, c8, qx⟩⟩ : RuleOf dep)).toArray = #[.bool cb, .bool rt, .bool D, .slice a8 N8 c8] := by
           show #[Value.bool cb, .bool rt, .bool D, .slice a8 qx.length c8] = _
           rw [← HQn.out]
          rw [h2]
          exact h1)
         refine wpo_app elemRu (by decide) rfl ruleCells_len ruleOne (by decide) HS10.out.below.size HS10.out.ru.own (by have := HS10.out.len; omega) (⟨cb, rt, D, ⟨a8, c8, qx⟩⟩ : RuleOf dep) HXr.out (.tmp 77) (.tmp 83) rfl rfl rfl ?_
         intro g cap' w' hown hgr hat hlt'
         have HS11 := Lib.hid (HS10.out.snoc rfl HLi.out (q := ⟨cb, rt, D, ⟨a8, c8, qx⟩⟩) (by
          rw [HLt2.out]
          show LineR.rule ⟨cb, rt, D, _⟩ = LineR.rule ⟨cb, rt, D, gpL dep qx⟩
          rw [HGl.out]) (HM10.out.mono HS7.out.below.size) HSz.out (fun k hk e => by
          have h1 := (HM8.out.fp k hk).1
          have h2 := (HS7.out.ru.own.base k e).2.1
          omega) hown hgr hat)
         have HX11 : Hid (BoxIs w' xb #[.bool rt, .bool D, .slice a8 N8 c8] glTy) := Lib.hid ((hgr.block xb HXy.out.lt (fun e => by
          have h2 := (HS8.out.ru.own.base xb e.symm).2.1
          have h3 := HXb.out
          omega)).trans HXy.out)
         have z0 := HX11.out.cell (j := 0) rfl
         have z1 := HX11.out.cell (j := 1) rfl
         have z2 := HX11.out.cell (j := 2) rfl
         clear hown hgr hat hlt' y0 y1 y2
         refine hK.out _ _ (fun _ => ⟨z0, z1, z2⟩) ?_
         clear hK K
         try simp only [Act.put, List.setIfInBounds_toArray, List.set_cons_zero, List.set_cons_succ]
         clear z0 z1 z2
         refine seqT_take (o := ⟨_, _, _, _, _, _⟩) (v := ?_) (by rw [HO.out]; rfl) (by rfl) ?_ ?_
         rotate_left 1
         ·first | ((intro W _; go_simp) <;> with_reducible rfl) | (intro W hW; have s1 := hW.1; have s2 := hW.2.1; have s3 := hW.2.2; (go_simp <;> with_reducible rfl))
         try simp only [Act.put, List.setIfInBounds_toArray, List.set_cons_zero, List.set_cons_succ]
         refine seqT_done ?_
         go_wp2_with fail
         go_roundg g2
         case measure => omega
         case rel => exact ⟨i + 1, _, cap', rs ++ [⟨cb, rt, D, ⟨a8, c8, qx⟩⟩], by omega, by rw [List.length_append]; rfl, by go_num, HS11⟩
  ·have hi1 : ¬ (i : Int) < (N : Int) := by omega
   have HGo : Hid ((if 200 < rs.length then RR.err 0 8 else .ok (rs.map prOf)) = R) := Lib.hid (by
    have h1 := HS.out.go
    rw [List.drop_of_length_le (by rw [HLl.out]; omega)] at h1
    rw [← h1]
    show _ = (if 200 < (rs.map prOf).length then RR.err 0 8 else .ok (rs.map prOf))
    rw [List.length_map])
   have hrl := HS.out.len
   by_cases h200 : 200 < rs.length
   ·have h2I : (200 : Int) < (rs.length : Int) := by omega
    have HRe : Hid (RR.err 0 8 = R) := Lib.hid (by
     have h1 := HGo.out
     rw [if_pos h200] at h1
     exact h1)
    clear h200
    go_wp2_with fail
    go_ret3
    refine ⟨_, rfl, HB3.out.trans (HS.out.below.mono HB3.out.size), ?_⟩
    rw [← HRe.out]
    exact ⟨by decide, rfl⟩
   ·have h2I : ¬ (200 : Int) < (rs.length : Int) := by omega
    have HRe : Hid (RR.ok (rs.map prOf) = R) := Lib.hid (by
     have h1 := HGo.out
     rw [if_neg h200] at h1
     exact h1)
    clear h200
    go_wp2_with fail
    go_ret3
    refine ⟨_, rfl, HB3.out.trans (HS.out.below.mono HB3.out.size), ?_⟩
    rw [← HRe.out]
    exact ⟨a, cap, rs, rfl, HS.out.ru.mono HB3.out.size, rfl, HS.out.sz⟩
end Go.Proofs.YtfenmeacimfiaaaGreatDoor
